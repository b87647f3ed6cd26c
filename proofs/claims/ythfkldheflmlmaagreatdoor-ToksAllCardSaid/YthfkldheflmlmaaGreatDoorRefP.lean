/- The reference's attributes (rectoref05.attr): its contract. -/
import Derived.Test.YthfkldheflmlmaaGreatDoorRefO
import Derived.Test.YthfkldheflmlmaaGreatDoorTagW
namespace Go.Proofs.YthfkldheflmlmaaGreatDoor
open Go.RowKit Go.Lib

theorem rfind_unt (b : UInt8) : ∀ l : List UInt8, rfindL [b] l = untN [b] l
  | [] => rfl
  | c :: t => by
    rw [rfindL, untN_cons]
    have hp : hasPrefix (c :: t) [b] = (b == c) := by simp [hasPrefix, List.isPrefixOf]
    rw [hp]
    have hc : [b].contains c = (c == b) := by rw [List.contains_cons, List.contains_nil, Bool.or_false]
    rw [hc, show (c == b) = (b == c) from Bool.beq_comm]
    cases b == c with
    | true => rfl
    | false => rw [if_neg (by simp), if_neg (by simp), rfind_unt b t, Nat.add_comm]
def rattrV (a : (List UInt8 × List UInt8) × Bool × Nat) (i : Nat) : Value :=
  if a.2.1 = true then .agg #[.string (mkS a.1.1), .string (mkS a.1.2), .int .i64 ((i + a.2.2 : Nat) : Int)] else .agg #[.string ⟨#[]⟩, .string ⟨#[]⟩, .int .i64 (-1)]
theorem is_one (s : ByteArray) (k : Nat) (c : UInt8) (hs : s.size ≤ 1000000) (hk : k ≤ s.size) (x : ByteArray) (hx : x.data.toList = [c]) (b : Bool) (hb : headIs (s.data.toList.drop k) c.toNat = b) :
    ∀ W, Calls Tryz.prog 57 #[.string s, .int .i64 (k : Int), .string x] W fun e w' => e = .returned (.bool b) ∧ W = w' := fun W => by
  have hz : x.size = 1 := by rw [← len_toL, hx]; rfl
  have := ris_calls W s x k hs (by omega) (by omega) (by omega)
  rwa [hx, hasPrefix_one, hb] at this
set_option maxRecDepth 100000 in
set_option maxHeartbeats 8000000 in
theorem rattr_calls (w : World) (s : ByteArray) (i : Nat) (hi : i < s.size) (hs : s.size ≤ 1000000) :
    Calls Tryz.prog 62 #[.string s, .int .i64 i] w fun e w' => e = .returned (rattrV (attrL (s.data.toList.drop i)) i) ∧ Below w.heap.size w w' := by
  obtain ⟨av, hav⟩ : ∃ av, attrL (s.data.toList.drop i) = av := ⟨_, rfl⟩
  have HAV := Lib.hid hav
  rw [hav]
  clear hav
  have u1 := untN_le attrStops (s.data.toList.drop (i + 1))
  rw [List.length_drop, len_toL] at u1
  obtain ⟨e, he⟩ : ∃ e, i + 1 + untN attrStops (s.data.toList.drop (i + 1)) = e := ⟨_, rfl⟩
  have u2 := spN_le (s.data.toList.drop e)
  rw [List.length_drop, len_toL] at u2
  obtain ⟨k, hk⟩ : ∃ k, e + spN (s.data.toList.drop e) = k := ⟨_, rfl⟩
  have hie : i < e ∧ e ≤ s.size ∧ e ≤ k ∧ k ≤ s.size := by omega
  obtain ⟨c, hc⟩ : ∃ c, headIs (s.data.toList.drop k) 61 = c := ⟨_, rfl⟩
  obtain ⟨nm, hnm⟩ : ∃ nm, lowL ((s.data.toList.drop i).take (e - i)) = nm := ⟨_, rfl⟩
  have hat : av = if c = true then ((nm, (valL (s.data.toList.drop (k + 1))).1), (valL (s.data.toList.drop (k + 1))).2.1, k - i + 1 + (valL (s.data.toList.drop (k + 1))).2.2) else ((nm, []), true, e - i) := by
    rw [← HAV.out, attrL]
    simp only [List.drop_drop, ← Nat.add_assoc]
    have a1 : 1 + untN attrStops (s.data.toList.drop (i + 1)) = e - i := by omega
    rw [a1, he, hnm, hk, hc]
    have a2 : e - i + spN (s.data.toList.drop e) = k - i := by omega
    rw [a2]
  have E1 : Hid (∀ W, Calls Tryz.prog 60 #[.string s, .int .i64 ((i : Int) + 1), .string ⟨#[47, 62, 61]⟩] W fun v w' => v = .returned (.int .i64 (e : Int)) ∧ Below W.heap.size W w') := Lib.hid (fun W => by
    have := rends_calls W s ⟨#[47, 62, 61]⟩ (i + 1) hs (by decide) (by omega)
    rw [show spS (⟨#[47, 62, 61]⟩ : ByteArray).data.toList = attrStops from rfl, he] at this
    rwa [show (((i + 1 : Nat)) : Int) = (i : Int) + 1 by omega] at this)
  have LC : Hid (∀ W, Calls Tryz.prog 58 #[.string (s.extract i e)] W fun v w' => v = .returned (.string (mkS nm)) ∧ Below W.heap.size W w') := Lib.hid (fun W => by
    have hz : (s.extract i e).size ≤ 1000000 := by rw [← len_toL, toL_extract, List.length_take, List.length_drop, len_toL]; omega
    have := rlower_calls W (s.extract i e) hz
    rwa [toL_extract, hnm] at this)
  have S1 : Hid (∀ W, Calls Tryz.prog 61 #[.string s, .int .i64 (e : Int)] W fun v w' => v = .returned (.int .i64 (k : Int)) ∧ W = w') := Lib.hid (fun W => by
    have := rskip_calls W s e hs (by omega)
    rwa [hk] at this)
  have I1 := Lib.hid (is_one s k 61 hs (by omega) ⟨#[61]⟩ rfl c hc)
  have hR := blk_new w #[.string ⟨#[]⟩, .string ⟨#[]⟩, .int .i64 0] 87
  have hb0 : Below w.heap.size w (w.alloc (.cells #[.string ⟨#[]⟩, .string ⟨#[]⟩, .int .i64 0] 87)) := (Below.refl _ _).alloc (Nat.le_refl _) _
  have HAT := Lib.hid hat
  have HC := Lib.hid hc
  have i1 : (i : Int) ≤ (e : Int) := by omega
  have i2 : (e : Int) ≤ (s.size : Int) := by omega
  clear hat hc hk he u1 u2 hnm HAV
  go_enter Tryz.func62, Tryz.ntmps62
  go_upto_region 1 with fail
  generalize w.alloc (.cells #[.string ⟨#[]⟩, .string ⟨#[]⟩, .int .i64 0] 87) = w0 at *
  go_upto_region 3 with (first | (go_at_call 60; (with_reducible refine (E1.out _).mono ?_); rintro v w1 ⟨rfl, hb1⟩; have hR1 := (hb1.block _ (blk_lt hR)).trans hR; have hB1 := below_then hb0 hb0.size hb1; clear hb1) | (go_at_call 58; (with_reducible refine (LC.out _).mono ?_); rintro v w2 ⟨rfl, hb2⟩; have hR2 := blk_alloc ((hb2.block _ (blk_lt hR1)).trans hR1) (.cells #[.string (mkS nm), .string ⟨#[]⟩, .int .i64 e] 87); have hT2 := blk_new w2 #[.string (mkS nm), .string ⟨#[]⟩, .int .i64 e] 87; have hB2 := (below_then hB1 hB1.size hb2).alloc (below_then hB1 hB1.size hb2).size (.cells #[.string (mkS nm), .string ⟨#[]⟩, .int .i64 e] 87); have hsz : w.heap.size < w2.heap.size := blk_lt ((hb2.block _ (blk_lt hR1)).trans hR1); clear hb2))
  generalize w2.alloc (.cells #[.string (mkS nm), .string ⟨#[]⟩, .int .i64 e] 87) = w3 at *
  generalize w2.heap.size = t6 at *
  clear hR hb0 hR1 hB1 E1 LC
  have r0 := blk_frozen hR2 0
  have r1 := blk_frozen hR2 1
  have r2 := blk_frozen hR2 2
  have rc0 := blk_cell hR2 0
  have rc1 := blk_cell hR2 1
  have rc2 := blk_cell hR2 2
  have tf1 := blk_frozen hT2 1
  have tf2 := blk_frozen hT2 2
  have tc0 := blk_cell hT2 0
  have tc1 := blk_cell hT2 1
  have tc2 := blk_cell hT2 2
  have hlr := blk_lt hR2
  have hlt := blk_lt hT2
  cases c with
  | false =>
    have HQ : av = ((nm, []), true, e - i) := by rw [HAT.out, if_neg (by simp)]
    subst HQ
    have hei : i + (e - i) = e := by omega
    have HE := Lib.hid hei
    clear hei
    go_wp2_with (first | (go_at_call 61; (with_reducible refine (S1.out _).mono ?_); rintro v w4 ⟨rfl, rfl⟩) | (go_at_call 57; (with_reducible refine (I1.out _).mono ?_); rintro v w4 ⟨rfl, rfl⟩))
    exact bodyPost_ret (v := rattrV ((nm, []), true, e - i) i) (by simp [results, Tryz.results62, go_sem, rc0, rc1, rc2, rattrV, HE.out]; rfl) rfl ⟨rfl, ((hB2.setCell (Nat.le_refl _) _).setCell (Nat.le_refl _) _).setCell (Nat.le_refl _) _⟩
  | true =>
    have hk1 : k < s.size := by
      apply Nat.lt_of_not_le; intro h; have := HC.out; rw [headIs_end s k 61 h] at this; cases this
    have hat := HAT.out
    rw [if_pos rfl] at hat
    have u3 := spN_le (s.data.toList.drop (k + 1))
    rw [List.length_drop, len_toL] at u3
    obtain ⟨v, hv⟩ : ∃ v, k + 1 + spN (s.data.toList.drop (k + 1)) = v := ⟨_, rfl⟩
    have hkv : k + 1 ≤ v ∧ v ≤ s.size := by omega
    rw [valL, List.drop_drop, hv] at hat
    simp only at hat
    rw [show k - i + 1 + (spN (s.data.toList.drop (k + 1)) + (val1L (s.data.toList.drop v)).2.2) = v - i + (val1L (s.data.toList.drop v)).2.2 by omega] at hat
    have S2 : Hid (∀ W, Calls Tryz.prog 61 #[.string s, .int .i64 ((k : Int) + 1)] W fun x w' => x = .returned (.int .i64 (v : Int)) ∧ W = w') := Lib.hid (fun W => by
      have := rskip_calls W s (k + 1) hs (by omega)
      rw [hv] at this
      rwa [show (((k + 1 : Nat)) : Int) = (k : Int) + 1 by omega] at this)
    obtain ⟨q34, h34⟩ : ∃ q, headIs (s.data.toList.drop v) 34 = q := ⟨_, rfl⟩
    obtain ⟨q39, h39⟩ : ∃ q, headIs (s.data.toList.drop v) 39 = q := ⟨_, rfl⟩
    have I34 := Lib.hid (is_one s v 34 hs (by omega) ⟨#[34]⟩ rfl q34 h34)
    have I39 := Lib.hid (is_one s v 39 hs (by omega) ⟨#[39]⟩ rfl q39 h39)
    have hiv : (i : Int) ≤ v ∧ i < v := by omega
    clear hv u3 HAT hie i1 HC
    cases hq : (q34 || q39) with
    | false =>
      obtain ⟨rfl, rfl⟩ : q34 = false ∧ q39 = false := by cases q34 <;> cases q39 <;> simp_all
      have u4 := untN_le valueStops (s.data.toList.drop v)
      rw [List.length_drop, len_toL] at u4
      obtain ⟨z, hz⟩ : ∃ z, v + untN valueStops (s.data.toList.drop v) = z := ⟨_, rfl⟩
      obtain ⟨val, hval⟩ : ∃ val, allL ((s.data.toList.drop v).take (untN valueStops (s.data.toList.drop v))) true = val := ⟨_, rfl⟩
      have HQ : av = ((nm, val), true, v - i + (z - v)) := by
        rw [hat, val1L, h34, h39, if_neg (by simp), hval]
        rw [show z - v = untN valueStops (s.data.toList.drop v) by omega]
      have E2 : Hid (∀ W, Calls Tryz.prog 60 #[.string s, .int .i64 (v : Int), .string ⟨#[62]⟩] W fun x w' => x = .returned (.int .i64 (z : Int)) ∧ Below W.heap.size W w') := Lib.hid (fun W => by
        have := rends_calls W s ⟨#[62]⟩ v hs (by decide) (by omega)
        rwa [show spS (⟨#[62]⟩ : ByteArray).data.toList = valueStops from rfl, hz] at this)
      have AC : Hid (∀ W, Calls Tryz.prog 29 #[.string (s.extract v z), .bool true] W fun x w' => x = .returned (.string (mkS val)) ∧ Below W.heap.size W w') := Lib.hid (fun W => by
        have hzz : (s.extract v z).size ≤ 1000000 := by rw [← len_toL, toL_extract, List.length_take, List.length_drop, len_toL]; omega
        have := rallR_calls W (s.extract v z) true hzz
        rwa [toL_extract, show z - v = untN valueStops (s.data.toList.drop v) by omega, hval] at this)
      have hei : i + (v - i + (z - v)) = z := by omega
      have HE := Lib.hid hei
      have j1 : (v : Int) ≤ (z : Int) := by omega
      have j2 : (z : Int) ≤ (s.size : Int) := by omega
      subst HQ
      clear hei hat hz hval u4 h34 h39 hq
      go_wp2_with (first | (go_at_call 61; (first | (with_reducible refine (S1.out _).mono ?_) | (with_reducible refine (S2.out _).mono ?_)); rintro x w4 ⟨rfl, rfl⟩) | (go_at_call 57; (first | (with_reducible refine (I1.out _).mono ?_) | (with_reducible refine (I34.out _).mono ?_) | (with_reducible refine (I39.out _).mono ?_)); rintro x w4 ⟨rfl, rfl⟩) | (go_at_call 60; (with_reducible refine (E2.out _).mono ?_); rintro x w5 ⟨rfl, hb5⟩; have hR5 := (hb5.block _ (blk_lt hR2)).trans hR2; have hT5 := (hb5.block _ (blk_lt hT2)).trans hT2; have hB5 := below_then hB2 hB2.size hb5; clear hb5) | (go_at_call 29; (with_reducible refine (AC.out _).mono ?_); rintro x w6 ⟨rfl, hb6⟩; have hR6 := (hb6.block _ (blk_lt hR5)).trans hR5; have hT6 := (hb6.block _ (blk_lt hT5)).trans hT5; have hB6 := below_then hB5 hB5.size hb6; have r0 := blk_frozen hR6 0; have r1 := blk_frozen hR6 1; have r2 := blk_frozen hR6 2; have rc0 := blk_cell hR6 0; have rc1 := blk_cell hR6 1; have rc2 := blk_cell hR6 2; have tf1 := blk_frozen hT6 1; have tf2 := blk_frozen hT6 2; have tc0 := blk_cell hT6 0; have tc1 := blk_cell hT6 1; have tc2 := blk_cell hT6 2; have hlr6 := blk_lt hR6; have hlt6 := blk_lt hT6; clear hb6))
      refine bodyPost_ret (v := rattrV ((nm, val), true, v - i + (z - v)) i) (by simp [results, Tryz.results62, go_sem, rc0, rc1, rc2, rattrV, HE.out]) rfl ⟨rfl, ?_⟩
      repeat (refine Below.setCell ?_ (by first | exact Nat.le_refl _ | (dsimp only; omega)) _)
      exact hB6
    | true =>
      have hv1 : v < s.size := by
        apply Nat.lt_of_not_le; intro h; rw [headIs_end s v _ h] at h34 h39; rw [← h34, ← h39] at hq; cases hq
      have hxl := one_toL s v hv1
      obtain ⟨x, hx⟩ : ∃ x, s.extract v (v + 1) = x := ⟨_, rfl⟩
      rw [hx] at hxl
      have hxz : x.size = 1 := by rw [← len_toL, hxl]; rfl
      have u4 := untN_le [uB s v] (s.data.toList.drop (v + 1))
      rw [List.length_drop, len_toL] at u4
      obtain ⟨n, hn⟩ : ∃ n, untN [uB s v] (s.data.toList.drop (v + 1)) = n := ⟨_, rfl⟩
      obtain ⟨z, hz⟩ : ∃ z, v + 1 + n = z := ⟨_, rfl⟩
      have FC : Hid (∀ W, Calls Tryz.prog 68 #[.string s, .int .i64 ((v : Int) + 1), .string x] W fun y w' => y = .returned (.int .i64 (z : Int)) ∧ W = w') := Lib.hid (fun W => by
        have := rfind_calls W s x (v + 1) hs (by omega) (by omega) (by omega)
        rw [hxl, rfind_unt, hn, hz] at this
        rwa [show (((v + 1 : Nat)) : Int) = (v : Int) + 1 by omega] at this)
      have hv2 : val1L (s.data.toList.drop v) = if n = s.size - (v + 1) then ([], false, 1 + n) else (allL ((s.data.toList.drop (v + 1)).take n) true, true, 1 + n + 1) := by
        rw [val1L, if_pos (by rw [h34, h39]; exact hq), List.drop_drop, List.length_drop, len_toL]
        rw [show (s.data.toList.drop v).take 1 = [uB s v] by rw [drop_uB s v hv1]; rfl, hn]
      have j0 : (v : Int) ≤ (v : Int) + 1 := by omega
      have j1 : (v : Int) + 1 ≤ (s.size : Int) := by omega
      have j2 : ((v : Int) + 1).toNat = v + 1 := by omega
      have hq' : q34 = true ∨ (q34 = false ∧ q39 = true) := by cases q34 <;> cases q39 <;> simp_all
      by_cases hend : z = s.size
      · have HQ : av.2.1 = false := by rw [hat, hv2, if_pos (by omega)]
        have HV : rattrV av i = .agg #[.string ⟨#[]⟩, .string ⟨#[]⟩, .int .i64 (-1)] := by rw [rattrV, HQ, if_neg (by simp)]
        have HV := Lib.hid HV
        have hzz : (z : Int) = s.size := by omega
        have HX := Lib.hid hxl
        have HZ := Lib.hid hz
        clear HQ hat hz u4 h34 h39 hq hn hv2 hxl hxz hv1 hend
        rcases hq' with rfl | ⟨rfl, rfl⟩
        all_goals
          go_wp2_with (first | (go_at_call 61; (first | (with_reducible refine (S1.out _).mono ?_) | (with_reducible refine (S2.out _).mono ?_)); rintro x w4 ⟨rfl, rfl⟩) | (go_at_call 57; (first | (with_reducible refine (I1.out _).mono ?_) | (with_reducible refine (I34.out _).mono ?_) | (with_reducible refine (I39.out _).mono ?_)); rintro x w4 ⟨rfl, rfl⟩) | (go_at_call 68; (with_reducible refine (FC.out _).mono ?_); rintro x w5 ⟨rfl, rfl⟩))
          refine bodyPost_ret (v := .agg #[.string ⟨#[]⟩, .string ⟨#[]⟩, .int .i64 (-1)]) (by simp [results, Tryz.results62, go_sem, rc0, rc1, rc2]) rfl ⟨by rw [HV.out], ?_⟩
          repeat (refine Below.setCell ?_ (by first | exact Nat.le_refl _ | (dsimp only; omega)) _)
          exact hB2
      · have j3 : ¬ (s.size : Int) ≤ z := by omega
        have j4 : (v : Int) + 1 ≤ (z : Int) := by omega
        have j5 : (z : Int) ≤ (s.size : Int) := by omega
        obtain ⟨val, hval⟩ : ∃ val, allL ((s.data.toList.drop (v + 1)).take n) true = val := ⟨_, rfl⟩
        have HQ : av = ((nm, val), true, v - i + (1 + n + 1)) := by
          rw [hat, hv2, if_neg (by omega), hval]
        have AC : Hid (∀ W, Calls Tryz.prog 29 #[.string (s.extract (v + 1) z), .bool true] W fun x w' => x = .returned (.string (mkS val)) ∧ Below W.heap.size W w') := Lib.hid (fun W => by
          have hzz : (s.extract (v + 1) z).size ≤ 1000000 := by rw [← len_toL, toL_extract, List.length_take, List.length_drop, len_toL]; omega
          have := rallR_calls W (s.extract (v + 1) z) true hzz
          rwa [toL_extract, show z - (v + 1) = n by omega, hval] at this)
        have hei : i + (v - i + (1 + n + 1)) = z + 1 := by omega
        have HE := Lib.hid hei
        have HX := Lib.hid hxl
        have HZ := Lib.hid hz
        subst HQ
        clear hei hat hz hval u4 h34 h39 hq hn hv2 hxl hxz hv1 hend
        rcases hq' with rfl | ⟨rfl, rfl⟩
        all_goals
          go_wp2_with (first | (go_at_call 61; (first | (with_reducible refine (S1.out _).mono ?_) | (with_reducible refine (S2.out _).mono ?_)); rintro x w4 ⟨rfl, rfl⟩) | (go_at_call 57; (first | (with_reducible refine (I1.out _).mono ?_) | (with_reducible refine (I34.out _).mono ?_) | (with_reducible refine (I39.out _).mono ?_)); rintro x w4 ⟨rfl, rfl⟩) | (go_at_call 68; (with_reducible refine (FC.out _).mono ?_); rintro x w5 ⟨rfl, rfl⟩) | (go_at_call 29; (with_reducible refine (AC.out _).mono ?_); rintro x w6 ⟨rfl, hb6⟩; have hR6 := (hb6.block _ (blk_lt hR2)).trans hR2; have hT6 := (hb6.block _ (blk_lt hT2)).trans hT2; have hB6 := below_then hB2 hB2.size hb6; have r0 := blk_frozen hR6 0; have r1 := blk_frozen hR6 1; have r2 := blk_frozen hR6 2; have rc0 := blk_cell hR6 0; have rc1 := blk_cell hR6 1; have rc2 := blk_cell hR6 2; have tf1 := blk_frozen hT6 1; have tf2 := blk_frozen hT6 2; have tc0 := blk_cell hT6 0; have tc1 := blk_cell hT6 1; have tc2 := blk_cell hT6 2; have hlr6 := blk_lt hR6; have hlt6 := blk_lt hT6; clear hb6))
          refine bodyPost_ret (v := rattrV ((nm, val), true, v - i + (1 + n + 1)) i) (by simp [results, Tryz.results62, go_sem, rc0, rc1, rc2, rattrV, HE.out]) rfl ⟨rfl, ?_⟩
          repeat (refine Below.setCell ?_ (by first | exact Nat.le_refl _ | (dsimp only; omega)) _)
          exact hB6

end Go.Proofs.YthfkldheflmlmaaGreatDoor
