/- The reference's references by number, and its table of names (rectoref04: number, Refs, Name, Loose): contracts. -/
import Derived.Test.YthfkldheflmlmaaGreatDoorRefG
namespace Go.Proofs.YthfkldheflmlmaaGreatDoor
open Go.RowKit Go.Lib

/-- The bytes of the reference by number with which a list begins, and how many bytes it has; 0: there is none. -/
def rnumL (l : List UInt8) (base : Int) : List UInt8 × Nat :=
  if (rdigsL base l 0).2 = 0 then ([], 0)
  else (bytesL (numberI (rdigsL base l 0).1), if headIs (l.drop (rdigsL base l 0).2) 59 then (rdigsL base l 0).2 + 1 else (rdigsL base l 0).2)
def gotE (x : List UInt8 × Nat) (i : Nat) : Value := .agg #[.string (mkS x.1), .int .i64 (if x.2 = 0 then -1 else ((i + x.2 : Nat) : Int))]
theorem number_isI (n : Int) : isI (numberI n) = true := by
  unfold numberI
  split
  · rfl
  rename_i h
  cases hf : turnsTab.find? (·.1 == n) with
  | none =>
    cases hi : isI n with
    | true => rfl
    | false => exact absurd (.inr hi) h
  | some t =>
    have : ∀ t ∈ turnsTab, isI t.2 = true := by decide +kernel
    exact this t (List.mem_of_find?_eq_some hf)
theorem bytes_char {c : Int} (h : isI c = true) : bytesL c = charL c := by rw [bytesL, if_pos h]
theorem bI_s (s : ByteArray) (k : Nat) : headIs (s.data.toList.drop k) 59 = (bI s k == 59) := by
  by_cases h : k < s.size
  · exact headIs_uB s k 59 h
  · rw [headIs_end s k 59 (by omega), bI_end s k (by omega)]; rfl
set_option maxRecDepth 100000 in
set_option maxHeartbeats 4000000 in
theorem rnumref_calls (w : World) (s : ByteArray) (i : Nat) (base : Int) (hb : base = 10 ∨ base = 16) (hi : i ≤ s.size) (hs : s.size ≤ 1000000) :
    Calls Tryz.prog 92 #[.string s, .int .i64 i, .int .i64 base] w fun e w' => e = .returned (gotE (rnumL (s.data.toList.drop i) base) i) ∧ Below w.heap.size w w' := by
  have VC := Lib.hid (fun W b h0 h1 => rvalue_calls W b h0 h1)
  have AC := Lib.hid (fun W k => rat0_calls W s k)
  have NC := Lib.hid (fun W n h => rnumber_calls W n h)
  have BC := Lib.hid (fun W c h => rchar_calls W c h)
  have hbt := bI_at s
  have hb1 : 10 ≤ base ∧ base ≤ 16 := by omega
  have HB := Lib.hid hb
  have hR := blk_new w #[.string ⟨#[]⟩, .int .i64 0] 91
  have hb0 : Below w.heap.size w (w.alloc (.cells #[.string ⟨#[]⟩, .int .i64 0] 91)) := (Below.refl _ _).alloc (Nat.le_refl _) _
  clear hb
  generalize hD : rdigsL base (s.data.toList.drop i) 0 = dg
  have HD := Lib.hid hD
  have hrg := rdigsL_range base HB.out (s.data.toList.drop i) 0 (Int.le_refl _) (by omega)
  rw [hD] at hrg
  have HV : Hid (rnumL (s.data.toList.drop i) base = if dg.2 = 0 then ([], 0) else (bytesL (numberI dg.1), if headIs (s.data.toList.drop (i + dg.2)) 59 then dg.2 + 1 else dg.2)) := Lib.hid (by rw [rnumL, hD, List.drop_drop])
  clear hD
  obtain ⟨rv, hrv⟩ : ∃ rv, rnumL (s.data.toList.drop i) base = rv := ⟨_, rfl⟩
  rw [hrv] at HV ⊢
  clear hrv
  go_enter Tryz.func92, Tryz.ntmps92
  go_upto_region 1 with fail
  generalize w.alloc (.cells #[.string ⟨#[]⟩, .int .i64 0] 91) = w0 at *
  go_wp2
  go_loopw [7, 8] (fun n a wr => ∃ (k : Nat) (v : Int), i ≤ k ∧ k ≤ s.size ∧ a = .int .i64 k ∧ n = .int .i64 v ∧ 0 ≤ v ∧ v ≤ 2000000 ∧ w0 = wr ∧ Hid (dg = ((rdigsL base (s.data.toList.drop k) v).1, (k - i) + (rdigsL base (s.data.toList.drop k) v).2))) (fun _ a _ => s.size - (RowKit.intOf a).toNat)
  case atStart => exact ⟨i, 0, Nat.le_refl _, hi, rfl, rfl, by omega, by omega, rfl, Lib.hid (by rw [HD.out]; simp)⟩
  case round =>
    obtain ⟨k, v, hik, hk, rfl, rfl, hv0, hv1, rfl, HI⟩ := hrel
    by_cases hlt : k < s.size ∧ rvalI (bI s k) < base
    · obtain ⟨hlt, hval⟩ := hlt
      have hlt' : (k : Int) < s.size := by omega
      have hd := drop_uB s k hlt
      have hr := bI_range s k
      have hvr := rval_range (bI s k)
      have hstep : dg = ((rdigsL base (s.data.toList.drop (k + 1)) (rcapI (v * base + rvalI (bI s k)))).1, (k + 1 - i) + (rdigsL base (s.data.toList.drop (k + 1)) (rcapI (v * base + rvalI (bI s k)))).2) := by
        rw [HI.out, hd, rdigsL, if_neg (by rw [← bI_uB]; omega), ← bI_uB]
        refine Prod.ext rfl ?_
        simp only
        omega
      have HS := Lib.hid hstep
      clear hstep hd HI HD HV
      generalize hx : rvalI (bI s k) = x at *
      have h1 : 0 ≤ v * base := Int.mul_nonneg hv0 (by omega)
      have h2 : v * base ≤ 32000000 := by
        have := Int.mul_le_mul hv1 hb1.2 (by omega) (by omega)
        omega
      generalize hy : v * base = y at *
      by_cases hcap : 2000000 < y + x
      · have hz : rcapI (y + x) = 2000000 := by rw [rcapI, if_pos hcap]
        rw [hz] at HS
        clear hz
        have HX := Lib.hid hx
        clear hx
        go_wp2_with (go_at_call 113; with_reducible refine (VC.out _ _ (by omega) (by omega)).mono ?_; rintro e w1 ⟨rfl, rfl⟩; rw [HX.out])
        go_roundw
        case rel => exact ⟨k + 1, 2000000, by omega, by omega, by go_num, by trivial, by omega, by omega, by trivial, HS⟩
        case measure => simp [RowKit.intOf]; omega
      · have hz : rcapI (y + x) = y + x := by rw [rcapI, if_neg hcap]
        rw [hz] at HS
        clear hz
        have HX := Lib.hid hx
        clear hx
        go_wp2_with (go_at_call 113; with_reducible refine (VC.out _ _ (by omega) (by omega)).mono ?_; rintro e w1 ⟨rfl, rfl⟩; rw [HX.out])
        go_roundw
        case rel => exact ⟨k + 1, y + x, by omega, by omega, by go_num, by trivial, by omega, by omega, by trivial, HS⟩
        case measure => simp [RowKit.intOf]; omega
    · have hend : dg = (v, k - i) := by
        rw [HI.out]
        by_cases h : k < s.size
        · rw [drop_uB s k h, rdigsL, if_pos (by rw [← bI_uB]; omega)]; rfl
        · rw [List.drop_eq_nil_of_le (by rw [len_toL]; omega)]; rfl
      clear HI HD
      have c0 := blk_cell hR 0
      have c1 := blk_cell hR 1
      have f0 := blk_frozen hR 0
      have f1 := blk_frozen hR 1
      have hl := blk_lt hR
      have hbs := bI_s s k
      have HH : Hid (rv = if k - i = 0 then ([], 0) else (bytesL (numberI v), if bI s k == 59 then k - i + 1 else k - i)) := by
        rw [hend] at HV
        refine Lib.hid (HV.out.trans ?_)
        simp only
        rw [show i + (k - i) = k by omega, hbs]
      clear HV hend hbs
      by_cases h : k < s.size
      · have h' : (k : Int) < s.size := by omega
        have hval : base ≤ rvalI (bI s k) := by omega
        have hr := bI_range s k
        generalize hx : rvalI (bI s k) = x at *
        have HX := Lib.hid hx
        clear hx
        go_upto_region 8 with (go_at_call 113; with_reducible refine (VC.out _ _ (by omega) (by omega)).mono ?_; rintro e w1 ⟨rfl, rfl⟩; rw [HX.out])
        clear HX hval h' hbt
        by_cases hki : k = i
        · have HQ : rv = ([], 0) := by rw [HH.out, if_pos (by omega)]
          have hki' : (k : Int) = i := by omega
          clear HH h hlt
          subst hki
          subst HQ
          go_wp2
          exact bodyPost_ret (v := gotE ([], 0) k) (by simp [results, Tryz.results92, go_sem, c0, c1, gotE]; rfl) rfl ⟨rfl, (hb0.setCell (Nat.le_refl _) _).setCell (Nat.le_refl _) _⟩
        · have hki' : ((k : Int) == i) = false := beq_eq_false_iff_ne.2 (by omega)
          have hki2 : (k == i) = false := beq_eq_false_iff_ne.2 hki
          have HQ := Lib.hid (number_isI v)
          have HJ := Lib.hid (bytes_char (number_isI v))
          obtain ⟨nv, hnv⟩ : ∃ nv, numberI v = nv := ⟨_, rfl⟩
          rw [hnv] at HQ HH HJ
          have HN := Lib.hid hnv
          clear hnv
          obtain ⟨q, hq⟩ : ∃ q, k = i + q := ⟨k - i, by omega⟩
          cases h59 : bI s k == 59 with
          | true =>
            have HR : rv = (charL nv, q + 1) := by rw [HH.out, if_neg (by omega), h59, HJ.out]; simp; omega
            have HE := Lib.hid hq
            clear HH h hlt hq
            subst HR
            go_wp2_with (first | (go_at_call 90; with_reducible refine (AC.out _ _).mono ?_; rintro e w1 ⟨rfl, rfl⟩) | (go_at_call 114; with_reducible refine (NC.out _ _ (by omega)).mono ?_; rintro e w1 ⟨rfl, hb1⟩; rw [HN.out]; have hR1 := (hb1.block _ (blk_lt hR)).trans hR; have hB1 := below_then hb0 hb0.size hb1; clear hb1) | (go_at_call 89; with_reducible refine (BC.out _ _ HQ.out).mono ?_; rintro e w2 ⟨rfl, hb2⟩; have hR2 := (hb2.block _ (blk_lt hR1)).trans hR1; have hB2 := below_then hB1 hB1.size hb2; have d0 := blk_cell hR2 0; have d1 := blk_cell hR2 1; have e0 := blk_frozen hR2 0; have e1 := blk_frozen hR2 1; have hl2 := blk_lt hR2; clear hb2))
            refine bodyPost_ret (v := gotE (charL nv, q + 1) i) (by simp [results, Tryz.results92, go_sem, d0, d1, gotE]; have := HE.out; omega) rfl ⟨rfl, (hB2.setCell (Nat.le_refl _) _).setCell (Nat.le_refl _) _⟩
          | false =>
            have HR : rv = (charL nv, q) := by rw [HH.out, if_neg (by omega), h59, HJ.out]; simp; omega
            have HE := Lib.hid hq
            clear HH h hlt hq
            subst HR
            go_wp2_with (first | (go_at_call 90; with_reducible refine (AC.out _ _).mono ?_; rintro e w1 ⟨rfl, rfl⟩) | (go_at_call 114; with_reducible refine (NC.out _ _ (by omega)).mono ?_; rintro e w1 ⟨rfl, hb1⟩; rw [HN.out]; have hR1 := (hb1.block _ (blk_lt hR)).trans hR; have hB1 := below_then hb0 hb0.size hb1; clear hb1) | (go_at_call 89; with_reducible refine (BC.out _ _ HQ.out).mono ?_; rintro e w2 ⟨rfl, hb2⟩; have hR2 := (hb2.block _ (blk_lt hR1)).trans hR1; have hB2 := below_then hB1 hB1.size hb2; have d0 := blk_cell hR2 0; have d1 := blk_cell hR2 1; have e0 := blk_frozen hR2 0; have e1 := blk_frozen hR2 1; have hl2 := blk_lt hR2; clear hb2))
            refine bodyPost_ret (v := gotE (charL nv, q) i) (by simp [results, Tryz.results92, go_sem, d0, d1, gotE]; have := HE.out; omega) rfl ⟨rfl, (hB2.setCell (Nat.le_refl _) _).setCell (Nat.le_refl _) _⟩
      · go_upto_region 8 with fail
        clear hbt
        by_cases hki : k = i
        · have HQ : rv = ([], 0) := by rw [HH.out, if_pos (by omega)]
          have hki' : (k : Int) = i := by omega
          clear HH h hlt
          subst hki
          subst HQ
          go_wp2
          exact bodyPost_ret (v := gotE ([], 0) k) (by simp [results, Tryz.results92, go_sem, c0, c1, gotE]; rfl) rfl ⟨rfl, (hb0.setCell (Nat.le_refl _) _).setCell (Nat.le_refl _) _⟩
        · have hki' : ((k : Int) == i) = false := beq_eq_false_iff_ne.2 (by omega)
          have hki2 : (k == i) = false := beq_eq_false_iff_ne.2 hki
          have HQ := Lib.hid (number_isI v)
          have HJ := Lib.hid (bytes_char (number_isI v))
          obtain ⟨nv, hnv⟩ : ∃ nv, numberI v = nv := ⟨_, rfl⟩
          rw [hnv] at HQ HH HJ
          have HN := Lib.hid hnv
          clear hnv
          obtain ⟨q, hq⟩ : ∃ q, k = i + q := ⟨k - i, by omega⟩
          cases h59 : bI s k == 59 with
          | true =>
            have HR : rv = (charL nv, q + 1) := by rw [HH.out, if_neg (by omega), h59, HJ.out]; simp; omega
            have HE := Lib.hid hq
            clear HH h hlt hq
            subst HR
            go_wp2_with (first | (go_at_call 90; with_reducible refine (AC.out _ _).mono ?_; rintro e w1 ⟨rfl, rfl⟩) | (go_at_call 114; with_reducible refine (NC.out _ _ (by omega)).mono ?_; rintro e w1 ⟨rfl, hb1⟩; rw [HN.out]; have hR1 := (hb1.block _ (blk_lt hR)).trans hR; have hB1 := below_then hb0 hb0.size hb1; clear hb1) | (go_at_call 89; with_reducible refine (BC.out _ _ HQ.out).mono ?_; rintro e w2 ⟨rfl, hb2⟩; have hR2 := (hb2.block _ (blk_lt hR1)).trans hR1; have hB2 := below_then hB1 hB1.size hb2; have d0 := blk_cell hR2 0; have d1 := blk_cell hR2 1; have e0 := blk_frozen hR2 0; have e1 := blk_frozen hR2 1; have hl2 := blk_lt hR2; clear hb2))
            refine bodyPost_ret (v := gotE (charL nv, q + 1) i) (by simp [results, Tryz.results92, go_sem, d0, d1, gotE]; have := HE.out; omega) rfl ⟨rfl, (hB2.setCell (Nat.le_refl _) _).setCell (Nat.le_refl _) _⟩
          | false =>
            have HR : rv = (charL nv, q) := by rw [HH.out, if_neg (by omega), h59, HJ.out]; simp; omega
            have HE := Lib.hid hq
            clear HH h hlt hq
            subst HR
            go_wp2_with (first | (go_at_call 90; with_reducible refine (AC.out _ _).mono ?_; rintro e w1 ⟨rfl, rfl⟩) | (go_at_call 114; with_reducible refine (NC.out _ _ (by omega)).mono ?_; rintro e w1 ⟨rfl, hb1⟩; rw [HN.out]; have hR1 := (hb1.block _ (blk_lt hR)).trans hR; have hB1 := below_then hb0 hb0.size hb1; clear hb1) | (go_at_call 89; with_reducible refine (BC.out _ _ HQ.out).mono ?_; rintro e w2 ⟨rfl, hb2⟩; have hR2 := (hb2.block _ (blk_lt hR1)).trans hR1; have hB2 := below_then hB1 hB1.size hb2; have d0 := blk_cell hR2 0; have d1 := blk_cell hR2 1; have e0 := blk_frozen hR2 0; have e1 := blk_frozen hR2 1; have hl2 := blk_lt hR2; clear hb2))
            refine bodyPost_ret (v := gotE (charL nv, q) i) (by simp [results, Tryz.results92, go_sem, d0, d1, gotE]; have := HE.out; omega) rfl ⟨rfl, (hB2.setCell (Nat.le_refl _) _).setCell (Nat.le_refl _) _⟩

end Go.Proofs.YthfkldheflmlmaaGreatDoor
