/- The reference's tags (rectoref05.tag): its contract. -/
import Derived.Test.YthfkldheflmlmaaGreatDoorRefQ
import Derived.Test.YthfkldheflmlmaaGreatDoorAll
import Derived.Maps.AppendAt
namespace Go.Proofs.YthfkldheflmlmaaGreatDoor
open Go.RowKit Go.Lib

def GOT0 : Array Value := #[.int .i64 0, .string ⟨#[]⟩, .slice none 0 0, .bool false, .string ⟨#[]⟩, .int .i64 0]
def TokR (w : World) (B tb : Nat) (k : Int) (name : ByteArray) (v : Value) (l : List AttrT) : Prop :=
  w.heap[tb]? = some (.cells #[.int .i64 k, .string name, v, .bool false, .string ⟨#[]⟩] 31 (0, 0)) ∧ w.ownsRow B 48 2 v l.length (attrCells l)
theorem TokR.below {w w' : World} {B tb : Nat} {k : Int} {name : ByteArray} {v : Value} {l : List AttrT} (h : TokR w B tb k name v l) (hb : Below w.heap.size w w') : TokR w' B tb k name v l :=
  ⟨(hb.block _ (blk_lt h.1)).trans h.1, own_keep h.2 (Ch.of_below (O := fun _ => False) hb) (fun _ _ _ e => e)⟩
theorem own_farB {w : World} {B n tb : Nat} {e : TypeId} {size : Nat} {v : Value} {xs : List Value} (h : w.ownsRow B e size v n xs) (ht : tb < B) : some tb ≠ v.ownBlock := by
  intro e
  rcases h.2 with ⟨h0, _⟩ | ⟨g, cap, cur, h0, hg, _⟩
  · rw [h0] at e; cases e
  · rw [h0] at e; simp [Value.ownBlock] at e; omega
theorem own_farT {w : World} {B n tb : Nat} {e t : TypeId} {size : Nat} {v : Value} {xs : List Value} {cs : Array Value} {fr : Nat × Nat} (h : w.ownsRow B e size v n xs) (hb : w.heap[tb]? = some (.cells cs t fr)) (ht : t ≠ e) : some tb ≠ v.ownBlock := by
  intro eq
  rcases h.2 with ⟨h0, _⟩ | ⟨g, cap, cur, h0, _, hgg, _⟩
  · rw [h0] at eq; cases eq
  · rw [h0] at eq
    simp only [Value.ownBlock] at eq
    have e1 : tb = g := by simpa using eq
    rw [e1, hgg] at hb
    injection hb with h2
    injection h2 with _ h3
    exact ht h3.symm
/-- A tag whose attributes come in turns, spaces ahead of each passed over already. -/
theorem tagGo_end (f : Nat) (ats : List AttrT) (l : List UInt8) (p : Nat) (h : l.drop (spN l) = []) : tagGo (f + 1) ats l p = none := by
  rw [tagGo, h]; rfl
theorem tagGo_gt (f : Nat) (ats : List AttrT) (l : List UInt8) (p : Nat) (h : hasPrefix (l.drop (spN l)) [62] = true) : tagGo (f + 1) ats l p = some (ats, false, p + spN l + 1) := by
  cases hl : l.drop (spN l) with
  | nil => rw [hl] at h; cases h
  | cons b t =>
    rw [hl] at h
    have hb : b = 62 := by
      rw [hasPrefix_one] at h
      rw [← UInt8.toNat_inj]
      simpa [headIs] using h
    subst hb
    rw [tagGo, hl]
    rfl
theorem tagGo_self (f : Nat) (ats : List AttrT) (l : List UInt8) (p : Nat) (h : hasPrefix (l.drop (spN l)) [47, 62] = true) : tagGo (f + 1) ats l p = some (ats, true, p + spN l + 2) := by
  cases hl : l.drop (spN l) with
  | nil => rw [hl] at h; cases h
  | cons b t => rw [hl] at h; rw [tagGo, hl, h]; rfl
theorem tagGo_slash (f : Nat) (ats : List AttrT) (l : List UInt8) (p : Nat) (h1 : hasPrefix (l.drop (spN l)) [62] = false) (h2 : hasPrefix (l.drop (spN l)) [47, 62] = false) (h : headIs (l.drop (spN l)) 47 = true) : tagGo (f + 1) ats l p = tagGo f ats (l.drop (spN l + 1)) (p + spN l + 1) := by
  have h3 : hasPrefix (l.drop (spN l)) [47] = true := by rw [hasPrefix_one]; exact h
  cases hl : l.drop (spN l) with
  | nil => rw [hl] at h; cases h
  | cons b t => rw [hl] at h1 h2 h3; rw [tagGo, hl, h1, h2, h3]; rfl
theorem tagGo_attr (f : Nat) (ats : List AttrT) (l : List UInt8) (p : Nat) (h0 : l.drop (spN l) ≠ []) (h1 : hasPrefix (l.drop (spN l)) [62] = false) (h2 : hasPrefix (l.drop (spN l)) [47, 62] = false) (h : headIs (l.drop (spN l)) 47 = false) :
    tagGo (f + 1) ats l p = if (attrL (l.drop (spN l))).2.1 = true then tagGo f (addL ats (attrL (l.drop (spN l))).1) (l.drop (spN l + (attrL (l.drop (spN l))).2.2)) (p + spN l + (attrL (l.drop (spN l))).2.2) else none := by
  have h3 : hasPrefix (l.drop (spN l)) [47] = false := by rw [hasPrefix_one]; exact h
  cases hl : l.drop (spN l) with
  | nil => exact absurd hl h0
  | cons b t => rw [hl] at h1 h2 h3; rw [tagGo, hl, h1, h2, h3]; rfl
set_option maxRecDepth 100000 in
set_option maxHeartbeats 16000000 in
theorem rtag_calls (w : World) (s : ByteArray) (i : Nat) (kind : Int) (hi : i ≤ s.size) (hs : s.size ≤ 1000000) :
    Calls Tryz.prog 28 #[.string s, .int .i64 i, .int .i64 kind] w fun e w' => ∃ v, e = .returned v ∧ GotV w' w.heap.size (tagL kind (s.data.toList.drop i)).1 (i + (tagL kind (s.data.toList.drop i)).2) v ∧ Below w.heap.size w w' := by
  obtain ⟨i0, hinf, hz0, hz1, hz2⟩ := info_parts infoA
  obtain ⟨L, hL⟩ : ∃ L, s.data.toList.drop i = L := ⟨_, rfl⟩
  have hlen : L.length = s.size - i := by rw [← hL, List.length_drop, len_toL]
  have hdr : ∀ p, s.data.toList.drop (i + p) = L.drop p := fun p => by rw [← hL, List.drop_drop]
  rw [hL]
  obtain ⟨n, hn⟩ : ∃ n, untN nameStops L = n := ⟨_, rfl⟩
  have hnl : n ≤ L.length := by rw [← hn]; exact untN_le _ _
  obtain ⟨nm, hnm⟩ : ∃ nm, lowL (L.take n) = nm := ⟨_, rfl⟩
  obtain ⟨G, hG⟩ : ∃ G, tagGo (L.length + 1) [] (L.drop n) n = G := ⟨_, rfl⟩
  have htl : tagL kind L = tagRes kind nm L.length G := by rw [tagL, hn, hnm, hG]
  obtain ⟨tv, htv⟩ : ∃ tv, tagL kind L = tv := ⟨_, rfl⟩
  rw [htv] at htl ⊢
  clear htv
  have HTL := Lib.hid htl
  have HG := Lib.hid hG
  obtain ⟨e, he⟩ : ∃ e, i + n = e := ⟨_, rfl⟩
  have hes : i ≤ e ∧ e ≤ s.size := by omega
  have E1 : Hid (∀ W, Calls Tryz.prog 60 #[.string s, .int .i64 (i : Int), .string ⟨#[47, 62]⟩] W fun v w' => v = .returned (.int .i64 (e : Int)) ∧ Below W.heap.size W w') := Lib.hid (fun W => by
    have := rends_calls W s ⟨#[47, 62]⟩ i hs (by decide) hi
    rwa [show spS (⟨#[47, 62]⟩ : ByteArray).data.toList = nameStops from rfl, hL, hn, he] at this)
  have LC : Hid (∀ W, Calls Tryz.prog 58 #[.string (s.extract i e)] W fun v w' => v = .returned (.string (mkS nm)) ∧ Below W.heap.size W w') := Lib.hid (fun W => by
    have hz : (s.extract i e).size ≤ 1000000 := by rw [← len_toL, toL_extract, List.length_take, List.length_drop, len_toL]; omega
    have := rlower_calls W (s.extract i e) hz
    rwa [toL_extract, hL, show e - i = n by omega, hnm] at this)
  have SK : Hid (∀ W (p : Nat), p ≤ L.length → Calls Tryz.prog 61 #[.string s, .int .i64 ((i + p : Nat) : Int)] W fun v w' => v = .returned (.int .i64 ((i + p + spN (L.drop p) : Nat) : Int)) ∧ W = w') := Lib.hid (fun W p hp => by
    have := rskip_calls W s (i + p) hs (by omega)
    rwa [hdr] at this)
  have S1 : Hid (∀ W, Calls Tryz.prog 61 #[.string s, .int .i64 (e : Int)] W fun v w' => v = .returned (.int .i64 ((i + n + spN (L.drop n) : Nat) : Int)) ∧ W = w') := Lib.hid (fun W => by rw [← he]; exact SK.out W n hnl)
  have HDR := Lib.hid hdr
  have hR := blk_new w GOT0 42
  have hb0 : Below w.heap.size w (w.alloc (.cells GOT0 42)) := (Below.refl _ _).alloc (Nat.le_refl _) _
  unfold GOT0 at hR hb0
  have i1 : (i : Int) ≤ (e : Int) := by omega
  have i2 : (e : Int) ≤ (s.size : Int) := by omega
  clear htl hG hn hL hnm he hdr
  go_enter Tryz.func28, Tryz.ntmps28
  go_upto_region 1 with fail
  generalize w.alloc (.cells #[.int .i64 0, .string ⟨#[]⟩, .slice none 0 0, .bool false, .string ⟨#[]⟩, .int .i64 0] 42) = w0 at *
  go_upto_region 3 with (first | (go_at_call 60; (with_reducible refine (E1.out _).mono ?_); rintro v w1 ⟨rfl, hb1⟩; have hR1 := (hb1.block _ (blk_lt hR)).trans hR; have hB1 := below_then hb0 hb0.size hb1; clear hb1) | (go_at_call 58; (with_reducible refine (LC.out _).mono ?_); rintro v w2 ⟨rfl, hb2⟩; have hR2 := blk_alloc ((hb2.block _ (blk_lt hR1)).trans hR1) (.cells #[.int .i64 kind, .string (mkS nm), .slice none 0 0, .bool false, .string ⟨#[]⟩] 31); have hT2 : TokR (w2.alloc (.cells #[.int .i64 kind, .string (mkS nm), .slice none 0 0, .bool false, .string ⟨#[]⟩] 31)) (w2.heap.size + 1) w2.heap.size kind (mkS nm) (.slice none 0 0) [] := ⟨blk_new w2 _ _, zero_owns _ _ _ _⟩; have hB2 := (below_then hB1 hB1.size hb2).alloc (below_then hB1 hB1.size hb2).size (.cells #[.int .i64 kind, .string (mkS nm), .slice none 0 0, .bool false, .string ⟨#[]⟩] 31); have hsz : w.heap.size < w2.heap.size := blk_lt ((hb2.block _ (blk_lt hR1)).trans hR1); clear hb2))
  generalize w2.alloc (.cells #[.int .i64 kind, .string (mkS nm), .slice none 0 0, .bool false, .string ⟨#[]⟩] 31) = w3 at *
  generalize w2.heap.size = T at *
  clear hR hb0 hR1 hB1 E1 LC
  have HR2 := Lib.hid hR2
  have HT2 := Lib.hid hT2
  have HB2 := Lib.hid hB2
  clear hR2 hT2 hB2
  go_wp2_with (go_at_call 61; (with_reducible refine (S1.out _).mono ?_); rintro v w4 ⟨rfl, rfl⟩)
  go_loopw [9] (fun a wr => ∃ (p f : Nat) (ats : List AttrT) (va : Value), p ≤ L.length ∧ a = .int .i64 ((i + p + spN (L.drop p) : Nat) : Int) ∧ ats.length ≤ p ∧ L.length - p < f ∧ Below w.heap.size w wr ∧
      wr.heap[w.heap.size]? = some (.cells #[.int .i64 0, .string ⟨#[]⟩, .slice none 0 0, .bool false, .string ⟨#[]⟩, .int .i64 0] 42 (0, 0)) ∧ TokR wr (T + 1) T kind (mkS nm) va ats ∧ Hid (G = tagGo f ats (L.drop p) p)) (fun a _ => s.size - (RowKit.intOf a).toNat)
  case atStart => exact ⟨n, L.length + 1, [], .slice none 0 0, hnl, rfl, Nat.zero_le _, by omega, HB2.out, HR2.out, HT2.out, Lib.hid HG.out.symm⟩
  case round =>
    obtain ⟨p, f, ats, va, hp, rfl, hal, hf, hB, hRr, hT, HI⟩ := hrel
    clear HR2 HT2 HB2
    obtain ⟨f, rfl⟩ : ∃ g, f = g + 1 := ⟨f - 1, by omega⟩
    have hsp := spN_le (L.drop p)
    rw [List.length_drop] at hsp
    obtain ⟨q, hq⟩ : ∃ q, i + p + spN (L.drop p) = q := ⟨_, rfl⟩
    have hqs : q ≤ s.size := by omega
    have hdq : (L.drop p).drop (spN (L.drop p)) = s.data.toList.drop q := by rw [List.drop_drop, ← HDR.out, ← hq, Nat.add_assoc]
    have hslot : ((i + p + spN (L.drop p) : Nat) : Int) = (q : Int) := by rw [hq]
    rw [hslot]
    have r0 := blk_cell hRr 0
    have r1 := blk_cell hRr 1
    have r2 := blk_cell hRr 2
    have r3 := blk_cell hRr 3
    have r4 := blk_cell hRr 4
    have r5 := blk_cell hRr 5
    have f0 := blk_frozen hRr 0
    have f1 := blk_frozen hRr 1
    have f2 := blk_frozen hRr 2
    have f3 := blk_frozen hRr 3
    have f4 := blk_frozen hRr 4
    have f5 := blk_frozen hRr 5
    have hrl := blk_lt hRr
    by_cases hlt : q < s.size
    · have hlt' : (q : Int) < s.size := by omega
      have hne : (L.drop p).drop (spN (L.drop p)) ≠ [] := by rw [hdq]; intro h; have := congrArg List.length h; rw [List.length_drop, len_toL] at this; simp at this; omega
      obtain ⟨b62, h62⟩ : ∃ b, hasPrefix (s.data.toList.drop q) [62] = b := ⟨_, rfl⟩
      obtain ⟨b2, h2⟩ : ∃ b, hasPrefix (s.data.toList.drop q) [47, 62] = b := ⟨_, rfl⟩
      have h62' := h62
      rw [hasPrefix_one, show ((62 : UInt8).toNat) = 62 from rfl, headIs_uB s q 62 hlt] at h62'
      have I62 : Hid (∀ W, Calls Tryz.prog 57 #[.string s, .int .i64 (q : Int), .string ⟨#[62]⟩] W fun e w' => e = .returned (.bool b62) ∧ W = w') := Lib.hid (fun W => by
        have := ris_calls W s ⟨#[62]⟩ q hs (by decide) (by decide) (by omega)
        rwa [show (⟨#[62]⟩ : ByteArray).data.toList = [62] from rfl, h62] at this)
      have I2 : Hid (∀ W, Calls Tryz.prog 57 #[.string s, .int .i64 (q : Int), .string ⟨#[47, 62]⟩] W fun e w' => e = .returned (.bool b2) ∧ W = w') := Lib.hid (fun W => by
        have := ris_calls W s ⟨#[47, 62]⟩ q hs (by decide) (by decide) (by omega)
        rwa [show (⟨#[47, 62]⟩ : ByteArray).data.toList = [47, 62] from rfl, h2] at this)
      have hbt := bI_at s
      have hr := bI_range s q
      have t0 := blk_cell hT.1 0
      have t1 := blk_cell hT.1 1
      have t2 := blk_cell hT.1 2
      have t3 := blk_cell hT.1 3
      have t4 := blk_cell hT.1 4
      have tf2 := blk_frozen hT.1 2
      have tf3 := blk_frozen hT.1 3
      have htl := blk_lt hT.1
      have HOWN := Lib.hid hT.2
      have HTB := Lib.hid hT.1
      have HB := Lib.hid hB
      have HRr := Lib.hid hRr
      have hk2 : (kind == 2) = true ∨ (kind == 2) = false := by cases kind == 2 <;> simp
      obtain ⟨A, c, rfl, hlc, hat⟩ := own_attrs hT.2
      have HAT := Lib.hid hat
      clear hT hB hRr hat
      cases b62 with
      | true =>
        have hb : bI s q = 62 := by simpa using h62'
        have hGs : G = some (ats, false, p + spN (L.drop p) + 1) := by rw [HI.out, tagGo_gt _ _ _ _ (by rw [hdq]; exact h62)]
        have hend : i + (p + spN (L.drop p) + 1) = q + 1 := by omega
        have htv := HTL.out
        rw [hGs, tagRes] at htv
        have HE := Lib.hid hend
        have HV := Lib.hid htv
        clear hGs hend htv h62 h62' h2 HI HTL hq hslot hdq hlt hne
        have hb47 : (bI s q == 47) = false := by rw [hb]; rfl
        clear hb
        rcases hk2 with hk | hk
        · have HK := Lib.hid hk
          go_wp2_with (go_at_call 57; (first | (with_reducible refine (I62.out _).mono ?_) | (with_reducible refine (I2.out _).mono ?_)); rintro v w4 ⟨rfl, rfl⟩)
          have hkk : kind = 2 := by simpa using HK.out
          refine bodyPost_ret (v := .agg #[.int .i64 2, .string (mkS nm), .slice none 0 0, .bool false, .string ⟨#[]⟩, .int .i64 ((q : Int) + 1)]) ?_ rfl ⟨_, rfl, ?_, ?_⟩
          · simp [results, Tryz.results28, go_sem, r0, r1, r2, r3, r4, r5]
          · rw [HV.out, if_pos hkk, hkk]
            exact GotV.of rfl (zero_owns _ _ _ _) (by rw [HE.out]; push_cast; rfl)
          · exact ((((((HB.out.setCell (by dsimp only; omega) _).setCell (Nat.le_refl _) _).setCell (Nat.le_refl _) _).setCell (Nat.le_refl _) _).setCell (Nat.le_refl _) _).setCell (Nat.le_refl _) _).setCell (Nat.le_refl _) _
        · have HK := Lib.hid hk
          go_wp2_with (go_at_call 57; (first | (with_reducible refine (I62.out _).mono ?_) | (with_reducible refine (I2.out _).mono ?_)); rintro v w4 ⟨rfl, rfl⟩)
          have hkk : ¬ kind = 2 := by simpa using HK.out
          refine bodyPost_ret (v := .agg #[.int .i64 kind, .string (mkS nm), .slice A ats.length c, .bool false, .string ⟨#[]⟩, .int .i64 ((q : Int) + 1)]) ?_ rfl ⟨_, rfl, ?_, ?_⟩
          · simp [results, Tryz.results28, go_sem, r0, r1, r2, r3, r4, r5]
          · rw [HV.out, if_neg hkk]
            refine GotV.of rfl ?_ (by rw [HE.out]; push_cast; rfl)
            refine own_lower (own_keep HOWN.out (O := fun j => j ≤ T) ?_ (fun i hi _ h => by omega)) (by omega)
            exact (((((((Ch.refl (fun j => j ≤ T) wr).setCell (.inl (Nat.le_refl _)) _).setCell (.inl (by dsimp only; omega)) _).setCell (.inl (by dsimp only; omega)) _).setCell (.inl (by dsimp only; omega)) _).setCell (.inl (by dsimp only; omega)) _).setCell (.inl (by dsimp only; omega)) _).setCell (.inl (by dsimp only; omega)) _
          · exact ((((((HB.out.setCell (by dsimp only; omega) _).setCell (Nat.le_refl _) _).setCell (Nat.le_refl _) _).setCell (Nat.le_refl _) _).setCell (Nat.le_refl _) _).setCell (Nat.le_refl _) _).setCell (Nat.le_refl _) _
      | false =>
        have hb62 : (bI s q == 62) = false := h62'
        cases b2 with
        | true =>
          have hb : bI s q = 47 := by
            have h47 : headIs (s.data.toList.drop q) 47 = true := by
              rw [drop_uB s q hlt] at h2 ⊢
              simp only [hasPrefix, List.isPrefixOf, Bool.and_eq_true, beq_iff_eq] at h2
              rw [headIs, ← h2.1]; rfl
            rw [headIs_uB s q 47 hlt] at h47
            simpa using h47
          have hGs : G = some (ats, true, p + spN (L.drop p) + 2) := by rw [HI.out, tagGo_self _ _ _ _ (by rw [hdq]; exact h2)]
          have hend : i + (p + spN (L.drop p) + 2) = q + 2 := by omega
          have htv := HTL.out
          rw [hGs, tagRes] at htv
          have HE := Lib.hid hend
          have HV := Lib.hid htv
          have hb47 : (bI s q == 47) = true := by rw [hb]; rfl
          clear hGs hend htv h62 h62' h2 HI HTL hq hslot hdq hlt hne hb hb62
          rcases hk2 with hk | hk
          · have HK := Lib.hid hk
            go_wp2_with (go_at_call 57; (first | (with_reducible refine (I62.out _).mono ?_) | (with_reducible refine (I2.out _).mono ?_)); rintro v w4 ⟨rfl, rfl⟩)
            have hkk : kind = 2 := by simpa using HK.out
            refine bodyPost_ret (v := .agg #[.int .i64 2, .string (mkS nm), .slice none 0 0, .bool false, .string ⟨#[]⟩, .int .i64 ((q : Int) + 2)]) ?_ rfl ⟨_, rfl, ?_, ?_⟩
            · simp [results, Tryz.results28, go_sem, r0, r1, r2, r3, r4, r5]
            · rw [HV.out, if_pos hkk, hkk]
              exact GotV.of rfl (zero_owns _ _ _ _) (by rw [HE.out]; push_cast; rfl)
            · exact ((((((HB.out.setCell (by dsimp only; omega) _).setCell (Nat.le_refl _) _).setCell (Nat.le_refl _) _).setCell (Nat.le_refl _) _).setCell (Nat.le_refl _) _).setCell (Nat.le_refl _) _).setCell (Nat.le_refl _) _
          · have HK := Lib.hid hk
            go_wp2_with (go_at_call 57; (first | (with_reducible refine (I62.out _).mono ?_) | (with_reducible refine (I2.out _).mono ?_)); rintro v w4 ⟨rfl, rfl⟩)
            have hkk : ¬ kind = 2 := by simpa using HK.out
            refine bodyPost_ret (v := .agg #[.int .i64 kind, .string (mkS nm), .slice A ats.length c, .bool true, .string ⟨#[]⟩, .int .i64 ((q : Int) + 2)]) ?_ rfl ⟨_, rfl, ?_, ?_⟩
            · simp [results, Tryz.results28, go_sem, r0, r1, r2, r3, r4, r5]
            · rw [HV.out, if_neg hkk]
              refine GotV.of rfl ?_ (by rw [HE.out]; push_cast; rfl)
              refine own_lower (own_keep HOWN.out (O := fun j => j ≤ T) ?_ (fun i hi _ h => by omega)) (by omega)
              exact (((((((Ch.refl (fun j => j ≤ T) wr).setCell (.inl (Nat.le_refl _)) _).setCell (.inl (by dsimp only; omega)) _).setCell (.inl (by dsimp only; omega)) _).setCell (.inl (by dsimp only; omega)) _).setCell (.inl (by dsimp only; omega)) _).setCell (.inl (by dsimp only; omega)) _).setCell (.inl (by dsimp only; omega)) _
            · exact ((((((HB.out.setCell (by dsimp only; omega) _).setCell (Nat.le_refl _) _).setCell (Nat.le_refl _) _).setCell (Nat.le_refl _) _).setCell (Nat.le_refl _) _).setCell (Nat.le_refl _) _).setCell (Nat.le_refl _) _
        | false =>
          obtain ⟨b47, h47⟩ : ∃ b, (bI s q == 47) = b := ⟨_, rfl⟩
          have h47' : headIs (s.data.toList.drop q) 47 = b47 := by rw [headIs_uB s q 47 hlt]; exact h47
          cases b47 with
          | true =>
            have hGs : G = tagGo f ats (L.drop (p + spN (L.drop p) + 1)) (p + spN (L.drop p) + 1) := by
              rw [HI.out, tagGo_slash _ _ _ _ (by rw [hdq]; exact h62) (by rw [hdq]; exact h2) (by rw [hdq]; exact h47'), List.drop_drop]; rfl
            have hp' : p + spN (L.drop p) + 1 ≤ L.length := by omega
            obtain ⟨p', hpp⟩ : ∃ p', p + spN (L.drop p) + 1 = p' := ⟨_, rfl⟩
            rw [hpp] at hGs hp'
            have hip : i + p' = q + 1 := by omega
            have hpl : p < p' := by omega
            have S2 : Hid (∀ W, Calls Tryz.prog 61 #[.string s, .int .i64 ((q : Int) + 1)] W fun v w' => v = .returned (.int .i64 ((i + p' + spN (L.drop p') : Nat) : Int)) ∧ W = w') := Lib.hid (fun W => by
              have := SK.out W p' hp'
              rwa [show ((i + p' : Nat) : Int) = (q : Int) + 1 by omega] at this)
            have hq' : q < i + p' + spN (L.drop p') := by omega
            have HQQ := Lib.hid hq'
            have HGS := Lib.hid hGs
            clear hGs h62 h62' h2 h47' HI hq hslot hdq hlt hne hpp hip hq' hb62
            go_wp2_with (first | (go_at_call 57; (first | (with_reducible refine (I62.out _).mono ?_) | (with_reducible refine (I2.out _).mono ?_)); rintro v w4 ⟨rfl, rfl⟩) | (go_at_call 61; (with_reducible refine (S2.out _).mono ?_); rintro v w4 ⟨rfl, rfl⟩))
            go_roundw
            case rel => exact ⟨p', f, ats, .slice A ats.length c, hp', by trivial, by omega, by omega, HB.out, HRr.out, ⟨HTB.out, HOWN.out⟩, HGS⟩
            case measure => have := HQQ.out; simp [RowKit.intOf]; omega
          | false =>
            have ha := tagGo_attr f ats (L.drop p) p hne (by rw [hdq]; exact h62) (by rw [hdq]; exact h2) (by rw [hdq]; exact h47')
            rw [hdq] at ha
            have hal1 := attrL_pos (s.data.toList.drop q)
            have hal2 := attrL_le (s.data.toList.drop q) (by rw [List.length_drop, len_toL]; omega)
            rw [List.length_drop, len_toL] at hal2
            have AC := Lib.hid (fun W => rattr_calls W s q hlt hs)
            rw [List.drop_drop, ← HI.out] at ha
            generalize attrL (s.data.toList.drop q) = av at *
            obtain ⟨⟨a1, a2⟩, ok, m⟩ := av
            simp only at ha hal1 hal2
            have HA := Lib.hid ha
            clear ha h62 h62' h2 h47' hne hslot hdq hlt hb62 HI
            cases ok with
            | false =>
              have hGn : G = none := by rw [HA.out, if_neg (by simp)]
              have htv : tv = (zeroTok, L.length) := by rw [HTL.out, hGn]; rfl
              have HV := Lib.hid htv
              clear hGn htv HA HTL hq
              rw [show rattrV ((a1, a2), false, m) q = .agg #[.string ⟨#[]⟩, .string ⟨#[]⟩, .int .i64 (-1)] from rfl] at AC
              clear r0 r1 r2 r3 r4 r5 f0 f1 f2 f3 f4 f5 t0 t1 t2 t3 t4 tf2 tf3
              go_upto_region 16 with (first | (go_at_call 57; (first | (with_reducible refine (I62.out _).mono ?_) | (with_reducible refine (I2.out _).mono ?_)); rintro v w4 ⟨rfl, rfl⟩) | (go_at_call 62; (with_reducible refine (AC.out _).mono ?_); rintro v w5 ⟨rfl, hb5⟩; have hbB := hb5.alloc (Nat.le_trans (Nat.le_refl _) hb5.size) (.cells #[.string ⟨#[]⟩, .string ⟨#[]⟩, .int .i64 (-1)] 87); have hR6 := (hbB.block _ (blk_lt HRr.out)).trans HRr.out; have hX6 := blk_new w5 #[.string ⟨#[]⟩, .string ⟨#[]⟩, .int .i64 (-1)] 87; have hB6 := below_then HB.out HB.out.size hbB; clear hbB hb5))
              generalize w5.alloc (.cells #[.string ⟨#[]⟩, .string ⟨#[]⟩, .int .i64 (-1)] 87) = w6 at *
              generalize w5.heap.size = X at *
              have x2 := blk_cell hX6 2
              have r0 := blk_cell hR6 0
              have r1 := blk_cell hR6 1
              have r2 := blk_cell hR6 2
              have r3 := blk_cell hR6 3
              have r4 := blk_cell hR6 4
              have r5 := blk_cell hR6 5
              have f0 := blk_frozen hR6 0
              have f1 := blk_frozen hR6 1
              have f2 := blk_frozen hR6 2
              have f3 := blk_frozen hR6 3
              have f4 := blk_frozen hR6 4
              have f5 := blk_frozen hR6 5
              have hl6 := blk_lt hR6
              have HB6 := Lib.hid hB6
              clear hX6 hR6 hB6
              go_wp2
              refine bodyPost_ret (v := .agg #[.int .i64 0, .string ⟨#[]⟩, .slice none 0 0, .bool false, .string ⟨#[]⟩, .int .i64 (s.size : Int)]) ?_ rfl ⟨_, rfl, ?_, ?_⟩
              · simp [results, Tryz.results28, go_sem, r0, r1, r2, r3, r4, r5]
              · rw [HV.out]; exact GotV.of rfl (zero_owns _ _ _ _) (by dsimp only; omega)
              · exact (((((HB6.out.setCell (Nat.le_refl _) _).setCell (Nat.le_refl _) _).setCell (Nat.le_refl _) _).setCell (Nat.le_refl _) _).setCell (Nat.le_refl _) _).setCell (Nat.le_refl _) _
            | true =>
              rw [show rattrV ((a1, a2), true, m) q = .agg #[.string (mkS a1), .string (mkS a2), .int .i64 ((q + m : Nat) : Int)] from rfl] at AC
              rw [if_pos rfl] at HA
              obtain ⟨p', hpp⟩ : ∃ p', p + spN (L.drop p) + m = p' := ⟨_, rfl⟩
              have hp' : p' ≤ L.length := by omega
              have hpl : p < p' := by omega
              have hip : i + p' = q + m := by omega
              have hq' : q < i + p' + spN (L.drop p') := by omega
              have HGS : Hid (G = tagGo f (addL ats (a1, a2)) (L.drop p') p') := Lib.hid (by rw [HA.out, ← hpp, Nat.add_assoc])
              have hem : ((q + m : Nat) : Int) = ((i + p' : Nat) : Int) := by rw [hip]
              rw [hem] at AC
              have S2 := Lib.hid (fun W => SK.out W p' hp')
              have HQQ := Lib.hid hq'
              obtain ⟨E, hE⟩ : ∃ E, i + p' = E := ⟨_, rfl⟩
              rw [hE] at AC S2
              have HEE := Lib.hid hE
              clear HA hq hpp hip hq' hem hal1 hal2 HTL hE
              clear r0 r1 r2 r3 r4 r5 f0 f1 f2 f3 f4 f5 t0 t1 t2 t3 t4 tf2 tf3
              go_upto_region 18 with (first | (go_at_call 57; (first | (with_reducible refine (I62.out _).mono ?_) | (with_reducible refine (I2.out _).mono ?_)); rintro v w4 ⟨rfl, rfl⟩) | (go_at_call 62; (with_reducible refine (AC.out _).mono ?_); rintro v w5 ⟨rfl, hb5⟩; have hbB := hb5.alloc (Nat.le_trans (Nat.le_refl _) hb5.size) (.cells #[.string (mkS a1), .string (mkS a2), .int .i64 E] 87); have hR6 := (hbB.block _ (blk_lt HRr.out)).trans HRr.out; have hT6 := TokR.below ⟨HTB.out, HOWN.out⟩ hbB; have hX6 := blk_new w5 #[.string (mkS a1), .string (mkS a2), .int .i64 E] 87; have hB6 := below_then HB.out HB.out.size hbB; have hat6 := HAT.out.below hbB; have hsz5 : T < w5.heap.size := Nat.lt_of_lt_of_le (blk_lt HTB.out) hb5.size; clear hbB hb5))
              generalize w5.alloc (.cells #[.string (mkS a1), .string (mkS a2), .int .i64 E] 87) = w6 at *
              generalize w5.heap.size = X at *
              have t2 := blk_cell hT6.1 2
              have tf2 := blk_frozen hT6.1 2
              have x0 := blk_cell hX6 0
              have x1 := blk_cell hX6 1
              have x2 := blk_cell hX6 2
              have hlx := blk_lt hX6
              have HC := Lib.hid (fun W h => rhas_calls W (mkS a1) A c ats h (by omega))
              rw [of_mkS] at HC
              have HR6 := Lib.hid hR6
              have HT6 := Lib.hid hT6
              have HX6 := Lib.hid hX6
              have HB6 := Lib.hid hB6
              have HAT6 := Lib.hid hat6
              clear hR6 hT6 hX6 hB6 hat6 AC HRr HTB HOWN HB HAT
              cases hh : hasName ats a1 with
              | true =>
                rw [hh] at HC
                have hadd : addL ats (a1, a2) = ats := by rw [addL, if_pos hh]
                rw [hadd] at HGS
                clear hadd hh
                go_wp2_with (first | (go_at_call 63; (with_reducible refine (HC.out _ HAT6.out).mono ?_); rintro v w7 ⟨rfl, hb7⟩; have hX7 := (hb7.block _ (blk_lt HX6.out)).trans HX6.out; have x27 := blk_cell hX7 2; have hlx7 := blk_lt hX7) | (go_at_call 61; (with_reducible refine (S2.out _).mono ?_); rintro v w8 ⟨rfl, rfl⟩))
                go_roundw
                case rel => exact ⟨p', f, ats, .slice A ats.length c, hp', by first | trivial | (rw [HEE.out]; done) | (rw [HEE.out]; go_num) | (rw [HEE.out]; simp), by omega, by omega, below_then HB6.out HB6.out.size hb7, (hb7.block _ (blk_lt HR6.out)).trans HR6.out, HT6.out.below hb7, HGS⟩
                case measure => have := HQQ.out; have := HEE.out; simp [RowKit.intOf]; omega
              | false =>
                rw [hh] at HC
                have hadd : addL ats (a1, a2) = ats ++ [(a1, a2)] := by rw [addL, hh]; rfl
                rw [hadd] at HGS
                clear hadd hh
                go_upto_region 19 with (go_at_call 63; (with_reducible refine (HC.out _ HAT6.out).mono ?_); rintro v w7 ⟨rfl, hb7⟩)
                have hX7 := (hb7.block _ (blk_lt HX6.out)).trans HX6.out
                have hT7 := HT6.out.below hb7
                have hR7 := (hb7.block _ (blk_lt HR6.out)).trans HR6.out
                have hB7 := below_then HB6.out HB6.out.size hb7
                have hba : Below w7.heap.size w7 (w7.alloc (.cells #[.string (mkS a1), .string (mkS a2)] 48)) := (Below.refl _ _).alloc (Nat.le_refl _) _
                have hX8 := (hba.block _ (blk_lt hX7)).trans hX7
                have hT8 := hT7.below hba
                have hR8 := (hba.block _ (blk_lt hR7)).trans hR7
                have hB8 := below_then hB7 hB7.size hba
                have hnews := World.news_of_block (heap_alloc_new w7 (.cells #[.string (mkS a1), .string (mkS a2)] 48))
                have hone : ∀ u ∈ [Value.string (mkS a1), .string (mkS a2)], u.oneCell' = true := by simp [Value.oneCell']
                have h63 : ats.length + 1 ≤ maxLen := by unfold maxLen; omega
                have y0 := blk_cell hX7 0
                have y1 := blk_cell hX7 1
                have u2 := blk_cell hT7.1 2
                have hlt7 := blk_lt hT7.1
                have hlx7 := blk_lt hX7
                have nT := own_farT hT8.2 hT8.1 (by decide)
                have nX := own_farT hT8.2 hX8 (by decide)
                have nR := own_farT hT8.2 hR8 (by decide)
                have zT := blk_lt hT8.1
                have zX := blk_lt hX8
                have zR := blk_lt hR8
                have NT := Lib.hid nT
                have NX := Lib.hid nX
                have NR := Lib.hid nR
                clear nT nX nR
                have hOl := hT8.2
                have HOL := Lib.hid hOl
                have HT8 := Lib.hid hT8.1
                have HX8 := Lib.hid hX8
                have HR8 := Lib.hid hR8
                have HB8 := Lib.hid hB8
                clear t2 tf2 x0 x1 x2 hlx hb7 hX7 hT7 hR7 hB7 hba hX8 hR8 hB8 HR6 HT6 HX6 HB6 HAT6 hT8
                have hbs : T + 1 ≤ (w7.alloc (.cells #[.string (mkS a1), .string (mkS a2)] 48)).heap.size := by simp; omega
                go_wp2_with (first | (at_builtin; refine wpList_append_own_at _ rfl _ _ 28 rfl (T + 1) 48 i0 _ 2 32 Tryz.underlying28 hinf hz0 hz1 hz2 rfl (by decide) _ _ (attrCells ats) rfl hOl ⟨w7.heap.size, 0, none⟩ 1 1 [.string (mkS a1), .string (mkS a2)] rfl rfl hnews hone h63 (by omega) hbs ?_; intro v' w8 hown' hg hnil hat; have hown' : w8.ownsRow (T + 1) 48 2 v' (ats ++ [(a1, a2)]).length (attrCells (ats ++ [(a1, a2)])) := (by rw [attrCells_snoc, List.length_append]; exact hown'); obtain ⟨A', c', rfl, -, -⟩ := own_attrs hown'; rw [show (ats ++ [(a1, a2)]).length = ats.length + 1 by simp] at hown'; have HOW := Lib.hid hown'; have HGR := Lib.hid hg; clear hnil hat hown' hg hnews hone hOl; have q2 := blk_cell ((HGR.out.block T zT NT.out).trans HT8.out) 2; have qf2 := blk_frozen ((HGR.out.block T zT NT.out).trans HT8.out) 2; have xx := blk_cell ((HGR.out.block X zX NX.out).trans HX8.out) 2; have ll := blk_lt ((HGR.out.block X zX NX.out).trans HX8.out); have lt8 := blk_lt ((HGR.out.block T zT NT.out).trans HT8.out); clear y0 y1 u2 hlt7 hlx7 zT zX) | (go_at_call 61; (with_reducible refine (S2.out _).mono ?_); rintro v w9 ⟨rfl, rfl⟩))
                go_roundw
                case rel =>
                  refine ⟨p', f, ats ++ [(a1, a2)], .slice A' (ats.length + 1) c', hp', by first | trivial | (rw [HEE.out]; done) | (rw [HEE.out]; go_num) | (rw [HEE.out]; simp), by rw [List.length_append, List.length_singleton]; omega, by omega, ?_, ?_, ⟨?_, ?_⟩, HGS⟩
                  · refine Ch.toBelow (O := fun j => w.heap.size ≤ j) ((Ch.ofGrown (Ch.of_below (O := fun j => w.heap.size ≤ j) HB8.out) HGR.out (fun k hk => .inl (by have := own_base HOL.out hk; omega))).setCell (.inl (by dsimp only; omega)) _) (Nat.le_refl _) (fun i hi h => by omega)
                  · exact blk_far ((HGR.out.block _ zR NR.out).trans HR8.out) (by dsimp only; omega) _
                  · exact blk_set ((HGR.out.block _ (blk_lt HT8.out) NT.out).trans HT8.out) 2 _
                  · rw [List.length_append]
                    exact own_keep HOW.out (O := fun j => j = T) ((Ch.refl (fun j => j = T) w8).setCell (.inl rfl) _) (fun i hi _ e => by omega)
                case measure => have := HQQ.out; have := HEE.out; simp [RowKit.intOf]; omega
    · have hGn : G = none := by rw [HI.out, tagGo_end _ _ _ _ (by rw [hdq, List.drop_eq_nil_of_le (by rw [len_toL]; omega)])]
      have htv : tv = (zeroTok, L.length) := by rw [HTL.out, hGn]; rfl
      have hlt' : ¬ (q : Int) < s.size := by omega
      have HB := Lib.hid hB
      clear hGn HI HTL hq hslot hdq hlt hT
      subst htv
      go_wp2
      refine bodyPost_ret (v := .agg #[.int .i64 0, .string ⟨#[]⟩, .slice none 0 0, .bool false, .string ⟨#[]⟩, .int .i64 (s.size : Int)]) ?_ rfl ⟨_, rfl, ?_, ?_⟩
      · simp [results, Tryz.results28, go_sem, r0, r1, r2, r3, r4, r5]
      · exact GotV.of rfl (zero_owns _ _ _ _) (by first | rfl | (dsimp only; omega))
      · exact (((((HB.out.setCell (Nat.le_refl _) _).setCell (Nat.le_refl _) _).setCell (Nat.le_refl _) _).setCell (Nat.le_refl _) _).setCell (Nat.le_refl _) _).setCell (Nat.le_refl _) _

end Go.Proofs.YthfkldheflmlmaaGreatDoor
