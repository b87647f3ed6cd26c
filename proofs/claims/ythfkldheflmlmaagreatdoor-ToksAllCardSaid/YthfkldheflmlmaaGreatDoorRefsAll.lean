/- Walks of package refs: At and All. -/
import Derived.Test.YthfkldheflmlmaaGreatDoorNamed
namespace Go.Proofs.YthfkldheflmlmaaGreatDoor
open Go.RowKit

theorem firstI_pos (s : ByteArray) (h : 0 < s.size) : 1 ≤ (firstI s).2 ∧ (firstI s).2 ≤ s.size := by
  unfold firstI
  rw [if_neg (by omega)]
  have hn : 0 ≤ longI (bI s 0) := by unfold longI; split <;> (try split) <;> (try split) <;> (try split) <;> omega
  simp only
  split
  · exact ⟨by simp, by simp; omega⟩
  split
  · exact ⟨by simp, by simp; omega⟩
  split
  · exact ⟨by simp, by simp; omega⟩
  · simp only
    omega

theorem numL_le (l : List UInt8) : (numL l).2 ≤ l.length := by
  simp only [numL]
  have hx : (if hexL l then 1 else 0) ≤ l.length := by
    cases l with
    | nil => simp [hexL]
    | cons b t => split <;> simp
  generalize (if hexL l = true then (16 : Int) else 10) = base
  generalize (if hexL l = true then 1 else 0) = k at *
  have h1 := digsL_le base (l.drop k) 0
  rw [List.length_drop] at h1
  generalize (digsL base (l.drop k) 0) = m at *
  split
  · exact Nat.zero_le _
  · cases hh : headIs (l.drop (k + m.2)) 59 with
    | true =>
      have : l.drop (k + m.2) ≠ [] := fun e => by rw [e] at hh; cases hh
      have := List.length_pos_iff.mpr this
      rw [List.length_drop] at this
      simp; omega
    | false => simp; omega

theorem hasPrefix_len {l p : List UInt8} (h : Lib.hasPrefix l p = true) : p.length ≤ l.length := (List.isPrefixOf_iff_prefix.mp h).length_le
theorem namL_le (l : List UInt8) (value : Bool) : (namL l value).2 ≤ l.length := by
  have key : ∀ (rs : List (List UInt8 × Int × Bool)) (ac : Int × Nat), ac.2 ≤ l.length → (rs.foldl (refStep l value) ac).2 ≤ l.length := by
    intro rs
    induction rs with
    | nil => intro ac h; exact h
    | cons r rs ih =>
      intro ac h
      refine ih _ ?_
      unfold refStep
      split
      · exact h
      rename_i hp
      have hp' := hasPrefix_len (by simpa using hp)
      split
      · rename_i h59
        split
        · have : l.drop r.1.length ≠ [] := fun e => by rw [e] at h59; cases h59
          have := List.length_pos_iff.mpr this
          rw [List.length_drop] at this
          show r.1.length + 1 ≤ l.length
          omega
        · exact h
      split
      · exact h
      split
      · exact hp'
      · exact h
  exact key _ _ (Nat.zero_le _)

/-- What stands at the begin of a list, and how many bytes it has. -/
def atL (l : List UInt8) (value : Bool) : List UInt8 × Nat :=
  match l with
  | [] => ([], 0)
  | b :: t =>
    if b.toNat ≠ 38 then (bytesL (firstI (mkS (b :: t))).1, (firstI (mkS (b :: t))).2.toNat)
    else if headIs t 35 then (if 0 < (numL (t.drop 1)).2 then (bytesL (numL (t.drop 1)).1, 2 + (numL (t.drop 1)).2) else ([38], 1))
    else if 0 < (namL t value).2 then (bytesL (namL t value).1, 1 + (namL t value).2) else ([38], 1)
theorem atL_pos (l : List UInt8) (value : Bool) (h : l ≠ []) : 1 ≤ (atL l value).2 ∧ (atL l value).2 ≤ l.length := by
  cases l with
  | nil => exact absurd rfl h
  | cons b t =>
    unfold atL
    simp only
    split
    · have := firstI_pos (mkS (b :: t)) (by rw [size_mkS]; simp)
      rw [size_mkS] at this
      simp only at this ⊢
      omega
    split
    · rename_i h35
      have ht : t ≠ [] := fun e => by rw [e] at h35; cases h35
      have := List.length_pos_iff.mpr ht
      have h2 := numL_le (t.drop 1)
      rw [List.length_drop] at h2
      split <;> (simp only [List.length_cons]; omega)
    · have h2 := namL_le t value
      split <;> (simp only [List.length_cons]; omega)
def allF (value : Bool) : Nat → List UInt8 → List UInt8
  | 0, _ => []
  | f + 1, l => if l = [] then [] else (atL l value).1 ++ allF value f (l.drop (atL l value).2)
/-- All of a text, its references read. -/
def allL (l : List UInt8) (value : Bool) : List UInt8 := allF value l.length l
theorem allF_more (value : Bool) : ∀ (f g : Nat) (l : List UInt8), l.length ≤ f → l.length ≤ g → allF value f l = allF value g l
  | 0, 0, _, _, _ => rfl
  | 0, g + 1, l, h, _ => by
    have : l = [] := List.length_eq_zero_iff.mp (by omega)
    rw [this]; simp [allF]
  | f + 1, 0, l, _, h => by
    have : l = [] := List.length_eq_zero_iff.mp (by omega)
    rw [this]; simp [allF]
  | f + 1, g + 1, l, h, h' => by
    unfold allF
    by_cases hl : l = []
    · rw [if_pos hl, if_pos hl]
    · have := atL_pos l value hl
      rw [if_neg hl, if_neg hl, allF_more value f g _ (by rw [List.length_drop]; omega) (by rw [List.length_drop]; omega)]
theorem allL_nil (value : Bool) : allL [] value = [] := rfl
theorem allL_step (l : List UInt8) (value : Bool) (h : l ≠ []) : allL l value = (atL l value).1 ++ allL (l.drop (atL l value).2) value := by
  have hp := List.length_pos_iff.mpr h
  have ha := atL_pos l value h
  obtain ⟨n, hn⟩ : ∃ n, l.length = n + 1 := ⟨l.length - 1, by omega⟩
  rw [allL, hn, allF, if_neg h, allL]
  rw [allF_more value n _ _ (by rw [List.length_drop]; omega) (Nat.le_refl _)]

theorem ret_str_int {a b : ByteArray} {x y : Int} (h : a = b) (k : x = y) : Ending.returned (.tuple #[.string a, .int .i64 x]) = .returned (.tuple #[.string b, .int .i64 y]) := by rw [h, k]

def RefsTab (w : World) : Prop := UtfTab w ∧ Glob w 3 turnsCells ∧ Glob w 2 refsCells
theorem RefsTab.below {w w' : World} (h : RefsTab w) (hb : Below w.heap.size w w') : RefsTab w' := ⟨h.1.below hb, h.2.1.below hb, h.2.2.below hb⟩
theorem below_then {B : Nat} {w w1 w2 : World} (h : Below B w w1) (hB : B ≤ w1.heap.size) (k : Below w1.heap.size w1 w2) : Below B w w2 :=
  h.trans ⟨k.os, k.tape, k.output, k.size, fun i hi => k.block i (Nat.lt_of_lt_of_le hi hB)⟩
theorem below_drewN {B : Nat} {a w : World} (h : Below B a w) (n : Nat) : Below B a (w.drewN n) := ⟨h.os, h.tape, h.output, h.size, h.block⟩

set_option maxRecDepth 100000 in
set_option maxHeartbeats 2000000 in
theorem at_calls (w : World) (s : ByteArray) (value : Bool) (i : Nat) (hi : i < s.size) (ht : RefsTab w) (hs : s.size ≤ 1000000000) :
    Calls Tryz.prog 56 #[.string s, .int .i64 i, .bool value] w fun e w' => e = .returned (.tuple #[.string (mkS (atL (s.data.toList.drop i) value).1), .int .i64 ((i : Int) + (atL (s.data.toList.drop i) value).2)]) ∧ Below w.heap.size w w' := by
  have hbt := bI_at s
  have hr := bI_range s i
  have hd := drop_uB s i hi
  have HT := Lib.hid ht
  clear ht
  by_cases h38 : bI s i = 38
  · have h38' : (bI s i != 38) = false := by simp [h38]
    obtain ⟨t, ht⟩ : ∃ t, t = s.extract (i + 1) s.size := ⟨_, rfl⟩
    have htl : t.data.toList = s.data.toList.drop (i + 1) := by rw [ht, toL_from]
    have htz : t.size = s.size - (i + 1) := by rw [ht, size_from]
    have hat : atL (s.data.toList.drop i) value = if headIs t.data.toList 35 then (if 0 < (numL (t.data.toList.drop 1)).2 then (bytesL (numL (t.data.toList.drop 1)).1, 2 + (numL (t.data.toList.drop 1)).2) else ([38], 1))
        else if 0 < (namL t.data.toList value).2 then (bytesL (namL t.data.toList value).1, 1 + (namL t.data.toList value).2) else ([38], 1) := by
      rw [hd, htl, atL, if_neg]
      rw [bI_uB] at h38; omega
    have HA := Lib.hid hat
    have HT2 := Lib.hid ht.symm
    have HZ : t.size ≤ s.size := by omega
    have HP := Lib.hid (fun w => hasPrefix_calls w t (mkS [35]))
    clear hat ht htl htz hd h38
    cases h35 : headIs t.data.toList 35 with
    | true =>
      have htp : 0 < t.size := by
        have : t.data.toList ≠ [] := fun e => by rw [e] at h35; cases h35
        have := List.length_pos_iff.mpr this
        rw [len_toL] at this; exact this
      have H35 := Lib.hid h35
      clear h35
      have NC := Lib.hid (fun w h => num_calls w (t.extract 1 t.size) h (by rw [size_from]; omega))
      have hnl := numL_le (t.data.toList.drop 1)
      rw [List.length_drop, len_toL] at hnl
      have e1 : numL (t.extract 1 t.size).data.toList = numL (t.data.toList.drop 1) := by rw [toL_from]
      obtain ⟨c, hc⟩ : ∃ c, numL (t.data.toList.drop 1) = c := ⟨_, rfl⟩
      rw [hc] at hnl e1
      obtain ⟨c1, c2⟩ := c
      have HC := Lib.hid hc
      have HE := Lib.hid e1
      clear hc e1
      have BC := Lib.hid (fun w h => bytes_calls w c1 h)
      by_cases hc2 : 0 < c2
      · have hq : atL (s.data.toList.drop i) value = (bytesL c1, 2 + c2) := by rw [HA.out, if_pos H35.out, HC.out, if_pos hc2]
        have HQ := Lib.hid hq
        clear hq
        go_enter Tryz.func56, Tryz.ntmps56
        go_wp2_with (first | (go_at_call 20; rw [HT2.out]; refine (HP.out _).mono ?_; rintro e w1 ⟨rfl, rfl⟩; rw [of_mkS, hasPrefix_one, show (35 : UInt8).toNat = 35 from rfl, H35.out]) | (go_at_call 85; refine (NC.out _ HT.out.2.1).mono ?_; rintro e w1 ⟨rfl, hb1⟩; rw [HE.out]) | (go_at_call 72; refine (BC.out _ (HT.out.1.below hb1)).mono ?_; rintro e w2 ⟨rfl, hb2⟩))
        go_ret2
        exact ⟨by rw [HQ.out]; exact ret_str_int rfl (by omega), below_then hb1 hb1.size hb2⟩
      · have hq : atL (s.data.toList.drop i) value = ([38], 1) := by rw [HA.out, if_pos H35.out, HC.out, if_neg hc2]
        have HQ := Lib.hid hq
        clear hq
        go_enter Tryz.func56, Tryz.ntmps56
        go_wp2_with (first | (go_at_call 20; rw [HT2.out]; refine (HP.out _).mono ?_; rintro e w1 ⟨rfl, rfl⟩; rw [of_mkS, hasPrefix_one, show (35 : UInt8).toNat = 35 from rfl, H35.out]) | (go_at_call 85; refine (NC.out _ HT.out.2.1).mono ?_; rintro e w1 ⟨rfl, hb1⟩; rw [HE.out]) | (go_at_call 72; refine (BC.out _ (HT.out.1.below hb1)).mono ?_; rintro e w2 ⟨rfl, hb2⟩))
        go_ret2
        exact ⟨by rw [HQ.out]; rfl, hb1⟩
    | false =>
      have H35 := Lib.hid h35
      clear h35
      have NC := Lib.hid (fun w h => nam_calls w t value h (by omega))
      have hnl := namL_le t.data.toList value
      rw [len_toL] at hnl
      obtain ⟨c, hc⟩ : ∃ c, namL t.data.toList value = c := ⟨_, rfl⟩
      rw [hc] at hnl
      obtain ⟨c1, c2⟩ := c
      have HE := Lib.hid hc
      clear hc
      have BC := Lib.hid (fun w h => bytes_calls w c1 h)
      by_cases hc2 : 0 < c2
      · have hq : atL (s.data.toList.drop i) value = (bytesL c1, 1 + c2) := by rw [HA.out, if_neg (by rw [H35.out]; simp), HE.out, if_pos hc2]
        have HQ := Lib.hid hq
        clear hq
        go_enter Tryz.func56, Tryz.ntmps56
        go_wp2_with (first | (go_at_call 20; rw [HT2.out]; refine (HP.out _).mono ?_; rintro e w1 ⟨rfl, rfl⟩; rw [of_mkS, hasPrefix_one, show (35 : UInt8).toNat = 35 from rfl, H35.out]) | (go_at_call 86; refine (NC.out _ HT.out.2.2).mono ?_; rintro e w1 ⟨rfl, hb1⟩; rw [HE.out]) | (go_at_call 72; refine (BC.out _ (HT.out.1.below hb1)).mono ?_; rintro e w2 ⟨rfl, hb2⟩))
        go_ret2
        exact ⟨by rw [HQ.out]; exact ret_str_int rfl (by omega), below_then hb1 hb1.size hb2⟩
      · have hq : atL (s.data.toList.drop i) value = ([38], 1) := by rw [HA.out, if_neg (by rw [H35.out]; simp), HE.out, if_neg hc2]
        have HQ := Lib.hid hq
        clear hq
        go_enter Tryz.func56, Tryz.ntmps56
        go_wp2_with (first | (go_at_call 20; rw [HT2.out]; refine (HP.out _).mono ?_; rintro e w1 ⟨rfl, rfl⟩; rw [of_mkS, hasPrefix_one, show (35 : UInt8).toNat = 35 from rfl, H35.out]) | (go_at_call 86; refine (NC.out _ HT.out.2.2).mono ?_; rintro e w1 ⟨rfl, hb1⟩; rw [HE.out]) | (go_at_call 72; refine (BC.out _ (HT.out.1.below hb1)).mono ?_; rintro e w2 ⟨rfl, hb2⟩))
        go_ret2
        exact ⟨by rw [HQ.out]; rfl, hb1⟩
  · have h38' : (bI s i != 38) = true := by simp [h38]
    have hat : atL (s.data.toList.drop i) value = (bytesL (firstI (s.extract i s.size)).1, (firstI (s.extract i s.size)).2.toNat) := by
      have hx : s.extract i s.size = mkS (s.data.toList.drop i) := by rw [← toL_from]; rfl
      rw [hx, hd, atL, if_pos]
      rw [bI_uB] at h38; omega
    have hz := size_from s i
    have hp := firstI_pos (s.extract i s.size) (by omega)
    have FC := Lib.hid (fun w h => first_calls w (s.extract i s.size) h (by omega))
    obtain ⟨c, hc⟩ : ∃ c, firstI (s.extract i s.size) = c := ⟨_, rfl⟩
    rw [hc] at hat hp
    obtain ⟨c1, c2⟩ := c
    have HA := Lib.hid hat
    have HC := Lib.hid hc
    have BC := Lib.hid (fun w h => bytes_calls w c1 h)
    simp only at hp
    obtain ⟨hp1, hp2⟩ := hp
    have hp3 : c2 ≤ 1000000000 := by omega
    clear hat hc hd h38 hz hp2
    go_enter Tryz.func56, Tryz.ntmps56
    go_wp2_with (first | (go_at_call 74; refine (FC.out _ HT.out.1).mono ?_; rintro e w1 ⟨rfl, n1, rfl⟩; rw [HC.out]) | (go_at_call 72; refine (BC.out _ (HT.out.1.below (below_drewN (Below.refl _ _) n1))).mono ?_; rintro e w2 ⟨rfl, hb2⟩))
    go_ret2
    exact ⟨by rw [HA.out]; exact ret_str_int rfl (by simp only; omega), below_then (below_drewN (Below.refl _ _) n1) (Nat.le_refl _) hb2⟩

theorem bytesL_len (c : Int) : (bytesL c).length ≤ 4 := by
  have h : ∀ c, (charL c).length ≤ 4 := by
    intro c
    unfold charL
    split
    · simp
    split
    · simp
    split <;> simp
  unfold bytesL
  split <;> exact h _
theorem len_ite {c : Prop} [Decidable c] {a b : List UInt8 × Nat} (ha : a.1.length ≤ 4) (hb : b.1.length ≤ 4) : (if c then a else b).1.length ≤ 4 := by split <;> assumption
theorem atL_len (l : List UInt8) (value : Bool) : (atL l value).1.length ≤ 4 := by
  cases l with
  | nil => exact Nat.zero_le _
  | cons b t =>
    have h : ∀ (c : Int) (n : Nat), ((bytesL c, n) : List UInt8 × Nat).1.length ≤ 4 := fun c n => bytesL_len c
    have h' : ∀ (n : Nat), (([38], n) : List UInt8 × Nat).1.length ≤ 4 := fun n => by simp
    simp only [atL]
    refine len_ite (h _ _) (len_ite (len_ite (h _ _) (h' _)) (len_ite (h _ _) (h' _)))

set_option maxRecDepth 100000 in
set_option maxHeartbeats 2000000 in
theorem all_calls (w : World) (s : ByteArray) (value : Bool) (ht : RefsTab w) (hs : s.size ≤ 100000000) :
    Calls Tryz.prog 26 #[.string s, .bool value] w fun e w' => e = .returned (.string (mkS (allL s.data.toList value))) ∧ Below w.heap.size w w' := by
  have HT := Lib.hid ht
  clear ht
  go_enter Tryz.func26, Tryz.ntmps26
  go_wp2
  have hnew := Bld.new w
  have hb0 : Below w.heap.size w (w.alloc (.cells #[.pointer none, .slice none 0 0] 65)) := (Below.refl _ _).alloc (Nat.le_refl _) _
  go_loopw [6] (fun i wr => ∃ (k : Nat) (acc : List UInt8), k ≤ s.size ∧ i = .int .i64 k ∧ acc.length ≤ 4 * k ∧ Bld wr w.heap.size w.heap.size acc ∧ Below w.heap.size w wr ∧ Hid (allL s.data.toList value = acc ++ allL (s.data.toList.drop k) value)) (fun i _ => s.size - (intOf i).toNat)
  case atStart => exact ⟨0, [], by omega, rfl, by simp, hnew, hb0, Lib.hid (by simp)⟩
  case round =>
    obtain ⟨k, acc, hk, rfl, hal, hB, hb, HI⟩ := hrel
    by_cases hlt : k < s.size
    · have hne : s.data.toList.drop k ≠ [] := by rw [drop_uB s k hlt]; simp
      have hap := atL_pos _ value hne
      have haz := atL_len (s.data.toList.drop k) value
      have hstep := allL_step _ value hne
      rw [List.length_drop, len_toL] at hap
      have HR := Lib.hid (fun h h' => at_calls wr s value k hlt h h')
      generalize atL (s.data.toList.drop k) value = r at *
      obtain ⟨r1, r2⟩ := r
      rw [List.drop_drop] at hstep
      have HS := Lib.hid hstep
      have HBB := Lib.hid hB
      have WC := Lib.hid (fun w' h h' => writeString_calls w' w.heap.size w.heap.size acc (mkS r1) h (by rw [size_mkS]; simp only at haz; omega) h')
      simp only at hap haz
      obtain ⟨hap1, hap2⟩ := hap
      clear hstep hB hne
      go_wp2_with (first | (go_at_call 56; refine (HR.out (HT.out.below hb) (by omega)).mono ?_; rintro e w1 ⟨rfl, hb1⟩) | (go_at_call 32; refine (WC.out _ (HBB.out.kept hb1) (by have := hb.size; have := hb1.size; omega)).mono ?_; rintro e w2 ⟨rfl, hB2, hb2⟩))
      go_roundw
      case rel => exact ⟨k + r2, acc ++ r1, by omega, by go_num, by simp; omega, by rw [of_mkS] at hB2; exact hB2, (hb.trans (hb1.mono hb.size)).trans hb2, Lib.hid (by rw [HI.out, HS.out]; simp)⟩
      case measure => simp [intOf]; omega
    · have hd : s.data.toList.drop k = [] := List.drop_eq_nil_of_le (by rw [len_toL]; omega)
      have hq : allL s.data.toList value = acc := by rw [HI.out, hd, allL_nil]; simp
      have HQ := Lib.hid hq
      have SC := Lib.hid (builderString_calls wr w.heap.size w.heap.size acc hB hb.size)
      clear hd hq
      go_wp2_with (go_at_call 36; refine SC.out.mono ?_; rintro e w1 ⟨rfl, hb1⟩)
      go_ret
      exact ⟨by rw [HQ.out]; rfl, hb.trans hb1⟩

end Go.Proofs.YthfkldheflmlmaaGreatDoor
