/- Walks of the lexer: to, begins, ends. -/
import Derived.Test.YthfkldheflmlmaaGreatDoorLex
namespace Go.Proofs.YthfkldheflmlmaaGreatDoor
open Go.RowKit

theorem val_int {a b : Int} (h : a = b) : Value.int .i64 a = .int .i64 b := by rw [h]

/-- What stands ahead of a text, and how many bytes are taken with it. -/
def toL (x l : List UInt8) : List UInt8 × Nat := ((Lib.cut l x).1, Min.min l.length ((Lib.cut l x).1.length + x.length))
theorem cut_le (l x : List UInt8) : (Lib.cut l x).1.length ≤ l.length := by
  unfold Lib.cut
  split
  · exact List.length_take_le' _ _
  · exact Nat.le_refl _
theorem toL_le (x l : List UInt8) : (toL x l).2 ≤ l.length := Nat.min_le_left _ _

set_option maxRecDepth 100000 in
set_option maxHeartbeats 2000000 in
theorem to_calls (w : World) (g : Nat) (s x : ByteArray) (i : Nat) (h : LexAt w g s i) (hi : i ≤ s.size) (hm : MaxTab w) (hs : s.size ≤ 100000000) (hx : x.size ≤ 100000000) :
    Calls Tryz.prog 104 #[.pointer (some ⟨g, 0, none⟩), .string x] w fun e w' =>
      e = .returned (.string (mkS (toL x.data.toList (s.data.toList.drop i)).1)) ∧ LexAt w' g s (i + (toL x.data.toList (s.data.toList.drop i)).2) ∧ Ch (· = g) w w' := by
  have h0 := h.c0
  have h1 := h.c1
  have hf := h.f1
  have HL := Lib.hid h
  have CC := Lib.hid (fun w hm => cut_calls w (s.extract i s.size) x hm (by rw [size_from]; omega))
  have hel := toL_from s i
  have hcl := cut_le (s.data.toList.drop i) x.data.toList
  rw [List.length_drop, len_toL] at hcl
  have hto : toL x.data.toList (s.data.toList.drop i) = ((Lib.cut (s.data.toList.drop i) x.data.toList).1, Min.min (s.size - i) ((Lib.cut (s.data.toList.drop i) x.data.toList).1.length + x.size)) := by
    rw [toL, List.length_drop, len_toL, len_toL]
  rw [hel] at CC
  have HM := Lib.hid hm
  generalize Lib.cut (s.data.toList.drop i) x.data.toList = c at *
  obtain ⟨c1, c2, c3⟩ := c
  simp only at hcl
  have HTO := Lib.hid hto
  have hz := size_mkS c1
  clear h hto hel hm
  go_enter Tryz.func104, Tryz.ntmps104
  go_wp2_with fail
  go_quiet (first | (go_at_call 121; exact Calls.quiet_of (CC.out _ (HM.out.below (below_drewN (Below.refl _ _) _)))))
  go_wp2
  go_region
  all_goals go_wp2
  all_goals go_ret
  all_goals exact ⟨by rw [HTO.out]; rfl, by rw [HTO.out]; exact LexAt.set_ (by exact HL.out) (val_int (by simp only; omega)), Ch.setCell ((Ch.refl (· = g) w).drewN _) (.inl (show g = g from rfl)) _⟩

/-- Does a < at the begin of a list begin something? -/
def begL (l : List UInt8) : Bool := match l with
  | _ :: b :: t => letterI b.toNat || ((b.toNat : Int) == 33 || ((b.toNat : Int) == 63 || ((b.toNat : Int) == 47 && !t.isEmpty)))
  | _ => false

set_option maxRecDepth 100000 in
set_option maxHeartbeats 1000000 in
theorem begins_calls (w : World) (s : ByteArray) (i : Nat) (hi : i < s.size) (hs : s.size ≤ 100000000) :
    Calls Tryz.prog 46 #[.string s, .int .i64 i] w fun e w' => e = .returned (.bool (begL (s.data.toList.drop i))) ∧ w = w' := by
  have hbt := bI_at s
  have hd := drop_uB s i hi
  by_cases h1 : i + 1 < s.size
  · have hd1 := drop_uB s (i + 1) h1
    have hr := bI_range s (i + 1)
    have he : (s.data.toList.drop (i + 1 + 1)).isEmpty = decide (s.size ≤ i + 2) := by
      rw [Bool.eq_iff_iff]; simp
    have hb : begL (s.data.toList.drop i) = (letterI (bI s (i + 1)) || (bI s (i + 1) == 33 || (bI s (i + 1) == 63 || (bI s (i + 1) == 47 && !decide (s.size ≤ i + 2))))) := by
      rw [hd, hd1, begL, he]
      rfl
    rw [hb]
    have LC := Lib.hid (fun w => letter_calls w (bI s (i + 1)))
    have hx1 : (i : Int) + 1 < (s.size : Int) := by omega
    clear hb hd hd1 he
    cases hlt : letterI (bI s (i + 1)) with
    | true =>
      have HLT := Lib.hid hlt
      clear hlt
      go_enter Tryz.func46, Tryz.ntmps46
      go_wp2_with (go_at_call 76; refine (LC.out _).mono ?_; rintro e w1 ⟨rfl, rfl⟩; rw [HLT.out])
      go_ret
      exact ⟨by simp, rfl⟩
    | false =>
      have HLT := Lib.hid hlt
      clear hlt
      cases e33 : (bI s (i + 1) == 33) with
      | true =>
        go_enter Tryz.func46, Tryz.ntmps46
        go_wp2_with (go_at_call 76; refine (LC.out _).mono ?_; rintro e w1 ⟨rfl, rfl⟩; rw [HLT.out])
        go_ret
        exact ⟨by simp, rfl⟩
      | false =>
        cases e63 : (bI s (i + 1) == 63) with
        | true =>
          go_enter Tryz.func46, Tryz.ntmps46
          go_wp2_with (go_at_call 76; refine (LC.out _).mono ?_; rintro e w1 ⟨rfl, rfl⟩; rw [HLT.out])
          go_ret
          exact ⟨by simp, rfl⟩
        | false =>
          cases e47 : (bI s (i + 1) == 47) with
          | false =>
            go_enter Tryz.func46, Tryz.ntmps46
            go_wp2_with (go_at_call 76; refine (LC.out _).mono ?_; rintro e w1 ⟨rfl, rfl⟩; rw [HLT.out])
            go_ret
            exact ⟨by simp, rfl⟩
          | true =>
            by_cases h2 : s.size ≤ i + 2
            · have hx2 : (s.size : Int) ≤ (i : Int) + 2 := by omega
              go_enter Tryz.func46, Tryz.ntmps46
              go_wp2_with (go_at_call 76; refine (LC.out _).mono ?_; rintro e w1 ⟨rfl, rfl⟩; rw [HLT.out])
              go_ret
              exact ⟨by simp [h2] <;> omega, rfl⟩
            · have hx2 : (i : Int) + 2 < (s.size : Int) := by omega
              go_enter Tryz.func46, Tryz.ntmps46
              go_wp2_with (go_at_call 76; refine (LC.out _).mono ?_; rintro e w1 ⟨rfl, rfl⟩; rw [HLT.out])
              go_ret
              exact ⟨by simp [h2] <;> omega, rfl⟩
  · have hb : begL (s.data.toList.drop i) = false := by
      rw [hd, List.drop_eq_nil_of_le (by rw [len_toL]; omega)]; rfl
    rw [hb]
    have hx1 : (s.size : Int) ≤ (i : Int) + 1 := by omega
    clear hb hd
    go_enter Tryz.func46, Tryz.ntmps46
    go_wp2
    go_ret
    exact ⟨rfl, rfl⟩

/-- Does the tag that ends a mode begin at the begin of a list? -/
def endsL (l last : List UInt8) : Bool :=
  Lib.hasPrefix l [60, 47] && (!last.isEmpty && (decide (last.length < (l.drop 2).length) && (lowL ((l.drop 2).take last.length) == last &&
    (match (l.drop 2).drop last.length with | b :: _ => spaceI b.toNat || ((b.toNat : Int) == 47 || (b.toNat : Int) == 62) | [] => false))))

set_option maxRecDepth 100000 in
set_option maxHeartbeats 2000000 in
theorem ends_calls (w : World) (s last : ByteArray) (i : Nat) (hi : i ≤ s.size) (_hs : s.size ≤ 100000000) (hs2 : last.size ≤ 100000000) :
    Calls Tryz.prog 24 #[.string s, .int .i64 i, .string last] w fun e w' => e = .returned (.bool (endsL (s.data.toList.drop i) last.data.toList)) ∧ Below w.heap.size w w' := by
  have CP := Lib.hid (fun w => cutPrefix_calls w (s.extract i s.size) (mkS [60, 47]))
  have hel := toL_from s i
  rw [hel, of_mkS] at CP
  have hen : endsL (s.data.toList.drop i) last.data.toList = (Lib.hasPrefix (s.data.toList.drop i) [60, 47] && (!last.data.toList.isEmpty && (decide (last.data.toList.length < ((s.data.toList.drop i).drop 2).length) && (lowL (((s.data.toList.drop i).drop 2).take last.data.toList.length) == last.data.toList &&
    (match ((s.data.toList.drop i).drop 2).drop last.data.toList.length with | b :: _ => spaceI b.toNat || ((b.toNat : Int) == 47 || (b.toNat : Int) == 62) | [] => false))))) := rfl
  have HEN := Lib.hid hen
  clear hen
  cases hpf : Lib.hasPrefix (s.data.toList.drop i) [60, 47] with
  | false =>
    have hq : endsL (s.data.toList.drop i) last.data.toList = false := by rw [HEN.out, hpf]; rfl
    have HPF := Lib.hid hpf
    rw [hq]
    clear hq hpf hel
    go_enter Tryz.func24, Tryz.ntmps24
    go_wp2_with (go_at_call 48; refine (CP.out _).mono ?_; rintro e w1 ⟨rfl, rfl⟩; rw [HPF.out])
    go_ret
    exact ⟨rfl, Below.refl _ _⟩
  | true =>
    obtain ⟨r, hr⟩ : ∃ r, r = mkS (Lib.trimPrefix (s.data.toList.drop i) [60, 47]) := ⟨_, rfl⟩
    have hrl : r.data.toList = (s.data.toList.drop i).drop 2 := by rw [hr, of_mkS, trimPrefix_drop hpf]; rfl
    rw [← hrl] at HEN
    have hrz : r.size ≤ s.size := by rw [← len_toL r, hrl]; simp
    have HR := Lib.hid hr.symm
    have HPF := Lib.hid hpf
    have hbt := bI_at r
    clear hr hrl hpf hel
    by_cases hle : last.size = 0
    · have hem := empty_toL hle
      have hq : endsL (s.data.toList.drop i) last.data.toList = false := by
        rw [HEN.out, ← ByteArray.toList_eq last, hem]; simp
      rw [hq]
      clear hq hle
      go_enter Tryz.func24, Tryz.ntmps24
      go_wp2_with (go_at_call 48; refine (CP.out _).mono ?_; rintro e w1 ⟨rfl, rfl⟩; rw [HPF.out, HR.out])
      go_ret
      exact ⟨rfl, Below.refl _ _⟩
    have hem := nonempty_toL (s := last) (by omega)
    have hlz : 0 < last.size := by omega
    by_cases hlt : last.size < r.size
    · have LC := Lib.hid (fun w => lower_calls w (r.extract 0 last.size) (by rw [← len_toL, toL_extract]; simp; omega))
      have hll : (r.extract 0 last.size).data.toList = r.data.toList.take last.data.toList.length := by rw [toL_extract, len_toL]; simp
      rw [hll] at LC
      have hb := bI_range r last.size
      have hdr := drop_uB r last.size hlt
      have hq0 : endsL (s.data.toList.drop i) last.data.toList = ((lowL (r.data.toList.take last.data.toList.length) == last.data.toList) && (spaceI (bI r last.size) || (bI r last.size == 47 || bI r last.size == 62))) := by
        rw [HEN.out, HPF.out, len_toL, hdr, len_toL]
        have e1 : last.data.toList.isEmpty = false := by rw [← ByteArray.toList_eq]; exact hem
        rw [e1]
        simp [hlt]
        rfl
      clear hll hdr
      cases heq : lowL (r.data.toList.take last.data.toList.length) == last.data.toList with
      | false =>
        have hne : ((mkS (lowL (r.data.toList.take last.data.toList.length))).toList == last.toList) = false := by rw [ByteArray.toList_eq, ByteArray.toList_eq, of_mkS]; exact heq
        have hq : endsL (s.data.toList.drop i) last.data.toList = false := by rw [hq0, heq]; rfl
        rw [hq]
        clear hq hq0 heq
        generalize mkS (lowL (r.data.toList.take last.data.toList.length)) = lo at *
        go_enter Tryz.func24, Tryz.ntmps24
        go_wp2_with (first | (go_at_call 48; refine (CP.out _).mono ?_; rintro e w1 ⟨rfl, rfl⟩; rw [HPF.out, HR.out]) | (go_at_call 49; refine (LC.out _).mono ?_; rintro e w2 ⟨rfl, hb2⟩))
        go_ret
        exact ⟨rfl, hb2⟩
      | true =>
        have hne : ((mkS (lowL (r.data.toList.take last.data.toList.length))).toList == last.toList) = true := by rw [ByteArray.toList_eq, ByteArray.toList_eq, of_mkS]; exact heq
        have SC := Lib.hid (fun w => space_calls w (bI r last.size))
        have hq : endsL (s.data.toList.drop i) last.data.toList = (spaceI (bI r last.size) || (bI r last.size == 47 || bI r last.size == 62)) := by rw [hq0, heq]; rfl
        rw [hq]
        clear hq hq0 heq
        generalize mkS (lowL (r.data.toList.take last.data.toList.length)) = lo at *
        cases hsp : spaceI (bI r last.size) with
        | true =>
          have HSP := Lib.hid hsp
          clear hsp
          go_enter Tryz.func24, Tryz.ntmps24
          go_wp2_with (first | (go_at_call 48; refine (CP.out _).mono ?_; rintro e w1 ⟨rfl, rfl⟩; rw [HPF.out, HR.out]) | (go_at_call 49; refine (LC.out _).mono ?_; rintro e w2 ⟨rfl, hb2⟩) | (go_at_call 50; refine (SC.out _).mono ?_; rintro e w3 ⟨rfl, rfl⟩; rw [HSP.out]))
          go_ret
          exact ⟨by simp, hb2⟩
        | false =>
          have HSP := Lib.hid hsp
          clear hsp
          cases e47 : (bI r last.size == 47) with
          | true =>
            go_enter Tryz.func24, Tryz.ntmps24
            go_wp2_with (first | (go_at_call 48; refine (CP.out _).mono ?_; rintro e w1 ⟨rfl, rfl⟩; rw [HPF.out, HR.out]) | (go_at_call 49; refine (LC.out _).mono ?_; rintro e w2 ⟨rfl, hb2⟩) | (go_at_call 50; refine (SC.out _).mono ?_; rintro e w3 ⟨rfl, rfl⟩; rw [HSP.out]))
            go_ret
            exact ⟨by simp, hb2⟩
          | false =>
            go_enter Tryz.func24, Tryz.ntmps24
            go_wp2_with (first | (go_at_call 48; refine (CP.out _).mono ?_; rintro e w1 ⟨rfl, rfl⟩; rw [HPF.out, HR.out]) | (go_at_call 49; refine (LC.out _).mono ?_; rintro e w2 ⟨rfl, hb2⟩) | (go_at_call 50; refine (SC.out _).mono ?_; rintro e w3 ⟨rfl, rfl⟩; rw [HSP.out]))
            go_ret
            exact ⟨by simp, hb2⟩
    · have hq : endsL (s.data.toList.drop i) last.data.toList = false := by
        rw [HEN.out, len_toL, len_toL]; simp [hlt]
      rw [hq]
      clear hq
      go_enter Tryz.func24, Tryz.ntmps24
      go_wp2_with (go_at_call 48; refine (CP.out _).mono ?_; rintro e w1 ⟨rfl, rfl⟩; rw [HPF.out, HR.out])
      go_ret
      exact ⟨rfl, Below.refl _ _⟩

end Go.Proofs.YthfkldheflmlmaaGreatDoor
