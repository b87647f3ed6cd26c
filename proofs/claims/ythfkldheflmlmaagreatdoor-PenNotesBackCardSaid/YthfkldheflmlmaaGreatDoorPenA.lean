/- Names and good texts: pen's small functions. -/
import Derived.Test.YthfkldheflmlmaaGreatDoorRight
namespace Go.Proofs.YthfkldheflmlmaaGreatDoor
open Go.RowKit

def smallI (c : Int) : Bool := decide (97 ≤ c) && decide (c ≤ 122)
def nameI (c : Int) : Bool := smallI c || (digitI c || (c == 45 || c == 58))
def goodI (c : Int) : Bool := c != 0 && c != 13
set_option maxHeartbeats 400000 in
theorem small_calls (w : World) (c : Int) : Calls Tryz.prog 37 #[.int .u8 c] w fun e w' => e = .returned (.bool (smallI c)) ∧ w = w' := by
  unfold smallI
  by_cases h1 : 97 ≤ c
  · go_enter Tryz.func37, Tryz.ntmps37
    go_wp2
    go_ret
    exact ⟨by simp [h1], rfl⟩
  · go_enter Tryz.func37, Tryz.ntmps37
    go_wp2
    go_ret
    exact ⟨by simp; omega, rfl⟩
set_option maxHeartbeats 400000 in
theorem goodb_calls (w : World) (c : Int) : Calls Tryz.prog 42 #[.int .u8 c] w fun e w' => e = .returned (.bool (goodI c)) ∧ w = w' := by
  unfold goodI
  cases h1 : (c != 0) with
  | true =>
    go_enter Tryz.func42, Tryz.ntmps42
    go_wp2
    go_ret
    exact ⟨by simp, rfl⟩
  | false =>
    go_enter Tryz.func42, Tryz.ntmps42
    go_wp2
    go_ret
    exact ⟨by simp, rfl⟩
set_option maxHeartbeats 1000000 in
theorem nameb_calls (w : World) (c : Int) : Calls Tryz.prog 39 #[.int .u8 c] w fun e w' => e = .returned (.bool (nameI c)) ∧ w = w' := by
  have SC := Lib.hid (fun W => small_calls W c)
  have DC := Lib.hid (fun W => digit_calls W c)
  unfold nameI
  cases h1 : smallI c with
  | true =>
    go_enter Tryz.func39, Tryz.ntmps39
    go_wp2_with (first | (go_at_call 37; refine (SC.out _).mono ?_; rintro e w1 ⟨rfl, rfl⟩; rw [h1]) | (go_at_call 40; refine (DC.out _).mono ?_; rintro e w1 ⟨rfl, rfl⟩))
    go_ret
    exact ⟨by simp, rfl⟩
  | false =>
    cases h2 : digitI c with
    | true =>
      go_enter Tryz.func39, Tryz.ntmps39
      go_wp2_with (first | (go_at_call 37; refine (SC.out _).mono ?_; rintro e w1 ⟨rfl, rfl⟩; rw [h1]) | (go_at_call 40; refine (DC.out _).mono ?_; rintro e w1 ⟨rfl, rfl⟩; rw [h2]))
      go_ret
      exact ⟨by simp, rfl⟩
    | false =>
      cases h3 : (c == 45) with
      | true =>
        go_enter Tryz.func39, Tryz.ntmps39
        go_wp2_with (first | (go_at_call 37; refine (SC.out _).mono ?_; rintro e w1 ⟨rfl, rfl⟩; rw [h1]) | (go_at_call 40; refine (DC.out _).mono ?_; rintro e w1 ⟨rfl, rfl⟩; rw [h2]))
        go_ret
        exact ⟨by simp, rfl⟩
      | false =>
        go_enter Tryz.func39, Tryz.ntmps39
        go_wp2_with (first | (go_at_call 37; refine (SC.out _).mono ?_; rintro e w1 ⟨rfl, rfl⟩; rw [h1]) | (go_at_call 40; refine (DC.out _).mono ?_; rintro e w1 ⟨rfl, rfl⟩; rw [h2]))
        go_ret
        exact ⟨by simp, rfl⟩

set_option maxRecDepth 100000 in
set_option maxHeartbeats 1000000 in
theorem all_nameb_calls (w : World) (s : ByteArray) (hs : s.size ≤ 1000000000) :
    Calls Tryz.prog 38 #[.string s, .func (.func 39) #[] #[]] w fun e w' => e = .returned (.bool (s.data.toList.all fun b => nameI b.toNat)) ∧ w = w' := by
  have hbt := bI_at s
  have KC := Lib.hid (fun W => nameb_calls W)
  go_enter Tryz.func38, Tryz.ntmps38
  go_wp2
  go_loopw [8] (fun i wr => ∃ k : Nat, k ≤ s.size ∧ i = .int .i64 k ∧ w = wr ∧ Hid (∀ j, j < k → nameI (bI s j) = true)) (fun i _ => s.size - (intOf i).toNat)
  case atStart => exact ⟨0, by omega, rfl, rfl, Lib.hid (fun j hj => by omega)⟩
  case round =>
    obtain ⟨k, hk, rfl, rfl, HN⟩ := hrel
    by_cases hlt : k < s.size
    · have hlt' : (k : Int) < s.size := by omega
      have hr := bI_range s k
      cases e1 : nameI (bI s k) with
      | true =>
        go_wp2_with (go_at_call 39; refine (KC.out _ _).mono ?_; rintro e w1 ⟨rfl, rfl⟩; rw [e1])
        go_roundw
        case rel =>
          refine ⟨k + 1, by omega, by go_num, trivial, Lib.hid (fun j hj => ?_)⟩
          by_cases ej : j = k
          · subst ej; exact e1
          · exact HN.out j (by omega)
        case measure => simp [intOf]; omega
      | false =>
        have hq : (s.data.toList.all fun b => nameI b.toNat) = false := by
          rw [List.all_eq_false]
          refine ⟨uB s k, ?_, by rw [← bI_uB, e1]; simp⟩
          rw [uB, List.getD, List.getElem?_eq_getElem (by rw [len_toL]; exact hlt)]
          exact List.getElem_mem _
        have HQ := Lib.hid hq
        clear hq
        go_wp2_with (go_at_call 39; refine (KC.out _ _).mono ?_; rintro e w1 ⟨rfl, rfl⟩; rw [e1])
        go_ret
        exact ⟨by rw [HQ.out]; rfl, rfl⟩
    · have hq : (s.data.toList.all fun b => nameI b.toNat) = true := by
        rw [List.all_eq_true]
        intro b hb
        obtain ⟨j, hj, rfl⟩ := List.mem_iff_getElem.1 hb
        have hj' : j < s.size := by rw [len_toL] at hj; exact hj
        have := HN.out j (by omega)
        rw [bI_uB, uB, List.getD, List.getElem?_eq_getElem hj] at this
        exact this
      have HQ := Lib.hid hq
      clear hq
      go_wp2
      go_ret
      exact ⟨by rw [HQ.out]; rfl, rfl⟩

set_option maxRecDepth 100000 in
set_option maxHeartbeats 1000000 in
theorem all_goodb_calls (w : World) (s : ByteArray) (hs : s.size ≤ 1000000000) :
    Calls Tryz.prog 38 #[.string s, .func (.func 42) #[] #[]] w fun e w' => e = .returned (.bool (s.data.toList.all fun b => goodI b.toNat)) ∧ w = w' := by
  have hbt := bI_at s
  have KC := Lib.hid (fun W => goodb_calls W)
  go_enter Tryz.func38, Tryz.ntmps38
  go_wp2
  go_loopw [8] (fun i wr => ∃ k : Nat, k ≤ s.size ∧ i = .int .i64 k ∧ w = wr ∧ Hid (∀ j, j < k → goodI (bI s j) = true)) (fun i _ => s.size - (intOf i).toNat)
  case atStart => exact ⟨0, by omega, rfl, rfl, Lib.hid (fun j hj => by omega)⟩
  case round =>
    obtain ⟨k, hk, rfl, rfl, HN⟩ := hrel
    by_cases hlt : k < s.size
    · have hlt' : (k : Int) < s.size := by omega
      have hr := bI_range s k
      cases e1 : goodI (bI s k) with
      | true =>
        go_wp2_with (go_at_call 42; refine (KC.out _ _).mono ?_; rintro e w1 ⟨rfl, rfl⟩; rw [e1])
        go_roundw
        case rel =>
          refine ⟨k + 1, by omega, by go_num, trivial, Lib.hid (fun j hj => ?_)⟩
          by_cases ej : j = k
          · subst ej; exact e1
          · exact HN.out j (by omega)
        case measure => simp [intOf]; omega
      | false =>
        have hq : (s.data.toList.all fun b => goodI b.toNat) = false := by
          rw [List.all_eq_false]
          refine ⟨uB s k, ?_, by rw [← bI_uB, e1]; simp⟩
          rw [uB, List.getD, List.getElem?_eq_getElem (by rw [len_toL]; exact hlt)]
          exact List.getElem_mem _
        have HQ := Lib.hid hq
        clear hq
        go_wp2_with (go_at_call 42; refine (KC.out _ _).mono ?_; rintro e w1 ⟨rfl, rfl⟩; rw [e1])
        go_ret
        exact ⟨by rw [HQ.out]; rfl, rfl⟩
    · have hq : (s.data.toList.all fun b => goodI b.toNat) = true := by
        rw [List.all_eq_true]
        intro b hb
        obtain ⟨j, hj, rfl⟩ := List.mem_iff_getElem.1 hb
        have hj' : j < s.size := by rw [len_toL] at hj; exact hj
        have := HN.out j (by omega)
        rw [bI_uB, uB, List.getD, List.getElem?_eq_getElem hj] at this
        exact this
      have HQ := Lib.hid hq
      clear hq
      go_wp2
      go_ret
      exact ⟨by rw [HQ.out]; rfl, rfl⟩

/-- Is it a name? -/
def nameL (l : List UInt8) : Bool := !l.isEmpty && (decide (l.length ≤ 24) && (smallI (l.getD 0 0).toNat && l.all fun b => nameI b.toNat))
set_option maxRecDepth 100000 in
set_option maxHeartbeats 1000000 in
theorem name_calls (w : World) (s : ByteArray) : Calls Tryz.prog 17 #[.string s] w fun e w' => e = .returned (.bool (nameL s.data.toList)) ∧ w = w' := by
  have SC := Lib.hid (fun W => small_calls W)
  have hbt := bI_at s
  by_cases h0 : s.data.toList = []
  · have he : (s.toList == []) = true := by rw [ByteArray.toList_eq, h0]; rfl
    have hq : nameL s.data.toList = false := by rw [h0]; rfl
    rw [hq]
    go_enter Tryz.func17, Tryz.ntmps17
    go_wp2
    go_ret
    exact ⟨rfl, rfl⟩
  · have he : (s.toList == []) = false := by rw [ByteArray.toList_eq]; simpa using h0
    have hpos : 0 < s.size := by have := List.length_pos_iff.mpr h0; rw [len_toL] at this; exact this
    have hie : s.data.toList.isEmpty = false := by simpa using h0
    by_cases h1 : (24 : Int) < s.size
    · have hq : nameL s.data.toList = false := by
        have : decide (s.data.toList.length ≤ 24) = false := by rw [len_toL]; simp; omega
        rw [nameL, this]; simp
      rw [hq]
      go_enter Tryz.func17, Tryz.ntmps17
      go_wp2
      go_ret
      exact ⟨rfl, rfl⟩
    · have hpos' : (0 : Int) < s.size := by omega
      have hl24 : decide (s.data.toList.length ≤ 24) = true := by rw [len_toL]; simp; omega
      cases h2 : smallI (bI s 0) with
      | false =>
        have hq : nameL s.data.toList = false := by
          have : smallI ((s.data.toList.getD 0 0).toNat : Int) = false := h2
          rw [nameL, this]; simp
        rw [hq]
        clear hq hl24 hie
        go_enter Tryz.func17, Tryz.ntmps17
        go_wp2_with (go_at_call 37; refine (SC.out _ _).mono ?_; rintro e w1 ⟨rfl, rfl⟩; rw [h2])
        go_ret
        exact ⟨rfl, rfl⟩
      | true =>
        have hq : nameL s.data.toList = s.data.toList.all fun b => nameI b.toNat := by
          have : smallI ((s.data.toList.getD 0 0).toNat : Int) = true := h2
          rw [nameL, this, hl24, hie]; simp
        rw [hq]
        have AC := fun W => all_nameb_calls W s (by omega)
        obtain ⟨r, hr⟩ : ∃ r, (s.data.toList.all fun b => nameI b.toNat) = r := ⟨_, rfl⟩
        rw [hr] at AC ⊢
        have AC := Lib.hid AC
        clear hq hl24 hie hr
        go_enter Tryz.func17, Tryz.ntmps17
        go_wp2_with (first | (go_at_call 37; refine (SC.out _ _).mono ?_; rintro e w1 ⟨rfl, rfl⟩; rw [h2]) | (go_at_call 38; refine (AC.out _).mono ?_; rintro e w1 ⟨rfl, rfl⟩))
        go_ret
        exact ⟨rfl, rfl⟩

/-- Is it right, without what is never read? -/
def goodL (l : List UInt8) : Bool := rightL l && l.all fun b => goodI b.toNat
set_option maxRecDepth 100000 in
set_option maxHeartbeats 1000000 in
theorem strange_calls (w : World) (s : ByteArray) (ht : UtfTab w) (hs : s.size ≤ 1000000000) : Calls Tryz.prog 73 #[.string s] w fun e w' => e = .returned (.bool (strangeB s.data.toList)) ∧ ∃ n, w' = w.drewN n := by
  have FC := Lib.hid (first_calls w s ht hs)
  have hq : strangeB s.data.toList = ((firstI s).1 == 65533 && (firstI s).2 == 1) := rfl
  rw [hq]
  clear hq ht
  generalize firstI s = x at *
  obtain ⟨c, n⟩ := x
  simp only at FC ⊢
  cases h1 : (c == 65533) with
  | true =>
    go_enter Tryz.func73, Tryz.ntmps73
    go_wp2_with (go_at_call 74; refine FC.out.mono ?_; rintro e w1 ⟨rfl, n1, rfl⟩)
    go_ret
    exact ⟨by simp, n1, rfl⟩
  | false =>
    go_enter Tryz.func73, Tryz.ntmps73
    go_wp2_with (go_at_call 74; refine FC.out.mono ?_; rintro e w1 ⟨rfl, n1, rfl⟩)
    go_ret
    exact ⟨by simp, n1, rfl⟩
set_option maxRecDepth 100000 in
set_option maxHeartbeats 2000000 in
theorem right_calls (w : World) (s : ByteArray) (ht : UtfTab w) (hs : s.size ≤ 1000000000) : Calls Tryz.prog 41 #[.string s] w fun e w' => e = .returned (.bool (rightL s.data.toList)) ∧ Below w.heap.size w w' := by
  have HT := Lib.hid ht
  clear ht
  go_enter Tryz.func41, Tryz.ntmps41
  go_wp2
  go_loopw [0] (fun i wr => ∃ k : Nat, k ≤ s.size ∧ i = .string (mkS (s.data.toList.drop k)) ∧ Below w.heap.size w wr ∧ Hid (rightL s.data.toList = rightL (s.data.toList.drop k))) (fun i _ => strSize i)
  case atStart => exact ⟨0, by omega, rfl, Below.refl _ _, Lib.hid (by simp)⟩
  case round =>
    obtain ⟨k, hk, rfl, hb, HI⟩ := hrel
    by_cases hlt : k < s.size
    · have hne : s.data.toList.drop k ≠ [] := by rw [drop_uB s k hlt]; simp
      have hfl := first_len _ hne
      have hstep := rightL_step _ hne
      rw [List.length_drop, len_toL] at hfl
      obtain ⟨x, hx⟩ : ∃ x, x = mkS (s.data.toList.drop k) := ⟨_, rfl⟩
      have hxz : x.size = s.size - k := by rw [hx, size_mkS, List.length_drop, len_toL]
      have FC := Lib.hid (fun W h => first_calls W x h (by omega))
      have SC := fun W h => strange_calls W x h (by omega)
      rw [show x.data.toList = s.data.toList.drop k by rw [hx, of_mkS]] at SC
      rw [← hx] at hfl hstep
      have hx1 : ∀ m, x.extract m (s.size - k) = mkS (s.data.toList.drop (k + m)) := fun m => by rw [← hxz, ← mkS_of (x.extract m x.size), toL_from, hx, of_mkS, List.drop_drop]
      rw [← hx]
      have hne' : (x.toList == []) = false := by rw [ByteArray.toList_eq, hx, of_mkS]; simpa using hne
      have hpos := firstI_pos x (by omega)
      cases hst : strangeB (s.data.toList.drop k) with
      | true =>
        rw [hst, if_pos rfl] at hstep
        rw [hst] at SC
        have HQ := Lib.hid (show rightL s.data.toList = false by rw [HI.out, hstep])
        have SC := Lib.hid SC
        clear hstep hne hx hst
        go_wp2_with (go_at_call 73; refine (SC.out _ (HT.out.below hb)).mono ?_; rintro e w1 ⟨rfl, n1, rfl⟩)
        go_ret
        exact ⟨by rw [HQ.out]; rfl, below_drewN hb n1⟩
      | false =>
        rw [hst, if_neg (by simp)] at hstep
        rw [hst] at SC
        have SC := Lib.hid SC
        clear hst
        generalize firstI x = r at *
        obtain ⟨r1, r2⟩ := r
        simp only at hfl hpos hstep
        obtain ⟨r2, rfl⟩ : ∃ m : Nat, r2 = m := ⟨r2.toNat, by omega⟩
        rw [List.drop_drop, Int.toNat_natCast] at hstep
        rw [Int.toNat_natCast] at hfl
        have HS := Lib.hid hstep
        clear hstep hne hx
        go_wp2_with (first | (go_at_call 73; refine (SC.out _ (HT.out.below hb)).mono ?_; rintro e w1 ⟨rfl, n1, rfl⟩) | (go_at_call 74; refine (FC.out _ (HT.out.below (below_drewN hb n1))).mono ?_; rintro e w2 ⟨rfl, n2, rfl⟩))
        go_roundw
        case rel => exact ⟨k + r2, by omega, rfl, below_drewN hb _, Lib.hid (by rw [HI.out, HS.out])⟩
        case measure => simp only [strSize, size_mkS, List.length_drop, len_toL]; omega
    · have hd : s.data.toList.drop k = [] := List.drop_eq_nil_of_le (by rw [len_toL]; omega)
      have hq : rightL s.data.toList = true := by rw [HI.out, hd]; rfl
      have HQ := Lib.hid hq
      rw [hd]
      have he : ((mkS []).toList == []) = true := by rw [ByteArray.toList_eq, of_mkS]; rfl
      clear hd hq
      go_wp2
      go_ret
      exact ⟨by rw [HQ.out]; rfl, hb⟩
set_option maxRecDepth 100000 in
set_option maxHeartbeats 1000000 in
theorem good_calls (w : World) (s : ByteArray) (ht : UtfTab w) (hs : s.size ≤ 1000000000) : Calls Tryz.prog 18 #[.string s] w fun e w' => e = .returned (.bool (goodL s.data.toList)) ∧ Below w.heap.size w w' := by
  have RC := right_calls w s ht hs
  have AC := fun W => all_goodb_calls W s hs
  unfold goodL
  obtain ⟨r, hr⟩ : ∃ r, (s.data.toList.all fun b => goodI b.toNat) = r := ⟨_, rfl⟩
  rw [hr] at AC ⊢
  have AC := Lib.hid AC
  clear hr ht
  cases h1 : rightL s.data.toList with
  | true =>
    rw [h1] at RC
    have RC := Lib.hid RC
    clear h1
    go_enter Tryz.func18, Tryz.ntmps18
    go_wp2_with (first | (go_at_call 41; refine RC.out.mono ?_; rintro e w1 ⟨rfl, hb1⟩) | (go_at_call 38; refine (AC.out _).mono ?_; rintro e w2 ⟨rfl, rfl⟩))
    go_ret
    exact ⟨by simp, hb1⟩
  | false =>
    rw [h1] at RC
    have RC := Lib.hid RC
    clear h1
    go_enter Tryz.func18, Tryz.ntmps18
    go_wp2_with (first | (go_at_call 41; refine RC.out.mono ?_; rintro e w1 ⟨rfl, hb1⟩) | (go_at_call 38; refine (AC.out _).mono ?_; rintro e w2 ⟨rfl, rfl⟩))
    go_ret
    exact ⟨by simp, hb1⟩

end Go.Proofs.YthfkldheflmlmaaGreatDoor
