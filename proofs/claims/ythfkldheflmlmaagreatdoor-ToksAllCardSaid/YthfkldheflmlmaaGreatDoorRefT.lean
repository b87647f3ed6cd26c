/- Where markup begins, and where a mode ends, as the reference has it (rectoref05: Begins, closes): contracts. -/
import Derived.Test.YthfkldheflmlmaaGreatDoorRefS
import Derived.Test.YthfkldheflmlmaaGreatDoorData
namespace Go.Proofs.YthfkldheflmlmaaGreatDoor
open Go.RowKit Go.Lib

theorem stopL_at (s : ByteArray) (i : Nat) : stopL (s.data.toList.drop i) = (headIs (s.data.toList.drop i) 60 && (letterI (bI s (i + 1)) || (bI s (i + 1) == 33 || (bI s (i + 1) == 63 || (bI s (i + 1) == 47 && decide (i + 2 < s.size)))))) := by
  rw [stopL]
  by_cases h : i < s.size
  · by_cases h1 : i + 1 < s.size
    · rw [drop_uB s i h, drop_uB s (i + 1) h1, begL, bI_uB]
      have e : (s.data.toList.drop (i + 1 + 1)).isEmpty = !decide (i + 2 < s.size) := by
        rw [Bool.eq_iff_iff, List.isEmpty_iff_length_eq_zero, List.length_drop, len_toL]; simp; omega
      rw [e, Bool.not_not]
    · have e : s.data.toList.drop (i + 1) = [] := List.drop_eq_nil_of_le (by rw [len_toL]; omega)
      rw [drop_uB s i h, e, bI_end s (i + 1) (by omega)]
      simp [begL, letterI]
  · rw [List.drop_eq_nil_of_le (by rw [len_toL]; omega)]; rfl
theorem letter_at (s : ByteArray) (j : Nat) : (decide (j < s.size) && letterI (bI s j)) = letterI (bI s j) := by
  by_cases h : j < s.size
  · simp [h]
  · rw [bI_end s j (by omega)]; simp [letterI]
theorem is_b (s : ByteArray) (k : Nat) (c : UInt8) (hs : s.size ≤ 1000000) (hk : k ≤ s.size) (x : ByteArray) (hx : x.data.toList = [c]) (hc : 0 < c.toNat) (b : Bool) (hb : (bI s k == (c.toNat : Int)) = b) (y : Int) (hy : y = (k : Nat)) :
    ∀ W, Calls Tryz.prog 57 #[.string s, .int .i64 y, .string x] W fun e w' => e = .returned (.bool b) ∧ W = w' :=
  is_pat s k [c] hs hk x hx (by simp) b (by rw [hasPrefix_one, ← bI_head s k c.toNat hc, hb]) y hy
set_option maxRecDepth 100000 in
set_option maxHeartbeats 4000000 in
theorem rbegR_calls (w : World) (s : ByteArray) (i : Nat) (hi : i ≤ s.size) (hs : s.size ≤ 1000000) :
    Calls Tryz.prog 30 #[.string s, .int .i64 i] w fun e w' => e = .returned (.bool (stopL (s.data.toList.drop i))) ∧ w = w' := by
  rw [stopL_at]
  obtain ⟨h60, e60⟩ : ∃ b, headIs (s.data.toList.drop i) 60 = b := ⟨_, rfl⟩
  have I60 := Lib.hid (is_pat s i [60] hs hi ⟨#[60]⟩ rfl (by decide) h60 (by rw [hasPrefix_one]; exact e60) i rfl)
  cases h60 with
  | false =>
    rw [e60, Bool.false_and]
    clear e60
    go_enter Tryz.func30, Tryz.ntmps30
    go_wp2_with (go_at_call 57; (with_reducible refine (I60.out _).mono ?_); rintro v w4 ⟨rfl, rfl⟩)
    go_ret
    exact ⟨rfl, rfl⟩
  | true =>
    have hi1 : i < s.size := by
      apply Nat.lt_of_not_le; intro h; rw [headIs_end s i 60 h] at e60; cases e60
    rw [e60, Bool.true_and]
    have hy : (i : Int) + 1 = ((i + 1 : Nat) : Int) := by omega
    obtain ⟨l, el⟩ : ∃ b, letterI (bI s (i + 1)) = b := ⟨_, rfl⟩
    obtain ⟨b33, e33⟩ : ∃ b, (bI s (i + 1) == 33) = b := ⟨_, rfl⟩
    obtain ⟨b63, e63⟩ : ∃ b, (bI s (i + 1) == 63) = b := ⟨_, rfl⟩
    obtain ⟨b47, e47⟩ : ∃ b, (bI s (i + 1) == 47) = b := ⟨_, rfl⟩
    have I33 := Lib.hid (is_b s (i + 1) 33 hs (by omega) ⟨#[33]⟩ rfl (by decide) b33 e33 ((i : Int) + 1) hy)
    have I63 := Lib.hid (is_b s (i + 1) 63 hs (by omega) ⟨#[63]⟩ rfl (by decide) b63 e63 ((i : Int) + 1) hy)
    have I47 := Lib.hid (is_b s (i + 1) 47 hs (by omega) ⟨#[47]⟩ rfl (by decide) b47 e47 ((i : Int) + 1) hy)
    have LL : Hid (∀ W, Calls Tryz.prog 65 #[.string s, .int .i64 ((i : Int) + 1)] W fun e w' => e = .returned (.bool l) ∧ W = w') := Lib.hid (fun W => by
      have := rletterAt_calls W s (i + 1)
      rwa [letter_at, el, ← hy] at this)
    rw [el, e33, e63, e47]
    clear el e33 e63 e47 e60 hy
    cases l with
    | true =>
      go_enter Tryz.func30, Tryz.ntmps30
      go_wp2_with (first | (go_at_call 57; (with_reducible refine (I60.out _).mono ?_); rintro v w4 ⟨rfl, rfl⟩) | (go_at_call 65; (with_reducible refine (LL.out _).mono ?_); rintro v w4 ⟨rfl, rfl⟩))
      go_ret
      exact ⟨rfl, rfl⟩
    | false =>
    cases b33 with
    | true =>
      go_enter Tryz.func30, Tryz.ntmps30
      go_wp2_with (first | (go_at_call 57; (first | (with_reducible refine (I60.out _).mono ?_) | (with_reducible refine (I33.out _).mono ?_)); rintro v w4 ⟨rfl, rfl⟩) | (go_at_call 65; (with_reducible refine (LL.out _).mono ?_); rintro v w4 ⟨rfl, rfl⟩))
      go_ret
      exact ⟨rfl, rfl⟩
    | false =>
    cases b63 with
    | true =>
      go_enter Tryz.func30, Tryz.ntmps30
      go_wp2_with (first | (go_at_call 57; (first | (with_reducible refine (I60.out _).mono ?_) | (with_reducible refine (I33.out _).mono ?_) | (with_reducible refine (I63.out _).mono ?_)); rintro v w4 ⟨rfl, rfl⟩) | (go_at_call 65; (with_reducible refine (LL.out _).mono ?_); rintro v w4 ⟨rfl, rfl⟩))
      go_ret
      exact ⟨rfl, rfl⟩
    | false =>
    cases b47 with
    | false =>
      go_enter Tryz.func30, Tryz.ntmps30
      go_wp2_with (first | (go_at_call 57; (first | (with_reducible refine (I60.out _).mono ?_) | (with_reducible refine (I33.out _).mono ?_) | (with_reducible refine (I63.out _).mono ?_) | (with_reducible refine (I47.out _).mono ?_)); rintro v w4 ⟨rfl, rfl⟩) | (go_at_call 65; (with_reducible refine (LL.out _).mono ?_); rintro v w4 ⟨rfl, rfl⟩))
      go_ret
      exact ⟨rfl, rfl⟩
    | true =>
      rw [show decide (i + 2 < s.size) = decide ((i : Int) + 2 < (s.size : Int)) from decide_eq_decide.2 (by omega)]
      go_enter Tryz.func30, Tryz.ntmps30
      go_wp2_with (first | (go_at_call 57; (first | (with_reducible refine (I60.out _).mono ?_) | (with_reducible refine (I33.out _).mono ?_) | (with_reducible refine (I63.out _).mono ?_) | (with_reducible refine (I47.out _).mono ?_)); rintro v w4 ⟨rfl, rfl⟩) | (go_at_call 65; (with_reducible refine (LL.out _).mono ?_); rintro v w4 ⟨rfl, rfl⟩))
      go_ret
      exact ⟨rfl, rfl⟩
/-- Does the tag that ends a mode begin at a place? -/
theorem endsL_at (s last : ByteArray) (i : Nat) : endsL (s.data.toList.drop i) last.data.toList = (hasPrefix (s.data.toList.drop i) [60, 47] && (!last.data.toList.isEmpty && (decide (i + 2 + last.size < s.size) && (lowL ((s.data.toList.drop (i + 2)).take last.size) == last.data.toList && (spaceI (bI s (i + 2 + last.size)) || (bI s (i + 2 + last.size) == 47 || bI s (i + 2 + last.size) == 62)))))) := by
  rw [endsL, List.drop_drop, List.drop_drop, List.length_drop, len_toL, len_toL]
  by_cases h : i + 2 + last.size < s.size
  · rw [drop_uB s (i + 2 + last.size) h, decide_eq_true h, decide_eq_true (show last.size < s.size - (i + 2) by omega)]
    rfl
  · rw [decide_eq_false h, decide_eq_false (show ¬ last.size < s.size - (i + 2) by omega)]
    simp
set_option maxRecDepth 100000 in
set_option maxHeartbeats 4000000 in
theorem rcloses_calls (w : World) (s last : ByteArray) (i : Nat) (hi : i ≤ s.size) (hs : s.size ≤ 1000000) (hl : last.size ≤ 1000000) :
    Calls Tryz.prog 27 #[.string s, .int .i64 i, .string last] w fun e w' => e = .returned (.bool (endsL (s.data.toList.drop i) last.data.toList)) ∧ Below w.heap.size w w' := by
  rw [endsL_at]
  obtain ⟨hp, ep⟩ : ∃ b, hasPrefix (s.data.toList.drop i) [60, 47] = b := ⟨_, rfl⟩
  have IP := Lib.hid (is_pat s i [60, 47] hs hi ⟨#[60, 47]⟩ rfl (by decide) hp ep i rfl)
  rw [ep]
  cases hle : last.data.toList.isEmpty with
  | true =>
    have h0 : last.toList = [] := by rw [ByteArray.toList_eq]; exact List.isEmpty_iff.1 hle
    rw [Bool.not_true, Bool.false_and, Bool.and_false]
    clear hle
    go_enter Tryz.func27, Tryz.ntmps27
    go_wp2_with (go_at_call 57; (with_reducible refine (IP.out _).mono ?_); rintro v w4 ⟨rfl, rfl⟩)
    go_ret
    exact ⟨rfl, Below.refl _ _⟩
  | false =>
  have h0 : (last.toList == []) = false := by rw [ByteArray.toList_eq]; rw [beq_eq_false_iff_ne]; exact fun h => by rw [h] at hle; cases hle
  have h01 : (last.toList.isEmpty) = false := by rw [ByteArray.toList_eq]; exact hle
  rw [Bool.not_false, Bool.true_and]
  clear hle
  cases hp with
  | false =>
    rw [Bool.false_and]
    clear ep
    go_enter Tryz.func27, Tryz.ntmps27
    go_wp2_with (go_at_call 57; (with_reducible refine (IP.out _).mono ?_); rintro v w4 ⟨rfl, rfl⟩)
    go_ret
    exact ⟨rfl, Below.refl _ _⟩
  | true =>
  rw [Bool.true_and]
  clear ep
  by_cases hz : i + 2 + last.size < s.size
  · have hz' : ¬ (s.size : Int) ≤ (i : Int) + 2 + last.size := by omega
    rw [decide_eq_true hz, Bool.true_and]
    obtain ⟨x, hx⟩ : ∃ x, s.extract (i + 2) (i + 2 + last.size) = x := ⟨_, rfl⟩
    have hxl : x.data.toList = (s.data.toList.drop (i + 2)).take last.size := by rw [← hx, toL_extract]; congr 1; omega
    have hxs : x.size ≤ 1000000 := by rw [← len_toL, hxl, List.length_take]; omega
    have LC := Lib.hid (fun W => rlower_calls W x hxs)
    rw [hxl] at LC
    obtain ⟨lo, hlo⟩ : ∃ lo, lowL ((s.data.toList.drop (i + 2)).take last.size) = lo := ⟨_, rfl⟩
    rw [hlo] at LC ⊢
    clear hlo hxl hxs
    have hq : ((mkS lo).toList == last.toList) = (lo == last.data.toList) := by rw [ByteArray.toList_eq, ByteArray.toList_eq, of_mkS]
    obtain ⟨k, hk⟩ : ∃ k, i + 2 + last.size = k := ⟨_, rfl⟩
    rw [hk] at hx hz ⊢
    have hk1 : (i : Int) + 2 + last.size = (k : Int) := by omega
    have j1 : (i : Int) + 2 ≤ (k : Int) := by omega
    have j2 : (k : Int) ≤ (s.size : Int) := by omega
    have j3 : ((i : Int) + 2).toNat = i + 2 := by omega
    have j4 : (k : Int) < (s.size : Int) := by omega
    have j5 : ¬ (s.size : Int) ≤ (k : Int) := by omega
    have SC := Lib.hid (fun W => rspace_calls W (bI s k))
    have hbt := bI_at s
    have hr := bI_range s k
    obtain ⟨sp, hsp⟩ : ∃ sp, spaceI (bI s k) = sp := ⟨_, rfl⟩
    rw [hsp] at SC ⊢
    clear hk hsp hz' hz
    cases hlq : (lo == last.data.toList) with
    | false =>
      rw [Bool.false_and]
      rw [hlq] at hq
      clear hlq
      go_enter Tryz.func27, Tryz.ntmps27
      go_wp2_with (first | (go_at_call 57; (with_reducible refine (IP.out _).mono ?_); rintro v w4 ⟨rfl, rfl⟩) | (go_at_call 58; (with_reducible refine (LC.out _).mono ?_); rintro v w4 ⟨rfl, hb4⟩))
      go_ret
      exact ⟨rfl, hb4⟩
    | true =>
      rw [Bool.true_and]
      rw [hlq] at hq
      clear hlq
      cases sp with
      | true =>
        rw [Bool.true_or]
        go_enter Tryz.func27, Tryz.ntmps27
        go_wp2_with (first | (go_at_call 57; (with_reducible refine (IP.out _).mono ?_); rintro v w4 ⟨rfl, rfl⟩) | (go_at_call 58; (with_reducible refine (LC.out _).mono ?_); rintro v w4 ⟨rfl, hb4⟩) | (go_at_call 59; (with_reducible refine (SC.out _).mono ?_); rintro v w4 ⟨rfl, rfl⟩))
        go_ret
        exact ⟨rfl, hb4⟩
      | false =>
        rw [Bool.false_or]
        cases b47 : bI s k == 47 with
        | true =>
          rw [Bool.true_or]
          go_enter Tryz.func27, Tryz.ntmps27
          go_wp2_with (first | (go_at_call 57; (with_reducible refine (IP.out _).mono ?_); rintro v w4 ⟨rfl, rfl⟩) | (go_at_call 58; (with_reducible refine (LC.out _).mono ?_); rintro v w4 ⟨rfl, hb4⟩) | (go_at_call 59; (with_reducible refine (SC.out _).mono ?_); rintro v w4 ⟨rfl, rfl⟩))
          go_ret
          exact ⟨rfl, hb4⟩
        | false =>
          rw [Bool.false_or]
          go_enter Tryz.func27, Tryz.ntmps27
          go_wp2_with (first | (go_at_call 57; (with_reducible refine (IP.out _).mono ?_); rintro v w4 ⟨rfl, rfl⟩) | (go_at_call 58; (with_reducible refine (LC.out _).mono ?_); rintro v w4 ⟨rfl, hb4⟩) | (go_at_call 59; (with_reducible refine (SC.out _).mono ?_); rintro v w4 ⟨rfl, rfl⟩))
          go_ret
          exact ⟨rfl, hb4⟩
  · have hz' : (s.size : Int) ≤ (i : Int) + 2 + last.size := by omega
    rw [decide_eq_false hz, Bool.false_and]
    clear hz
    go_enter Tryz.func27, Tryz.ntmps27
    go_wp2_with (go_at_call 57; (with_reducible refine (IP.out _).mono ?_); rintro v w4 ⟨rfl, rfl⟩)
    go_ret
    exact ⟨rfl, Below.refl _ _⟩

end Go.Proofs.YthfkldheflmlmaaGreatDoor
