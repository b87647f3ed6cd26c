/- refs.Escape's contract. -/
import Derived.Test.YthfkldheflmlmaaGreatDoorBack
import Derived.Test.YthfkldheflmlmaaGreatDoorPenA
import Derived.Test.YthfkldheflmlmaaGreatDoorTag
namespace Go.Proofs.YthfkldheflmlmaaGreatDoor
open Go.RowKit Go.Lib

theorem count_le {sub : List UInt8} (ho : sub ≠ []) : ∀ (n : Nat) (s : List UInt8), s.length ≤ n → count s sub ≤ s.length
  | 0, s, h => by
    have : s = [] := List.length_eq_zero_iff.mp (by omega)
    rw [this, count_miss]
    · exact Nat.le_refl _
    · rw [index, if_neg (by simpa using ho)]
  | n + 1, [], h => by
    rw [count_miss]
    · exact Nat.le_refl _
    · rw [index, if_neg (by simpa using ho)]
  | n + 1, b :: l, h => by
    have hp := List.length_pos_iff.mpr ho
    cases hc : sub.isPrefixOf (b :: l) with
    | true =>
      have := count_le ho n ((b :: l).drop sub.length) (by rw [List.length_drop]; simp at h ⊢; omega)
      rw [count_here ho hc (by simp)]
      rw [List.length_drop] at this
      simp only [List.length_cons] at this ⊢
      omega
    | false =>
      have := count_le ho n l (by simp at h; omega)
      rw [count_next ho hc, List.length_cons]
      omega
theorem replaceAll_len {old new : List UInt8} (hne : old ≠ new) (ho : old ≠ []) (hn : new.length ≤ 6) : ∀ (n : Nat) (s : List UInt8), s.length ≤ n → (replaceAll s old new).length ≤ 6 * s.length
  | 0, s, h => by
    have : s = [] := List.length_eq_zero_iff.mp (by omega)
    rw [this, replaceAll_nil hne ho]; simp
  | n + 1, [], h => by rw [replaceAll_nil hne ho]; simp
  | n + 1, b :: l, h => by
    have hp := List.length_pos_iff.mpr ho
    cases hc : old.isPrefixOf (b :: l) with
    | true =>
      have := replaceAll_len hne ho hn n ((b :: l).drop old.length) (by rw [List.length_drop]; simp at h ⊢; omega)
      rw [replaceAll_here hne ho hc (by simp), List.length_append]
      rw [List.length_drop] at this
      simp only [List.length_cons] at this ⊢
      omega
    | false =>
      have := replaceAll_len hne ho hn n l (by simp at h; omega)
      rw [replaceAll_next hne ho hc, List.length_cons, List.length_cons]
      omega
theorem repl_calls (w : World) (s old new : ByteArray) (hm : MaxTab w) (hs : s.size ≤ 100000000) (h1 : 1 ≤ old.size) (hn : new.size ≤ 6) :
    Calls Tryz.prog 71 #[.string s, .string old, .string new] w fun e w' => e = .returned (.string (mkS (replaceAll s.data.toList old.data.toList new.data.toList))) ∧ Below w.heap.size w w' := by
  obtain ⟨m, hm⟩ := hm
  have hc := count_le (sub := old.data.toList) (fun e => by rw [← len_toL, e] at h1; simp at h1) _ s.data.toList (Nat.le_refl _)
  rw [len_toL] at hc
  have hc2 : countB s old * new.size ≤ 100000000 * 6 := Nat.mul_le_mul (Nat.le_trans hc hs) hn
  exact (Tryz.strings_ReplaceAll s old new m w (by omega) hm h1 (by omega)).mono fun _ _ h => h

set_option maxRecDepth 100000 in
set_option maxHeartbeats 2000000 in
theorem escape_calls (w : World) (s : ByteArray) (v : Bool) (ht : Tab w) (hs : s.size ≤ 10000) :
    Calls Tryz.prog 33 #[.string s, .bool v] w fun e w' => e = .returned (.string (mkS (escB v s.data.toList))) ∧ Below w.heap.size w w' := by
  rw [← escL_eq]
  obtain ⟨x1, hx1⟩ : ∃ x, x = mkS (replaceAll s.data.toList [38] ampB) := ⟨_, rfl⟩
  obtain ⟨x2, hx2⟩ : ∃ x, x = mkS (replaceAll x1.data.toList [194, 160] nbspB) := ⟨_, rfl⟩
  obtain ⟨x3, hx3⟩ : ∃ x, x = mkS (replaceAll x2.data.toList [60] ltB) := ⟨_, rfl⟩
  obtain ⟨x4, hx4⟩ : ∃ x, x = mkS (replaceAll x3.data.toList [62] gtB) := ⟨_, rfl⟩
  obtain ⟨x5, hx5⟩ : ∃ x, x = mkS (replaceAll x4.data.toList [34] quotB) := ⟨_, rfl⟩
  have z1 : x1.size ≤ 6 * s.size := by rw [hx1, size_mkS, ← len_toL]; exact replaceAll_len (by decide) (by decide) (by decide) _ _ (Nat.le_refl _)
  have z2 : x2.size ≤ 6 * x1.size := by rw [hx2, size_mkS, ← len_toL]; exact replaceAll_len (by decide) (by decide) (by decide) _ _ (Nat.le_refl _)
  have z3 : x3.size ≤ 6 * x2.size := by rw [hx3, size_mkS, ← len_toL]; exact replaceAll_len (by decide) (by decide) (by decide) _ _ (Nat.le_refl _)
  have z4 : x4.size ≤ 6 * x3.size := by rw [hx4, size_mkS, ← len_toL]; exact replaceAll_len (by decide) (by decide) (by decide) _ _ (Nat.le_refl _)
  have R1 : Hid (∀ W, Tab W → Calls Tryz.prog 71 #[.string s, .string ⟨#[38]⟩, .string ⟨#[38, 97, 109, 112, 59]⟩] W fun e w' => e = .returned (.string x1) ∧ Below W.heap.size W w') := Lib.hid (fun W h => by rw [hx1]; exact repl_calls W s _ _ h.2 (by omega) (by decide) (by decide))
  have R2 : Hid (∀ W, Tab W → Calls Tryz.prog 71 #[.string x1, .string (mkS (bytesL 160)), .string ⟨#[38, 110, 98, 115, 112, 59]⟩] W fun e w' => e = .returned (.string x2) ∧ Below W.heap.size W w') := Lib.hid (fun W h => by rw [hx2]; exact repl_calls W x1 _ _ h.2 (by omega) (by decide) (by decide))
  have R3 : Hid (∀ W, Tab W → Calls Tryz.prog 71 #[.string x2, .string ⟨#[60]⟩, .string ⟨#[38, 108, 116, 59]⟩] W fun e w' => e = .returned (.string x3) ∧ Below W.heap.size W w') := Lib.hid (fun W h => by rw [hx3]; exact repl_calls W x2 _ _ h.2 (by omega) (by decide) (by decide))
  have R4 : Hid (∀ W, Tab W → Calls Tryz.prog 71 #[.string x3, .string ⟨#[62]⟩, .string ⟨#[38, 103, 116, 59]⟩] W fun e w' => e = .returned (.string x4) ∧ Below W.heap.size W w') := Lib.hid (fun W h => by rw [hx4]; exact repl_calls W x3 _ _ h.2 (by omega) (by decide) (by decide))
  have R5 : Hid (∀ W, Tab W → Calls Tryz.prog 71 #[.string x4, .string ⟨#[34]⟩, .string ⟨#[38, 113, 117, 111, 116, 59]⟩] W fun e w' => e = .returned (.string x5) ∧ Below W.heap.size W w') := Lib.hid (fun W h => by rw [hx5]; exact repl_calls W x4 _ _ h.2 (by omega) (by decide) (by decide))
  have BC := Lib.hid (fun W (h : Tab W) => bytes_calls W 160 h.1.1)
  have hq : mkS (escL s.data.toList v) = if v = true then x5 else x4 := by
    rw [hx5, hx4, hx3, hx2, hx1]
    simp only [of_mkS]
    cases v <;> rfl
  rw [hq]
  have HT := Lib.hid ht
  clear hq hx1 hx2 hx3 hx4 hx5 ht
  go_enter Tryz.func33, Tryz.ntmps33
  go_upto_region 2 with (go_at_call 71; refine (R1.out _ HT.out).mono ?_; rintro e w1 ⟨rfl, hb1⟩)
  go_upto_region 3 with (first | (go_at_call 72; refine (BC.out _ (HT.out.below hb1)).mono ?_; rintro e w2 ⟨rfl, hb2⟩; have hb2' := below_then hb1 hb1.size hb2) | (go_at_call 71; refine (R2.out _ (HT.out.below hb2')).mono ?_; rintro e w3 ⟨rfl, hb3⟩; have hb3' := below_then hb2' hb2'.size hb3))
  go_upto_region 4 with (go_at_call 71; refine (R3.out _ (HT.out.below hb3')).mono ?_; rintro e w4 ⟨rfl, hb4⟩; have hb4' := below_then hb3' hb3'.size hb4)
  go_upto_region 5 with (go_at_call 71; refine (R4.out _ (HT.out.below hb4')).mono ?_; rintro e w5 ⟨rfl, hb5⟩; have hb5' := below_then hb4' hb4'.size hb5)
  cases v with
  | true =>
    go_wp2_with (go_at_call 71; refine (R5.out _ (HT.out.below hb5')).mono ?_; rintro e w6 ⟨rfl, hb6⟩)
    go_ret
    exact ⟨rfl, below_then hb5' hb5'.size hb6⟩
  | false =>
    go_wp2_with fail
    go_ret
    exact ⟨rfl, hb5'⟩

end Go.Proofs.YthfkldheflmlmaaGreatDoor
