/- What pens write is read back: plain facts. -/
import Derived.Test.YthfkldheflmlmaaDoorPenF
import Derived.Test.YthfkldheflmlmaaDoorPlain
import Derived.Test.YthfkldheflmlmaaDoorRaw
namespace Go.Proofs.YthfkldheflmlmaaDoor
open Go.RowKit Go.Lib

theorem escOne_no60 (v : Bool) (b : UInt8) : (60 : UInt8) ∉ escOne v b := by
  unfold escOne
  split
  · decide
  · split
    · decide
    · split
      · decide
      · split
        · decide
        · rename_i h _ _
          simpa using fun e : (60 : UInt8) = b => h e.symm
theorem escB_no60 (v : Bool) : ∀ (n : Nat) (l : List UInt8), l.length ≤ n → (60 : UInt8) ∉ escB v l
  | 0, l, h => by
    have : l = [] := List.length_eq_zero_iff.mp (by omega)
    rw [this]; simp [escB]
  | n + 1, [], _ => by simp [escB]
  | n + 1, [b], _ => by rw [escB]; exact escOne_no60 v b
  | n + 1, b :: b' :: l, h => by
    have h1 := escB_no60 v n l (by simp at h; omega)
    have h2 := escB_no60 v n (b' :: l) (by simp at h ⊢; omega)
    rw [escB]
    split
    · intro hm
      rcases List.mem_append.1 hm with hm | hm
      · revert hm; decide
      · exact h1 hm
    · intro hm
      rcases List.mem_append.1 hm with hm | hm
      · exact escOne_no60 v b hm
      · exact h2 hm
theorem escOne_ne (v : Bool) (b : UInt8) : escOne v b ≠ [] := by
  unfold escOne
  split
  · decide
  · split
    · decide
    · split
      · decide
      · split
        · decide
        · simp
theorem escB_ne (v : Bool) (l : List UInt8) (h : l ≠ []) : escB v l ≠ [] := by
  match l, h with
  | [b], _ => rw [escB]; exact escOne_ne v b
  | b :: b' :: l, _ =>
    rw [escB]
    split
    · simp [nbspB]
    · simp [escOne_ne]
theorem head_no60 {b : UInt8} {l : List UInt8} (h : b ≠ 60) : headIs (b :: l) 60 = false := by
  simp only [headIs]
  simpa using fun e : b.toNat = 60 => h (UInt8.toNat.inj (by simpa using e))
theorem plN_at (c : List UInt8) (hc : stopL c = true) (hne : c ≠ []) : ∀ (x : List UInt8), (60 : UInt8) ∉ x → plN (x ++ c) = x.length
  | [], _ => by
    cases c with
    | nil => exact absurd rfl hne
    | cons b t => rw [List.nil_append, plN, if_pos hc]; rfl
  | b :: x, h => by
    have hb : b ≠ 60 := fun e => h (by simp [e])
    have ih := plN_at c hc hne x (fun hm => h (by simp [hm]))
    rw [List.cons_append, plN, if_neg (by rw [stopL, head_no60 hb]; simp), ih, List.length_cons]
    omega
theorem hasPrefix_head {b : UInt8} {l : List UInt8} (h : b ≠ 60) : hasPrefix (b :: l) [60, 47] = false := by
  simp [hasPrefix, List.isPrefixOf, Ne.symm h]
theorem endN_at (last c : List UInt8) (hc : endsL c last = true) (hne : c ≠ []) : ∀ (x : List UInt8), (60 : UInt8) ∉ x → endN last (x ++ c) = x.length
  | [], _ => by
    cases c with
    | nil => exact absurd rfl hne
    | cons b t => rw [List.nil_append, endN, if_pos hc]; rfl
  | b :: x, h => by
    have hb : b ≠ 60 := fun e => h (by simp [e])
    have ih := endN_at last c hc hne x (fun hm => h (by simp [hm]))
    rw [List.cons_append, endN, if_neg (by rw [endsL, hasPrefix_head hb]; simp), ih, List.length_cons]
    omega
theorem nameI_low (b : UInt8) (h : nameI b.toNat = true) : lowB b = b ∧ stopB b = false ∧ b ≠ 60 ∧ letterI b.toNat = (smallI b.toNat) := by
  revert b
  have : ∀ n : Fin 256, nameI ((UInt8.ofNat n.1).toNat : Int) = true → lowB (UInt8.ofNat n.1) = UInt8.ofNat n.1 ∧ stopB (UInt8.ofNat n.1) = false ∧ UInt8.ofNat n.1 ≠ 60 ∧ letterI ((UInt8.ofNat n.1).toNat : Int) = smallI ((UInt8.ofNat n.1).toNat : Int) := by decide +kernel
  intro b
  simpa using this ⟨b.toNat, b.toNat_lt⟩
theorem name_parts {n : List UInt8} (h : nameL n = true) : n ≠ [] ∧ n.length ≤ 24 ∧ smallI (n.getD 0 0).toNat = true ∧ ∀ b ∈ n, nameI b.toNat = true := by
  rw [nameL] at h
  simp only [Bool.and_eq_true, decide_eq_true_eq, List.all_eq_true] at h
  refine ⟨fun e => ?_, h.2.1, h.2.2.1, h.2.2.2⟩
  rw [e] at h
  simp at h
theorem name_low {n : List UInt8} (h : nameL n = true) : lowL n = n := by
  have hp := (name_parts h).2.2.2
  rw [lowL]
  conv => rhs; rw [← List.map_id n]
  exact List.map_congr_left fun b hb => (nameI_low b (hp b hb)).1
theorem close_ends {n : List UInt8} (h : nameL n = true) (r : List UInt8) : endsL (closeL n ++ r) n = true := by
  have hp := name_parts h
  have h1 : n.isEmpty = false := by simpa using hp.1
  have e : closeL n ++ r = 60 :: 47 :: (n ++ (62 :: r)) := by simp [closeL]
  rw [e, endsL]
  have h2 : hasPrefix (60 :: 47 :: (n ++ 62 :: r)) [60, 47] = true := by simp [hasPrefix, List.isPrefixOf]
  rw [h2, h1]
  simp only [List.drop_succ_cons, List.drop_zero, List.length_append, List.length_cons, List.take_left', List.drop_left']
  rw [name_low h]
  simp [spaceI]
theorem close_stop {n : List UInt8} (r : List UInt8) : stopL (closeL n ++ r) = true := by
  have e : closeL n ++ r = 60 :: 47 :: (n ++ (62 :: r)) := by simp [closeL]
  rw [e, stopL, begL]
  simp [headIs, letterI]
theorem close_ne (n r : List UInt8) : closeL n ++ r ≠ [] := by simp [closeL]
/-- Characters that were written are read as just those. -/
theorem chars_back (s c : List UInt8) (h0 : s ≠ []) (hg : goodL s = true) (hc : (stopL c = true ∧ c ≠ []) ∨ c = []) : nextL (escB false s ++ c) 0 0 [] false = (charsT s, ((escB false s).length : Int)) := by
  have hr : rightL s = true := by rw [goodL] at hg; simp at hg; exact hg.1
  have h60 := escB_no60 false _ s (Nat.le_refl _)
  have hne := escB_ne false s h0
  have hlen := List.length_pos_iff.mpr hne
  have hall := all_esc false _ s (Nat.le_refl _) hr
  have hpl : plN (escB false s ++ c) = (escB false s).length := by
    rcases hc with ⟨h1, h2⟩ | rfl
    · exact plN_at c h1 h2 _ h60
    · rw [List.append_nil]
      exact plN_plain _ (stop_no h60)
  generalize escB false s = x at *
  have hst : stopL (x ++ c) = false := by
    cases x with
    | nil => exact absurd rfl hne
    | cons b t => rw [List.cons_append, stopL, head_no60 (fun e => h60 (by simp [e]))]; rfl
  have hd : dataL false (x ++ c) = (charsT s, x.length) := by
    rw [dataL, dataGo, if_neg (by simp [hne]), if_pos hst, hpl, List.take_left, hall]
    simp
  rw [nextL, if_neg (by rw [List.length_append]; omega)]
  have hn : nextIn ((x ++ c).drop (0 : Int).toNat) 0 [] false = (charsT s, x.length) := by
    rw [show ((0 : Int).toNat) = 0 from rfl, List.drop_zero, nextIn, if_pos (by decide), hd]
  rw [hn]
  simp
theorem title_back (s n : List UInt8) (h0 : s ≠ []) (hg : goodL s = true) (hn : nameL n = true) (r : List UInt8) : nextL (escB false s ++ (closeL n ++ r)) 0 1 n false = (charsT s, ((escB false s).length : Int)) := by
  have hr : rightL s = true := by rw [goodL] at hg; simp at hg; exact hg.1
  have h60 := escB_no60 false _ s (Nat.le_refl _)
  have hne := escB_ne false s h0
  have hlen := List.length_pos_iff.mpr hne
  have hall := all_esc false _ s (Nat.le_refl _) hr
  have hen := endN_at n (closeL n ++ r) (close_ends hn r) (close_ne n r) _ h60
  generalize escB false s = x at *
  rw [nextL, if_neg (by rw [List.length_append]; omega)]
  have hx : nextIn ((x ++ (closeL n ++ r)).drop (0 : Int).toNat) 1 n false = (charsT s, x.length) := by
    rw [show ((0 : Int).toNat) = 0 from rfl, List.drop_zero, nextIn, if_neg (by decide), hen, if_neg (by omega), if_pos rfl, List.take_left, hall]
  rw [hx]
  simp
theorem chars_out {w : World} {B : Nat} {l : List UInt8} {v : Value} (h : TokV w B (charsT l) v) : ∃ A c, v = .agg #[.int .i64 3, .string ⟨#[]⟩, .slice A 0 c, .bool false, .string (mkS l)] := by
  obtain ⟨A, c, e, _⟩ := h.slice
  exact ⟨A, c, e⟩

end Go.Proofs.YthfkldheflmlmaaDoor
