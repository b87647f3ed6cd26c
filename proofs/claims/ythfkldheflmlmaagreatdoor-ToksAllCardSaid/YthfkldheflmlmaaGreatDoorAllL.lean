/- The tokens of a text: plain facts. -/
import Derived.Test.YthfkldheflmlmaaGreatDoorNext
namespace Go.Proofs.YthfkldheflmlmaaGreatDoor
open Go.RowKit

theorem stop_beg {l : List UInt8} (h : stopL l = true) : headIs l 60 = true := by
  rw [stopL] at h
  simp at h
  exact h.1
theorem plN_pos {l : List UInt8} (h0 : 0 < l.length) (h : stopL l = false) : 1 ≤ plN l := by
  cases l with
  | nil => cases h0
  | cons b t => rw [plN, h]; simp
theorem dataGo_le (cd : Bool) (f : Nat) (l : List UInt8) (p : Nat) (hf : l.length < f) : (0 < l.length → p < (dataGo cd f l p).2) ∧ p ≤ (dataGo cd f l p).2 ∧ (dataGo cd f l p).2 ≤ p + l.length ∧ ((dataGo cd f l p).1.k = 0 → (dataGo cd f l p).2 = p + l.length) := by
  induction f generalizing l p with
  | zero => omega
  | succ f ih =>
    rw [dataGo]
    split
    · rename_i h
      have : l.length = 0 := by rw [List.isEmpty_iff.1 h]; rfl
      simp only
      omega
    · rename_i h
      have hpos : 0 < l.length := by
        rcases Nat.eq_zero_or_pos l.length with h' | h'
        · exact absurd (by rw [List.length_eq_zero_iff.1 h']; rfl) h
        · exact h'
      split
      · rename_i hs
        have h1 := plN_pos hpos hs
        have h2 := plN_le l
        refine ⟨fun _ => ?_, ?_, ?_, fun hk => ?_⟩
        · simp only; omega
        · simp only; omega
        · simp only; omega
        · cases hk
      · have hm := markL_le cd l hpos
        split
        · have hi := ih (l.drop (markL cd l).2) (p + (markL cd l).2) (by rw [List.length_drop]; omega)
          rw [List.length_drop] at hi
          refine ⟨fun _ => by omega, by omega, by omega, fun hk => ?_⟩
          have := hi.2.2.2 hk
          omega
        · rename_i hk0
          refine ⟨fun _ => ?_, ?_, ?_, fun hk => absurd hk hk0⟩
          · simp only; omega
          · simp only; omega
          · simp only; omega
theorem dataL_le (cd : Bool) (l : List UInt8) : (0 < l.length → 0 < (dataL cd l).2) ∧ (dataL cd l).2 ≤ l.length ∧ ((dataL cd l).1.k = 0 → (dataL cd l).2 = l.length) := by
  have h := dataGo_le cd (l.length + 1) l 0 (by omega)
  rw [← dataL] at h
  refine ⟨h.1, by omega, fun hk => ?_⟩
  have := h.2.2.2 hk
  omega

theorem tagL_k (kind : Int) (l : List UInt8) (hk : kind ≠ 0) (h : (tagL kind l).1.k = 0) : (tagL kind l).2 = l.length := by
  rw [tagL] at h ⊢
  cases hg : tagGo (l.length + 1) [] (l.drop (untN nameStops l)) (untN nameStops l) with
  | none => rfl
  | some x =>
    obtain ⟨a, b, c⟩ := x
    rw [hg] at h
    simp only [tagRes] at h
    split at h <;> exact absurd h hk
theorem endsL_two {l last : List UInt8} (h : endsL l last = true) : 2 ≤ l.length := by
  have h1 := hasPrefix_le (p := [60, 47]) (l := l) (by rw [endsL] at h; revert h; cases Lib.hasPrefix l [60, 47] <;> simp)
  simpa using h1
theorem nextIn_le (l : List UInt8) (mk : Int) (last : List UInt8) (cd : Bool) (h0 : 0 < l.length) : 0 < (nextIn l mk last cd).2 ∧ (nextIn l mk last cd).2 ≤ l.length ∧ ((nextIn l mk last cd).1.k = 0 → (nextIn l mk last cd).2 = l.length) := by
  rw [nextIn]
  split
  · have h := dataL_le cd l
    exact ⟨h.1 h0, h.2⟩
  · split
    · rename_i h
      have h2 : 2 ≤ l.length := by
        cases l with
        | nil => cases h0
        | cons b t =>
          rw [endN] at h
          split at h
          · rename_i hh; exact endsL_two hh
          · omega
      have h3 := tagL_le 2 (l.drop 2)
      rw [List.length_drop] at h3
      refine ⟨by simp only; omega, by simp only; omega, fun hk => ?_⟩
      have := tagL_k 2 (l.drop 2) (by decide) hk
      rw [List.length_drop] at this
      simp only
      omega
    · rename_i h
      have := endN_le last l
      exact ⟨by simp only; omega, by simp only; omega, fun hk => by cases hk⟩
/-- All tokens of a text from a place on. -/
def toksGo (s : List UInt8) : Nat → Nat → List TokM
  | 0, _ => []
  | f + 1, p =>
    if s.length ≤ p then []
    else if (nextIn (s.drop p) 0 [] false).1.k = 0 then toksGo s f (p + (nextIn (s.drop p) 0 [] false).2)
    else (nextIn (s.drop p) 0 [] false).1 :: toksGo s f (p + (nextIn (s.drop p) 0 [] false).2)
def toksL (s : List UInt8) : List TokM := toksGo s (s.length + 1) 0

end Go.Proofs.YthfkldheflmlmaaGreatDoor
