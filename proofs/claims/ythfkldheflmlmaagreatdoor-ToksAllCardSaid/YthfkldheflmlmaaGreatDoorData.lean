/- Walk of the lexer: data. -/
import Derived.Test.YthfkldheflmlmaaGreatDoorMarkup
import Derived.Deep.RegionWith
namespace Go.Proofs.YthfkldheflmlmaaGreatDoor
open Go.RowKit

/-- Does markup begin here? -/
def stopL (l : List UInt8) : Bool := headIs l 60 && begL l
/-- How many bytes stand ahead of markup. -/
def plN : List UInt8 → Nat
  | [] => 0
  | b :: t => if stopL (b :: t) then 0 else 1 + plN t
theorem plN_le (l : List UInt8) : plN l ≤ l.length := by
  induction l with
  | nil => simp [plN]
  | cons b t ih => rw [plN]; split <;> simp <;> omega
def dataGo (cd : Bool) : Nat → List UInt8 → Nat → TokM × Nat
  | 0, _, p => (zeroTok, p)
  | f + 1, l, p =>
    if l.isEmpty = true then (zeroTok, p)
    else if stopL l = false then (charsT (allL (l.take (plN l)) false), p + plN l)
    else if (markL cd l).1.k = 0 then dataGo cd f (l.drop (markL cd l).2) (p + (markL cd l).2)
    else ((markL cd l).1, p + (markL cd l).2)
def dataL (cd : Bool) (l : List UInt8) : TokM × Nat := dataGo cd (l.length + 1) l 0

theorem tagGo_le (f : Nat) (ats : List AttrT) (l : List UInt8) (p : Nat) (x : List AttrT × Bool × Nat) (h : tagGo f ats l p = some x) : p < x.2.2 ∧ x.2.2 ≤ p + l.length := by
  induction f generalizing ats l p with
  | zero => cases h
  | succ f ih =>
    rw [tagGo] at h
    have hs := spN_le l
    split at h
    · cases h
    · rename_i h0
      have hpos : 0 < (l.drop (spN l)).length := by
        rcases Nat.eq_zero_or_pos (l.drop (spN l)).length with h | h
        · exact absurd (by rw [List.length_eq_zero_iff.1 h]; rfl) h0
        · exact h
      rw [List.length_drop] at hpos
      split at h
      · rename_i h1
        have := hasPrefix_two h1
        rw [List.length_drop] at this
        cases h
        simp only
        omega
      · split at h
        · cases h
          simp only
          omega
        · split at h
          · have := ih _ _ _ h
            rw [List.length_drop] at this
            omega
          · split at h
            · have := ih _ _ _ h
              have h3 := attrL_le (l.drop (spN l)) (by rw [List.length_drop]; omega)
              rw [List.length_drop] at this h3
              omega
            · cases h
theorem tagL_le (kind : Int) (l : List UInt8) : (tagL kind l).2 ≤ l.length := by
  rw [tagL]
  have hn := untN_le nameStops l
  cases h : tagGo (l.length + 1) [] (l.drop (untN nameStops l)) (untN nameStops l) with
  | none => exact Nat.le_refl _
  | some x =>
    have := tagGo_le _ _ _ _ _ h
    obtain ⟨a, b, c⟩ := x
    rw [List.length_drop] at this
    simp only [tagRes]
    simp only at this
    omega
theorem oddL_le (l : List UInt8) : (oddL l).2 ≤ l.length := toL_le _ _
theorem noteL_le (l : List UInt8) : (noteL l).2 ≤ l.length := by
  rw [noteL]
  split
  · rename_i h
    have := hasPrefix_le h
    simpa using this
  · split
    · rename_i h
      have := hasPrefix_le h
      simpa using this
    · split
      · exact toL_le _ _
      · split
        · exact toL_le _ _
        · exact Nat.le_refl _
theorem bangL_le (cd : Bool) (l : List UInt8) : (bangL cd l).2 ≤ l.length := by
  rw [bangL]
  split
  · rename_i h
    have h1 := hasPrefix_le h
    have h2 := noteL_le (l.drop 2)
    rw [List.length_drop] at h2
    simp at h1
    simp only
    omega
  · split
    · exact toL_le _ _
    · split
      · rename_i h
        have h1 := hasPrefix_le h.2
        have h2 := toL_le [93, 93, 62] (l.drop 7)
        rw [List.length_drop] at h2
        simp [cdataB] at h1
        simp only
        omega
      · exact oddL_le _
theorem markL_le (cd : Bool) (l : List UInt8) (h : 0 < l.length) : 1 ≤ (markL cd l).2 ∧ (markL cd l).2 ≤ l.length := by
  have hp : ∀ j c, headIs (l.drop j) c = true → j < l.length := by
    intro j c h
    have := headIs_ne h
    rw [List.length_drop] at this
    omega
  have hq : ∀ j, letH (l.drop j) = true → j < l.length := by
    intro j h
    rcases Nat.lt_or_ge j l.length with h' | h'
    · exact h'
    · rw [List.drop_eq_nil_of_le h'] at h; cases h
  have h1 := bangL_le cd (l.drop 2)
  have h2 := oddL_le (l.drop 1)
  have h3 := tagL_le 1 (l.drop 1)
  have h4 := tagL_le 2 (l.drop 2)
  have h5 := oddL_le (l.drop 2)
  rw [List.length_drop] at h1 h2 h3 h4 h5
  rw [markL]
  split
  · rename_i h; have := hp _ _ h; simp only; omega
  · split
    · simp only; omega
    · split
      · simp only; omega
      · rename_i h
        have := hp 1 47 (by simpa using h)
        split
        · simp only; omega
        · split
          · rename_i h; have := hp _ _ h; simp only; omega
          · simp only; omega

end Go.Proofs.YthfkldheflmlmaaGreatDoor
