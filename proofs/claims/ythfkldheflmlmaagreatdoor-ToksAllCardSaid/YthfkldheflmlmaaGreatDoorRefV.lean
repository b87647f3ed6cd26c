/- Plain: how the next token outside of a mode comes, step by step. -/
import Derived.Test.YthfkldheflmlmaaGreatDoorRefU
namespace Go.Proofs.YthfkldheflmlmaaGreatDoor
open Go.RowKit Go.Lib

theorem dataGo_fs (cd : Bool) : ∀ (n : Nat) (l : List UInt8), l.length ≤ n → ∀ f g p, l.length < f → l.length < g → dataGo cd f l p = ((dataGo cd g l 0).1, p + (dataGo cd g l 0).2) := by
  intro n
  induction n with
  | zero =>
    intro l hl f g p hf hg
    have : l = [] := List.length_eq_zero_iff.1 (by omega)
    subst this
    obtain ⟨f, rfl⟩ : ∃ k, f = k + 1 := ⟨f - 1, by omega⟩
    obtain ⟨g, rfl⟩ : ∃ k, g = k + 1 := ⟨g - 1, by omega⟩
    rfl
  | succ n ih =>
    intro l hl f g p hf hg
    obtain ⟨f, rfl⟩ : ∃ k, f = k + 1 := ⟨f - 1, by omega⟩
    obtain ⟨g, rfl⟩ : ∃ k, g = k + 1 := ⟨g - 1, by omega⟩
    rw [dataGo, dataGo]
    by_cases h0 : l.isEmpty = true
    · rw [if_pos h0, if_pos h0]; rfl
    rw [if_neg h0, if_neg h0]
    have hpos : 0 < l.length := List.length_pos_iff.2 (fun h => h0 (by rw [h]; rfl))
    by_cases h1 : stopL l = false
    · rw [if_pos h1, if_pos h1]; simp
    rw [if_neg h1, if_neg h1]
    by_cases h2 : (markL cd l).1.k = 0
    · rw [if_pos h2, if_pos h2]
      have hm := markL_le cd l hpos
      have hd : (l.drop (markL cd l).2).length ≤ n := by rw [List.length_drop]; omega
      rw [ih _ hd f g (p + (markL cd l).2) (by rw [List.length_drop]; omega) (by rw [List.length_drop]; omega), ih _ hd g g (0 + (markL cd l).2) (by rw [List.length_drop]; omega) (by rw [List.length_drop]; omega)]
      simp only
      rw [Nat.zero_add, Nat.add_assoc]
    · rw [if_neg h2, if_neg h2]; simp
theorem dataL_plain (cd : Bool) (l : List UInt8) (h0 : 0 < l.length) (h : stopL l = false) : dataL cd l = (charsT (allL (l.take (plN l)) false), plN l) := by
  rw [dataL, dataGo, if_neg (by intro h; rw [List.isEmpty_iff] at h; rw [h] at h0; cases h0), if_pos h, Nat.zero_add]
theorem dataL_mark (cd : Bool) (l : List UInt8) (h0 : 0 < l.length) (h : stopL l = true) (hk : (markL cd l).1.k ≠ 0) : dataL cd l = markL cd l := by
  rw [dataL, dataGo, if_neg (by intro h; rw [List.isEmpty_iff] at h; rw [h] at h0; cases h0), if_neg (by rw [h]; simp), if_neg hk, Nat.zero_add]
theorem dataL_skip (cd : Bool) (l : List UInt8) (h0 : 0 < l.length) (h : stopL l = true) (hk : (markL cd l).1.k = 0) : dataL cd l = ((dataL cd (l.drop (markL cd l).2)).1, (markL cd l).2 + (dataL cd (l.drop (markL cd l).2)).2) := by
  have hm := markL_le cd l h0
  rw [dataL, dataGo, if_neg (by intro h; rw [List.isEmpty_iff] at h; rw [h] at h0; cases h0), if_neg (by rw [h]; simp), if_pos hk]
  rw [dataGo_fs cd _ _ (Nat.le_refl _) l.length ((l.drop (markL cd l).2).length + 1) _ (by rw [List.length_drop]; omega) (by omega), Nat.zero_add]
  rfl
theorem tagL_zero (kind : Int) (l : List UInt8) (hk : kind ≠ 0) (h : (tagL kind l).1.k = 0) : (tagL kind l).1 = zeroTok := by
  rw [tagL] at h ⊢
  cases hg : tagGo (l.length + 1) [] (l.drop (untN nameStops l)) (untN nameStops l) with
  | none => rfl
  | some x =>
    rw [hg] at h
    obtain ⟨a, b, c⟩ := x
    exfalso
    simp only [tagRes] at h
    split at h <;> exact hk h
theorem noteL_k (l : List UInt8) : (noteL l).1.k = 4 := by
  rw [noteL]
  repeat' split
  all_goals rfl
theorem bangL_zero (cd : Bool) (l : List UInt8) (h : (bangL cd l).1.k = 0) : (bangL cd l).1 = zeroTok := by
  rw [bangL] at h ⊢
  split at h
  · rename_i h1
    rw [noteL_k] at h; cases h
  rename_i h1
  rw [if_neg h1]
  split at h
  · cases h
  rename_i h2
  rw [if_neg h2]
  split at h
  · rename_i h3
    rw [if_pos h3]
    simp only at h ⊢
    split at h
    · rename_i h4
      rw [if_pos h4]
    · cases h
  · cases h
theorem markL_zero (cd : Bool) (l : List UInt8) (h : (markL cd l).1.k = 0) : (markL cd l).1 = zeroTok := by
  rw [markL] at h ⊢
  split at h
  · rename_i h1
    rw [if_pos h1]
    exact bangL_zero cd _ h
  rename_i h1
  rw [if_neg h1]
  split at h
  · cases h
  rename_i h2
  rw [if_neg h2]
  split at h
  · rename_i h3
    rw [if_pos h3]
    exact tagL_zero 1 _ (by decide) h
  rename_i h3
  rw [if_neg h3]
  split at h
  · rename_i h4
    rw [if_pos h4]
    exact tagL_zero 2 _ (by decide) h
  rename_i h4
  rw [if_neg h4]
  split at h
  · rename_i h5
    rw [if_pos h5]
  · cases h

end Go.Proofs.YthfkldheflmlmaaGreatDoor
