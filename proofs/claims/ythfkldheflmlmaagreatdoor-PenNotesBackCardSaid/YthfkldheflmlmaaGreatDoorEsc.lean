/- refs.Escape: plain facts. -/
import Derived.Test.YthfkldheflmlmaaGreatDoorRepl
import Derived.Test.YthfkldheflmlmaaGreatDoorCleanL
namespace Go.Proofs.YthfkldheflmlmaaGreatDoor
open Go.Lib

def ampB : List UInt8 := [38, 97, 109, 112, 59]
def nbspB : List UInt8 := [38, 110, 98, 115, 112, 59]
def ltB : List UInt8 := [38, 108, 116, 59]
def gtB : List UInt8 := [38, 103, 116, 59]
def quotB : List UInt8 := [38, 113, 117, 111, 116, 59]
def escL (s : List UInt8) (v : Bool) : List UInt8 :=
  if v = true then replaceAll (replaceAll (replaceAll (replaceAll (replaceAll s [38] ampB) [194, 160] nbspB) [60] ltB) [62] gtB) [34] quotB
  else replaceAll (replaceAll (replaceAll (replaceAll s [38] ampB) [194, 160] nbspB) [60] ltB) [62] gtB
/-- A byte's text, when no two-byte character begins there. -/
def escOne (v : Bool) (b : UInt8) : List UInt8 := if b = 38 then ampB else if b = 60 then ltB else if b = 62 then gtB else if b = 34 ∧ v = true then quotB else [b]
def escB (v : Bool) : List UInt8 → List UInt8
  | [] => []
  | [b] => escOne v b
  | b :: b' :: l => if b = 194 ∧ b' = 160 then nbspB ++ escB v l else escOne v b ++ escB v (b' :: l)
def tailE (v : Bool) (s : List UInt8) : List UInt8 :=
  if v = true then replaceAll (replaceAll (replaceAll s [60] ltB) [62] gtB) [34] quotB else replaceAll (replaceAll s [60] ltB) [62] gtB
theorem tailE_app (v : Bool) (a b : List UInt8) : tailE v (a ++ b) = tailE v a ++ tailE v b := by
  unfold tailE
  cases v <;> simp [replaceAll_one _ _ (show [60] ≠ ltB by decide), replaceAll_one _ _ (show [62] ≠ gtB by decide), replaceAll_one _ _ (show [34] ≠ quotB by decide)]
theorem tailE_amp (v : Bool) : tailE v ampB = ampB := by cases v <;> rfl
theorem tailE_nbsp (v : Bool) : tailE v nbspB = nbspB := by cases v <;> rfl
theorem tailE_one (v : Bool) (b : UInt8) (h : b ≠ 38) : tailE v [b] = escOne v b := by
  rw [escOne, if_neg h]
  unfold tailE
  by_cases h1 : b = 60
  · subst h1; cases v <;> rfl
  · by_cases h2 : b = 62
    · subst h2; cases v <;> rfl
    · by_cases h3 : b = 34
      · subst h3; cases v <;> rfl
      · cases v <;> simp [replaceAll_one _ _ (show [60] ≠ ltB by decide), replaceAll_one _ _ (show [62] ≠ gtB by decide), replaceAll_one _ _ (show [34] ≠ quotB by decide), h1, h2, h3]
theorem escL_tail (s : List UInt8) (v : Bool) : escL s v = tailE v (replaceAll (replaceAll s [38] ampB) [194, 160] nbspB) := by
  unfold escL tailE
  rfl
def midE (s : List UInt8) : List UInt8 := replaceAll (replaceAll s [38] ampB) [194, 160] nbspB
theorem hn2 : ([194, 160] : List UInt8) ≠ nbspB := by decide
theorem mid_miss {b : UInt8} (l : List UInt8) (h : b ≠ 194) : replaceAll (b :: l) [194, 160] nbspB = b :: replaceAll l [194, 160] nbspB :=
  replaceAll_next hn2 (by simp) (by simp [List.isPrefixOf, Ne.symm h])
theorem midE_nil : midE [] = [] := by rw [midE, replaceAll_one _ _ (by decide)]; exact replaceAll_nil hn2 (by simp)
theorem midE_amp (l : List UInt8) : midE (38 :: l) = ampB ++ midE l := by
  rw [midE, replaceAll_one _ _ (by decide), List.flatMap_cons, if_pos rfl, ← replaceAll_one _ _ (by decide)]
  simp only [ampB, List.cons_append, List.nil_append]
  rw [mid_miss _ (by decide), mid_miss _ (by decide), mid_miss _ (by decide), mid_miss _ (by decide), mid_miss _ (by decide)]
  rfl
theorem midE_cons (b : UInt8) (l : List UInt8) (h : b ≠ 38) (h2 : ∀ l', b = 194 → l ≠ 160 :: l') : midE (b :: l) = b :: midE l := by
  rw [midE, replaceAll_one _ _ (by decide), List.flatMap_cons, if_neg h, ← replaceAll_one _ _ (by decide)]
  refine replaceAll_next hn2 (by simp) ?_
  by_cases hb : b = 194
  · subst hb
    cases l with
    | nil => rfl
    | cons b' l' =>
      have hb' : b' ≠ 160 := fun e => h2 l' rfl (by rw [e])
      rw [replaceAll_one _ _ (by decide), List.flatMap_cons]
      by_cases e38 : b' = 38
      · rw [if_pos e38]; rfl
      · rw [if_neg e38]
        simp [List.isPrefixOf, Ne.symm hb']
  · simp [List.isPrefixOf, Ne.symm hb]
theorem midE_nbsp (l : List UInt8) : midE (194 :: 160 :: l) = nbspB ++ midE l := by
  rw [midE, replaceAll_one _ _ (by decide), List.flatMap_cons, List.flatMap_cons, if_neg (by decide), if_neg (by decide), ← replaceAll_one _ _ (by decide)]
  rw [show ([194] ++ ([160] ++ replaceAll l [38] ampB) : List UInt8) = 194 :: 160 :: replaceAll l [38] ampB from rfl, replaceAll_here hn2 (by simp) (by simp [List.isPrefixOf]) (by simp)]
  rfl
theorem escB_eq (v : Bool) : ∀ (s : List UInt8), tailE v (midE s) = escB v s
  | [] => by rw [midE_nil, escB]; cases v <;> rfl
  | [b] => by
    by_cases h : b = 38
    · subst h
      rw [midE_amp, midE_nil, List.append_nil, tailE_amp, escB]
      rfl
    · rw [midE_cons b [] h (fun l' _ e => by cases e), midE_nil, tailE_one v b h, escB]
  | b :: b' :: l => by
    rw [escB]
    by_cases h2 : b = 194 ∧ b' = 160
    · rw [if_pos h2, h2.1, h2.2, midE_nbsp, tailE_app, tailE_nbsp, escB_eq v l]
    · rw [if_neg h2]
      by_cases h : b = 38
      · subst h
        rw [midE_amp, tailE_app, tailE_amp, escB_eq v (b' :: l)]
        rfl
      · rw [midE_cons b _ h (fun l' e1 e2 => h2 ⟨e1, by cases e2; rfl⟩), show b :: midE (b' :: l) = [b] ++ midE (b' :: l) from rfl, tailE_app, tailE_one v b h, escB_eq v (b' :: l)]
theorem escL_eq (s : List UInt8) (v : Bool) : escL s v = escB v s := by rw [escL_tail]; exact escB_eq v s

end Go.Proofs.YthfkldheflmlmaaGreatDoor
