/- strings.ReplaceAll, byte by byte: plain facts. -/
import Derived.Test.YthfkldheflmlmaaGreatDoorProg
import Derived.Lib.Replace
namespace Go.Proofs.YthfkldheflmlmaaGreatDoor
open Go.Lib

theorem index_here {old s : List UInt8} (h : old.isPrefixOf s = true) (hs : s ≠ []) : index s old = 0 := by
  cases s with
  | nil => exact absurd rfl hs
  | cons b l => rw [index, if_pos h]
theorem index_next {old l : List UInt8} {b : UInt8} (h : old.isPrefixOf (b :: l) = false) : index (b :: l) old = if index l old == -1 then -1 else index l old + 1 := by
  rw [index, if_neg (by rw [h]; simp)]
theorem count_here {old s : List UInt8} (ho : old ≠ []) (h : old.isPrefixOf s = true) (hs : s ≠ []) : count s old = 1 + count (s.drop old.length) old := by
  rw [count_hit ho (index_here h hs), Nat.zero_add]
theorem count_next {old l : List UInt8} {b : UInt8} (ho : old ≠ []) (h : old.isPrefixOf (b :: l) = false) : count (b :: l) old = count l old := by
  have hx := index_next h
  by_cases hm : index l old = -1
  · rw [if_pos (by simp [hm])] at hx
    rw [count_miss hx, count_miss hm]
  · have hge := index_ge l old
    obtain ⟨i, hi⟩ : ∃ i : Nat, index l old = i := ⟨(index l old).toNat, by omega⟩
    rw [if_neg (by simp [hm]), hi] at hx
    rw [count_hit ho (i := i + 1) (by rw [hx]; omega), count_hit ho hi]
    congr 2
    rw [show i + 1 + old.length = (i + old.length) + 1 by omega, List.drop_succ_cons]
theorem replaceK_next {old new l : List UInt8} {b : UInt8} (h : old.isPrefixOf (b :: l) = false) (k : Nat) : replaceK old new k (b :: l) = b :: replaceK old new k l := by
  cases k with
  | zero => rfl
  | succ k =>
    have hx := index_next h
    by_cases hm : index l old = -1
    · rw [if_pos (by simp [hm])] at hx
      rw [replaceK, if_pos (by simp [hx]), replaceK, if_pos (by simp [hm])]
    · have hge := index_ge l old
      obtain ⟨i, hi⟩ : ∃ i : Nat, index l old = i := ⟨(index l old).toNat, by omega⟩
      rw [if_neg (by simp [hm]), hi] at hx
      rw [replaceK_hit old new k (b :: l) (i + 1) (by rw [hx]; omega), replaceK_hit old new k l i hi]
      rw [show i + 1 + old.length = (i + old.length) + 1 by omega, List.drop_succ_cons, List.take_succ_cons]
      rfl
theorem replaceAll_eq {old new : List UInt8} (hne : old ≠ new) (s : List UInt8) : replaceAll s old new = replaceK old new (count s old) s := by
  rw [replaceAll, replace, if_neg (by simpa using hne), replaceNum, if_pos (by simp)]
theorem replaceAll_nil {old new : List UInt8} (hne : old ≠ new) (ho : old ≠ []) : replaceAll [] old new = [] := by
  have : index [] old = -1 := by
    rw [index, if_neg]
    simpa using ho
  rw [replaceAll_eq hne, count_miss this]
  rfl
theorem replaceAll_here {old new s : List UInt8} (hne : old ≠ new) (ho : old ≠ []) (h : old.isPrefixOf s = true) (hs : s ≠ []) : replaceAll s old new = new ++ replaceAll (s.drop old.length) old new := by
  rw [replaceAll_eq hne, count_here ho h hs, Nat.add_comm, replaceK_hit old new _ s 0 (index_here h hs), replaceAll_eq hne]
  simp
theorem replaceAll_next {old new l : List UInt8} {b : UInt8} (hne : old ≠ new) (ho : old ≠ []) (h : old.isPrefixOf (b :: l) = false) : replaceAll (b :: l) old new = b :: replaceAll l old new := by
  rw [replaceAll_eq hne, count_next ho h, replaceK_next h, replaceAll_eq hne]
/-- One byte replaced. -/
theorem replaceAll_one (c : UInt8) (new : List UInt8) (hne : [c] ≠ new) : ∀ (s : List UInt8), replaceAll s [c] new = s.flatMap fun b => if b = c then new else [b]
  | [] => by rw [replaceAll_nil hne (by simp)]; rfl
  | b :: l => by
    rw [List.flatMap_cons, ← replaceAll_one c new hne l]
    by_cases hb : b = c
    · subst hb
      rw [if_pos rfl, replaceAll_here hne (by simp) (by simp) (by simp)]
      rfl
    · rw [if_neg hb, replaceAll_next hne (by simp) (by simp [List.isPrefixOf, Ne.symm hb])]
      rfl

end Go.Proofs.YthfkldheflmlmaaGreatDoor
