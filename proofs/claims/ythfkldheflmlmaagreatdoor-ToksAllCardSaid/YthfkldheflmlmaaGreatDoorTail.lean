/- A region that draws its order, whose reading part stands ahead of a forced end: the reading part by the cheap quiet walk. -/
import Derived.Test.YthfkldheflmlmaaGreatDoorProg
import Derived.StillTail
import Derived.BigQuiet
namespace Go.Proofs.YthfkldheflmlmaaGreatDoor

theorem still_of_quiet {P : Program} {ops : Array Oper} {w : World} {Q : Act → Prop} : ∀ (l : List Oper) (a : Act), wpQuiet P ops (fun w' => w' = w) Q l a → wpStill P ops w Q l a
  | [], _, h => h
  | o :: rest, a, h => by
    unfold wpQuiet at h
    unfold wpStill
    by_cases hw : Region.wanted o (yielded ops a.tmps) = true
    · rw [if_pos hw] at h
      rw [if_pos hw]
      obtain ⟨v, h1, h2⟩ := h
      have h1 := h1 w rfl
      have h2 := still_of_quiet rest _ h2
      unfold Oper.quietAt at h1
      unfold Oper.still
      cases hr : (execOp a.eval o).run P w with
      | ok x w' =>
        rw [hr] at h1
        cases x with
        | value u =>
          obtain ⟨e1, e2⟩ := h1
          subst e1 e2
          exact ⟨rfl, h2⟩
        | skip =>
          obtain ⟨e1, e2⟩ := h1
          subst e1 e2
          exact ⟨rfl, h2⟩
        | enter f args =>
          obtain ⟨e1, e2⟩ := h1
          subst e1
          exact ⟨rfl, v, e2, h2⟩
        | _ => exact h1.elim
      | _ => rw [hr] at h1; exact h1.elim
    · rw [if_neg hw] at h
      rw [if_neg hw]
      exact still_of_quiet rest _ h
theorem region_tail {P : Program} {id : Nat} {Q : Exit → Act → World → Prop} {a : Act} {w : World} {l : List Oper} (n : Nat) (hm : P.follows .mixedOrders = true) (hB : Region.lexTailB .any l.toArray n = true)
    (h : wpQuiet P l.toArray (fun w' => w' = w.drew) (fun a' => wpList P l.toArray Q (l.drop n) a' w.drew) (l.take n) a) : (Code.region id l.toArray true).wp P Q a w :=
  wp_region_still_tail n hm hB (still_of_quiet _ _ h)

end Go.Proofs.YthfkldheflmlmaaGreatDoor
