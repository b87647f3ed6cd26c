/- pen.Note: contract. -/
import Derived.Test.YthfkldheflmlmaaGreatDoorPenB
namespace Go.Proofs.YthfkldheflmlmaaGreatDoor
open Go.RowKit Go.Lib

/-- A comment's text, or that there is none. -/
def penNoteL (l : List UInt8) : Option (List UInt8) :=
  if contains l [45, 45, 62] = true ∨ contains l [45, 45, 33, 62] = true then none
  else if goodL l = false ∨ hasPrefix l [62] = true ∨ hasPrefix l [45, 62] = true ∨ hasSuffix l [45] = true ∨ hasSuffix l [45, 45, 33] = true then none
  else some (60 :: 33 :: 45 :: 45 :: (l ++ [45, 45, 62]))
def penRes : Option (List UInt8) → Array Value
  | some l => #[.string (mkS l), .int .i64 0]
  | none => #[.string ⟨#[]⟩, .int .i64 4]
theorem pen_ix (W : World) : (Instr.index 51 (.agg #[.string ⟨#[45, 45, 62]⟩, .string ⟨#[45, 45, 33, 62]⟩]) (.int .i64 0)).run Tryz.prog W = .ok (.string ⟨#[45, 45, 62]⟩) W ∧
    (Instr.index 51 (.agg #[.string ⟨#[45, 45, 62]⟩, .string ⟨#[45, 45, 33, 62]⟩]) (.int .i64 1)).run Tryz.prog W = .ok (.string ⟨#[45, 45, 33, 62]⟩) W := ⟨by kernel_rfl, by kernel_rfl⟩
set_option maxRecDepth 100000 in
set_option maxHeartbeats 4000000 in
theorem pen_note_calls (w : World) (s : ByteArray) (ht : Tab w) (hs : s.size ≤ 10000) : Calls Tryz.prog 11 #[.string s] w fun e w' => e = .returned (.tuple (penRes (penNoteL s.data.toList))) ∧ Below w.heap.size w w' := by
  have GC := good_calls w s ht.1.1 (by omega)
  have C1 := contains_calls w s ⟨#[45, 45, 62]⟩ ht.2 (by omega)
  have C2 := contains_calls w s ⟨#[45, 45, 33, 62]⟩ ht.2 (by omega)
  have P1 := fun W => hasPrefix_calls W s ⟨#[62]⟩
  have P2 := fun W => hasPrefix_calls W s ⟨#[45, 62]⟩
  have S1 := fun W => hasSuffix_calls W s ⟨#[45]⟩ (by omega)
  have S2 := fun W => hasSuffix_calls W s ⟨#[45, 45, 33]⟩ (by omega)
  have hq := penNoteL.eq_1 s.data.toList
  have hm : (⟨#[60, 33, 45, 45]⟩ : ByteArray) ++ s ++ ⟨#[45, 45, 62]⟩ = mkS (60 :: 33 :: 45 :: 45 :: (s.data.toList ++ [45, 45, 62])) := by
    rw [← mkS_of ((⟨#[60, 33, 45, 45]⟩ : ByteArray) ++ s ++ ⟨#[45, 45, 62]⟩)]
    simp [ByteArray.data_append]
  have HM := Lib.hid hm
  have n1 : ¬ 9223372036854775807 < 4 + s.size := by omega
  have n2 : ¬ 9223372036854775807 < 4 + s.size + 3 := by omega
  rw [show (⟨#[45, 45, 62]⟩ : ByteArray).data.toList = [45, 45, 62] from rfl] at C1
  rw [show (⟨#[45, 45, 33, 62]⟩ : ByteArray).data.toList = [45, 45, 33, 62] from rfl] at C2
  rw [show (⟨#[62]⟩ : ByteArray).data.toList = [62] from rfl] at P1
  rw [show (⟨#[45, 62]⟩ : ByteArray).data.toList = [45, 62] from rfl] at P2
  rw [show (⟨#[45]⟩ : ByteArray).data.toList = [45] from rfl] at S1
  rw [show (⟨#[45, 45, 33]⟩ : ByteArray).data.toList = [45, 45, 33] from rfl] at S2
  generalize penNoteL s.data.toList = R at *
  generalize contains s.data.toList [45, 45, 62] = c1 at *
  generalize contains s.data.toList [45, 45, 33, 62] = c2 at *
  generalize hasPrefix s.data.toList [62] = p1 at *
  generalize hasPrefix s.data.toList [45, 62] = p2 at *
  generalize hasSuffix s.data.toList [45] = s1 at *
  generalize hasSuffix s.data.toList [45, 45, 33] = s2 at *
  generalize goodL s.data.toList = gd at *
  have C1 := Lib.hid C1
  have C2 := Lib.hid C2
  have P1 := Lib.hid P1
  have P2 := Lib.hid P2
  have S1 := Lib.hid S1
  have S2 := Lib.hid S2
  have GC := Lib.hid GC
  have HQ := Lib.hid hq
  have ix0 := fun W => (pen_ix W).1
  have ix1 := fun W => (pen_ix W).2
  clear hq hm ht
  go_enter Tryz.func11, Tryz.ntmps11
  go_wp2
  refine wp_loop_rounds 3 ?_
  rw [rounds_succ]
  cases c1 with
  | true =>
    go_wp2_with (go_at_call 19; refine C1.out.mono ?_; rintro e w1 ⟨rfl, rfl⟩)
    go_ret2
    exact ⟨by rw [HQ.out, if_pos (by simp)]; rfl, Below.refl _ _⟩
  | false =>
    go_wp2_with (go_at_call 19; refine C1.out.mono ?_; rintro e w1 ⟨rfl, rfl⟩)
    rw [rounds_succ]
    cases c2 with
    | true =>
      go_wp2_with (go_at_call 19; refine C2.out.mono ?_; rintro e w1 ⟨rfl, rfl⟩)
      go_ret2
      exact ⟨by rw [HQ.out, if_pos (by simp)]; rfl, Below.refl _ _⟩
    | false =>
      go_wp2_with (go_at_call 19; refine C2.out.mono ?_; rintro e w1 ⟨rfl, rfl⟩)
      rw [rounds_succ]
      cases gd with
      | false =>
        go_wp2_with (first | (go_at_call 18; refine GC.out.mono ?_; rintro e w1 ⟨rfl, hb1⟩) | (go_at_call 20; (first | (with_reducible refine (P1.out _).mono ?_) | (with_reducible refine (P2.out _).mono ?_)); rintro e w1' ⟨rfl, rfl⟩) | (go_at_call 21; (first | (with_reducible refine (S1.out _).mono ?_) | (with_reducible refine (S2.out _).mono ?_)); rintro e w1' ⟨rfl, rfl⟩))
        go_ret2
        exact ⟨by rw [HQ.out, if_neg (by simp), if_pos (by simp)]; rfl, hb1⟩
      | true =>
        cases p1 with
        | true =>
          go_wp2_with (first | (go_at_call 18; refine GC.out.mono ?_; rintro e w1 ⟨rfl, hb1⟩) | (go_at_call 20; (first | (with_reducible refine (P1.out _).mono ?_) | (with_reducible refine (P2.out _).mono ?_)); rintro e w1' ⟨rfl, rfl⟩) | (go_at_call 21; (first | (with_reducible refine (S1.out _).mono ?_) | (with_reducible refine (S2.out _).mono ?_)); rintro e w1' ⟨rfl, rfl⟩))
          go_ret2
          exact ⟨by rw [HQ.out, if_neg (by simp), if_pos (by simp)]; rfl, hb1⟩
        | false =>
          cases p2 with
          | true =>
            go_wp2_with (first | (go_at_call 18; refine GC.out.mono ?_; rintro e w1 ⟨rfl, hb1⟩) | (go_at_call 20; (first | (with_reducible refine (P1.out _).mono ?_) | (with_reducible refine (P2.out _).mono ?_)); rintro e w1' ⟨rfl, rfl⟩) | (go_at_call 21; (first | (with_reducible refine (S1.out _).mono ?_) | (with_reducible refine (S2.out _).mono ?_)); rintro e w1' ⟨rfl, rfl⟩))
            go_ret2
            exact ⟨by rw [HQ.out, if_neg (by simp), if_pos (by simp)]; rfl, hb1⟩
          | false =>
            cases s1 with
            | true =>
              go_wp2_with (first | (go_at_call 18; refine GC.out.mono ?_; rintro e w1 ⟨rfl, hb1⟩) | (go_at_call 20; (first | (with_reducible refine (P1.out _).mono ?_) | (with_reducible refine (P2.out _).mono ?_)); rintro e w1' ⟨rfl, rfl⟩) | (go_at_call 21; (first | (with_reducible refine (S1.out _).mono ?_) | (with_reducible refine (S2.out _).mono ?_)); rintro e w1' ⟨rfl, rfl⟩))
              go_ret2
              exact ⟨by rw [HQ.out, if_neg (by simp), if_pos (by simp)]; rfl, hb1⟩
            | false =>
              cases s2 with
              | true =>
                go_wp2_with (first | (go_at_call 18; refine GC.out.mono ?_; rintro e w1 ⟨rfl, hb1⟩) | (go_at_call 20; (first | (with_reducible refine (P1.out _).mono ?_) | (with_reducible refine (P2.out _).mono ?_)); rintro e w1' ⟨rfl, rfl⟩) | (go_at_call 21; (first | (with_reducible refine (S1.out _).mono ?_) | (with_reducible refine (S2.out _).mono ?_)); rintro e w1' ⟨rfl, rfl⟩))
                go_ret2
                exact ⟨by rw [HQ.out, if_neg (by simp), if_pos (by simp)]; rfl, hb1⟩
              | false =>
                go_wp2_with (first | (go_at_call 18; refine GC.out.mono ?_; rintro e w1 ⟨rfl, hb1⟩) | (go_at_call 20; (first | (with_reducible refine (P1.out _).mono ?_) | (with_reducible refine (P2.out _).mono ?_)); rintro e w1' ⟨rfl, rfl⟩) | (go_at_call 21; (first | (with_reducible refine (S1.out _).mono ?_) | (with_reducible refine (S2.out _).mono ?_)); rintro e w1' ⟨rfl, rfl⟩))
                go_ret2
                exact ⟨by rw [HQ.out, if_neg (by simp), if_neg (by simp)]; simp only [penRes]; rw [← HM.out]; rfl, hb1⟩

end Go.Proofs.YthfkldheflmlmaaGreatDoor
