/- pen.Close, Chars, Note: contracts. -/
import Derived.Test.YthfkldheflmlmaaDoorPenB
namespace Go.Proofs.YthfkldheflmlmaaDoor
open Go.RowKit Go.Lib

/-- The text of a tag that ends an element. -/
def closeL (n : List UInt8) : List UInt8 := 60 :: 47 :: (n ++ [62])
set_option maxRecDepth 100000 in
set_option maxHeartbeats 1000000 in
theorem close_calls (w : World) (s : ByteArray) : Calls Tryd.prog 22 #[.string s] w fun e w' =>
    e = .returned (.tuple (if nameL s.data.toList = true then #[.string (mkS (closeL s.data.toList)), .int .i64 0] else #[.string ⟨#[]⟩, .int .i64 4])) ∧ w = w' := by
  have NC := Lib.hid (fun W => name_calls W s)
  cases h : nameL s.data.toList with
  | false =>
    rw [if_neg (by simp)]
    go_enter Tryd.func22, Tryd.ntmps22
    go_wp2_with (go_at_call 41; refine (NC.out _).mono ?_; rintro e w1 ⟨rfl, rfl⟩; rw [h])
    go_ret2
    exact ⟨rfl, rfl⟩
  | true =>
    rw [if_pos rfl]
    have hz : s.size ≤ 24 := by
      rw [nameL] at h
      simp only [Bool.and_eq_true, decide_eq_true_eq] at h
      rw [← len_toL]
      exact h.2.1
    have hq : (⟨#[60, 47]⟩ : ByteArray) ++ s ++ ⟨#[62]⟩ = mkS (closeL s.data.toList) := by
      rw [← mkS_of ((⟨#[60, 47]⟩ : ByteArray) ++ s ++ ⟨#[62]⟩)]
      simp [ByteArray.data_append, closeL]
    have HQ := Lib.hid hq
    have n1 : ¬ 9223372036854775807 < 2 + s.size := by omega
    have n2 : ¬ 9223372036854775807 < 2 + s.size + 1 := by omega
    clear hq
    go_enter Tryd.func22, Tryd.ntmps22
    go_wp2_with (go_at_call 41; refine (NC.out _).mono ?_; rintro e w1 ⟨rfl, rfl⟩; rw [h])
    go_ret2
    exact ⟨by rw [← HQ.out]; rfl, rfl⟩

set_option maxRecDepth 100000 in
set_option maxHeartbeats 1000000 in
theorem pen_chars_calls (w : World) (s : ByteArray) (ht : Tab w) (hs : s.size ≤ 10000) : Calls Tryd.prog 24 #[.string s] w fun e w' =>
    e = .returned (.tuple (if s.data.toList ≠ [] ∧ goodL s.data.toList = true then #[.string (mkS (escB false s.data.toList)), .int .i64 0] else #[.string ⟨#[]⟩, .int .i64 4])) ∧ Below w.heap.size w w' := by
  have GC := Lib.hid (good_calls w s ht.1.1 (by omega))
  have EC := Lib.hid (fun W h => escape_calls W s false h hs)
  have HT := Lib.hid ht
  clear ht
  by_cases h0 : s.data.toList = []
  · have he : (s.toList == []) = true := by rw [ByteArray.toList_eq, h0]; rfl
    rw [if_neg (fun h => h.1 h0)]
    go_enter Tryd.func24, Tryd.ntmps24
    go_wp2
    go_ret2
    exact ⟨rfl, Below.refl _ _⟩
  · have he : (s.toList == []) = false := by rw [ByteArray.toList_eq]; simpa using h0
    cases h : goodL s.data.toList with
    | false =>
      rw [if_neg (fun h => by cases h.2)]
      go_enter Tryd.func24, Tryd.ntmps24
      go_wp2_with (go_at_call 42; refine GC.out.mono ?_; rintro e w1 ⟨rfl, hb1⟩; rw [h])
      go_ret2
      exact ⟨rfl, hb1⟩
    | true =>
      rw [if_pos ⟨h0, rfl⟩]
      go_enter Tryd.func24, Tryd.ntmps24
      go_wp2_with (first | (go_at_call 42; refine GC.out.mono ?_; rintro e w1 ⟨rfl, hb1⟩; rw [h]) | (go_at_call 43; refine (EC.out _ (HT.out.below hb1)).mono ?_; rintro e w2 ⟨rfl, hb2⟩))
      go_ret2
      exact ⟨rfl, below_then hb1 hb1.size hb2⟩

/-- A comment's text, or that there is none. -/
def penNoteL (l : List UInt8) : Option (List UInt8) :=
  if contains l [45, 45, 62] = true ∨ contains l [45, 45, 33, 62] = true then none
  else if goodL l = false ∨ hasPrefix l [62] = true ∨ hasPrefix l [45, 62] = true ∨ hasSuffix l [45] = true ∨ hasSuffix l [45, 45, 33] = true then none
  else some (60 :: 33 :: 45 :: 45 :: (l ++ [45, 45, 62]))
def penRes : Option (List UInt8) → Array Value
  | some l => #[.string (mkS l), .int .i64 0]
  | none => #[.string ⟨#[]⟩, .int .i64 4]
theorem pen_ix (W : World) : (Instr.index 103 (.agg #[.string ⟨#[45, 45, 62]⟩, .string ⟨#[45, 45, 33, 62]⟩]) (.int .i64 0)).run Tryd.prog W = .ok (.string ⟨#[45, 45, 62]⟩) W ∧
    (Instr.index 103 (.agg #[.string ⟨#[45, 45, 62]⟩, .string ⟨#[45, 45, 33, 62]⟩]) (.int .i64 1)).run Tryd.prog W = .ok (.string ⟨#[45, 45, 33, 62]⟩) W := ⟨by kernel_rfl, by kernel_rfl⟩
set_option maxRecDepth 100000 in
set_option maxHeartbeats 4000000 in
theorem pen_note_calls (w : World) (s : ByteArray) (ht : Tab w) (hs : s.size ≤ 10000) : Calls Tryd.prog 40 #[.string s] w fun e w' => e = .returned (.tuple (penRes (penNoteL s.data.toList))) ∧ Below w.heap.size w w' := by
  have GC := good_calls w s ht.1.1 (by omega)
  have C1 := contains_calls w s ⟨#[45, 45, 62]⟩ ht.2 (by omega)
  have C2 := contains_calls w s ⟨#[45, 45, 33, 62]⟩ ht.2 (by omega)
  have P1 := fun W => hasPrefix_calls W s ⟨#[62]⟩
  have P2 := fun W => hasPrefix_calls W s ⟨#[45, 62]⟩
  have S1 := fun W => hasSuffix_calls W s ⟨#[45]⟩ (by omega)
  have S2 := fun W => hasSuffix_calls W s ⟨#[45, 45, 33]⟩ (by omega)
  have hq := penNoteL.eq_1 s.data.toList
  have hm : (⟨#[60, 33, 45, 45]⟩ : ByteArray) ++ s ++ ⟨#[45, 45, 62]⟩ = mkS (60 :: 33 :: 45 :: 45 :: (s.data.toList ++ [45, 45, 62])) := by
    rw [← mkS_of ((⟨#[60, 33, 45, 45]⟩ : ByteArray) ++ s ++ ⟨#[45, 45, 62]⟩)]
    simp [ByteArray.data_append]
  have HM := Lib.hid hm
  have n1 : ¬ 9223372036854775807 < 4 + s.size := by omega
  have n2 : ¬ 9223372036854775807 < 4 + s.size + 3 := by omega
  rw [show (⟨#[45, 45, 62]⟩ : ByteArray).data.toList = [45, 45, 62] from rfl] at C1
  rw [show (⟨#[45, 45, 33, 62]⟩ : ByteArray).data.toList = [45, 45, 33, 62] from rfl] at C2
  rw [show (⟨#[62]⟩ : ByteArray).data.toList = [62] from rfl] at P1
  rw [show (⟨#[45, 62]⟩ : ByteArray).data.toList = [45, 62] from rfl] at P2
  rw [show (⟨#[45]⟩ : ByteArray).data.toList = [45] from rfl] at S1
  rw [show (⟨#[45, 45, 33]⟩ : ByteArray).data.toList = [45, 45, 33] from rfl] at S2
  generalize penNoteL s.data.toList = R at *
  generalize contains s.data.toList [45, 45, 62] = c1 at *
  generalize contains s.data.toList [45, 45, 33, 62] = c2 at *
  generalize hasPrefix s.data.toList [62] = p1 at *
  generalize hasPrefix s.data.toList [45, 62] = p2 at *
  generalize hasSuffix s.data.toList [45] = s1 at *
  generalize hasSuffix s.data.toList [45, 45, 33] = s2 at *
  generalize goodL s.data.toList = gd at *
  have C1 := Lib.hid C1
  have C2 := Lib.hid C2
  have P1 := Lib.hid P1
  have P2 := Lib.hid P2
  have S1 := Lib.hid S1
  have S2 := Lib.hid S2
  have GC := Lib.hid GC
  have HQ := Lib.hid hq
  have ix0 := fun W => (pen_ix W).1
  have ix1 := fun W => (pen_ix W).2
  clear hq hm ht
  go_enter Tryd.func40, Tryd.ntmps40
  go_wp2
  refine wp_loop_rounds 3 ?_
  rw [rounds_succ]
  cases c1 with
  | true =>
    go_wp2_with (go_at_call 73; refine C1.out.mono ?_; rintro e w1 ⟨rfl, rfl⟩)
    go_ret2
    exact ⟨by rw [HQ.out, if_pos (by simp)]; rfl, Below.refl _ _⟩
  | false =>
    go_wp2_with (go_at_call 73; refine C1.out.mono ?_; rintro e w1 ⟨rfl, rfl⟩)
    rw [rounds_succ]
    cases c2 with
    | true =>
      go_wp2_with (go_at_call 73; refine C2.out.mono ?_; rintro e w1 ⟨rfl, rfl⟩)
      go_ret2
      exact ⟨by rw [HQ.out, if_pos (by simp)]; rfl, Below.refl _ _⟩
    | false =>
      go_wp2_with (go_at_call 73; refine C2.out.mono ?_; rintro e w1 ⟨rfl, rfl⟩)
      rw [rounds_succ]
      cases gd with
      | false =>
        go_wp2_with (first | (go_at_call 42; refine GC.out.mono ?_; rintro e w1 ⟨rfl, hb1⟩) | (go_at_call 74; (first | (with_reducible refine (P1.out _).mono ?_) | (with_reducible refine (P2.out _).mono ?_)); rintro e w1' ⟨rfl, rfl⟩) | (go_at_call 75; (first | (with_reducible refine (S1.out _).mono ?_) | (with_reducible refine (S2.out _).mono ?_)); rintro e w1' ⟨rfl, rfl⟩))
        go_ret2
        exact ⟨by rw [HQ.out, if_neg (by simp), if_pos (by simp)]; rfl, hb1⟩
      | true =>
        cases p1 with
        | true =>
          go_wp2_with (first | (go_at_call 42; refine GC.out.mono ?_; rintro e w1 ⟨rfl, hb1⟩) | (go_at_call 74; (first | (with_reducible refine (P1.out _).mono ?_) | (with_reducible refine (P2.out _).mono ?_)); rintro e w1' ⟨rfl, rfl⟩) | (go_at_call 75; (first | (with_reducible refine (S1.out _).mono ?_) | (with_reducible refine (S2.out _).mono ?_)); rintro e w1' ⟨rfl, rfl⟩))
          go_ret2
          exact ⟨by rw [HQ.out, if_neg (by simp), if_pos (by simp)]; rfl, hb1⟩
        | false =>
          cases p2 with
          | true =>
            go_wp2_with (first | (go_at_call 42; refine GC.out.mono ?_; rintro e w1 ⟨rfl, hb1⟩) | (go_at_call 74; (first | (with_reducible refine (P1.out _).mono ?_) | (with_reducible refine (P2.out _).mono ?_)); rintro e w1' ⟨rfl, rfl⟩) | (go_at_call 75; (first | (with_reducible refine (S1.out _).mono ?_) | (with_reducible refine (S2.out _).mono ?_)); rintro e w1' ⟨rfl, rfl⟩))
            go_ret2
            exact ⟨by rw [HQ.out, if_neg (by simp), if_pos (by simp)]; rfl, hb1⟩
          | false =>
            cases s1 with
            | true =>
              go_wp2_with (first | (go_at_call 42; refine GC.out.mono ?_; rintro e w1 ⟨rfl, hb1⟩) | (go_at_call 74; (first | (with_reducible refine (P1.out _).mono ?_) | (with_reducible refine (P2.out _).mono ?_)); rintro e w1' ⟨rfl, rfl⟩) | (go_at_call 75; (first | (with_reducible refine (S1.out _).mono ?_) | (with_reducible refine (S2.out _).mono ?_)); rintro e w1' ⟨rfl, rfl⟩))
              go_ret2
              exact ⟨by rw [HQ.out, if_neg (by simp), if_pos (by simp)]; rfl, hb1⟩
            | false =>
              cases s2 with
              | true =>
                go_wp2_with (first | (go_at_call 42; refine GC.out.mono ?_; rintro e w1 ⟨rfl, hb1⟩) | (go_at_call 74; (first | (with_reducible refine (P1.out _).mono ?_) | (with_reducible refine (P2.out _).mono ?_)); rintro e w1' ⟨rfl, rfl⟩) | (go_at_call 75; (first | (with_reducible refine (S1.out _).mono ?_) | (with_reducible refine (S2.out _).mono ?_)); rintro e w1' ⟨rfl, rfl⟩))
                go_ret2
                exact ⟨by rw [HQ.out, if_neg (by simp), if_pos (by simp)]; rfl, hb1⟩
              | false =>
                go_wp2_with (first | (go_at_call 42; refine GC.out.mono ?_; rintro e w1 ⟨rfl, hb1⟩) | (go_at_call 74; (first | (with_reducible refine (P1.out _).mono ?_) | (with_reducible refine (P2.out _).mono ?_)); rintro e w1' ⟨rfl, rfl⟩) | (go_at_call 75; (first | (with_reducible refine (S1.out _).mono ?_) | (with_reducible refine (S2.out _).mono ?_)); rintro e w1' ⟨rfl, rfl⟩))
                go_ret2
                exact ⟨by rw [HQ.out, if_neg (by simp), if_neg (by simp)]; simp only [penRes]; rw [← HM.out]; rfl, hb1⟩

end Go.Proofs.YthfkldheflmlmaaDoor
