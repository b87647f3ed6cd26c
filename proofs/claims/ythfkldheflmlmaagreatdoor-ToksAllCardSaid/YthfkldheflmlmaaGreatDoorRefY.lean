/- The next token from any place on, as the reference has it. -/
import Derived.Test.YthfkldheflmlmaaGreatDoorRefX
namespace Go.Proofs.YthfkldheflmlmaaGreatDoor
open Go.RowKit Go.Lib

def NextQ (w : World) (t : TokM) (x : Int) (e : Ending) (w' : World) : Prop := ∃ (v : Value) (n : Nat), e = .returned v ∧ x = (n : Int) ∧ GotV w' w.heap.size t n v ∧ Below w.heap.size w w'
set_option maxRecDepth 100000 in
set_option maxHeartbeats 4000000 in
theorem rnextR_calls (w : World) (s last : ByteArray) (p mk : Int) (cd : Bool) (hs : s.size ≤ 1000000) (hl : last.size ≤ 1000000) :
    Calls Tryz.prog 13 #[.string s, .int .i64 p, .agg #[.int .i64 mk, .string last, .bool cd]] w (NextQ w (nextL s.data.toList p mk last.data.toList cd).1 (nextL s.data.toList p mk last.data.toList cd).2) := by
  by_cases hp : p < 0 ∨ (s.size : Int) ≤ p
  · have hx : nextL s.data.toList p mk last.data.toList cd = (zeroTok, (s.size : Int)) := by rw [nextL, len_toL, if_pos hp]
    rw [hx]
    have hM := blk_alloc (blk_new w #[.int .i64 mk, .string last, .bool cd] 44) (.cells #[.int .i64 0, .string ⟨#[]⟩, .slice none 0 0, .bool false, .string ⟨#[]⟩, .int .i64 0] 42)
    have hR := blk_new (w.alloc (.cells #[.int .i64 mk, .string last, .bool cd] 44)) #[.int .i64 0, .string ⟨#[]⟩, .slice none 0 0, .bool false, .string ⟨#[]⟩, .int .i64 0] 42
    rw [show (w.alloc (.cells #[.int .i64 mk, .string last, .bool cd] 44)).heap.size = w.heap.size + 1 by simp] at hR
    have hb0 : Below w.heap.size w ((w.alloc (.cells #[.int .i64 mk, .string last, .bool cd] 44)).alloc (.cells #[.int .i64 0, .string ⟨#[]⟩, .slice none 0 0, .bool false, .string ⟨#[]⟩, .int .i64 0] 42)) := ((Below.refl _ _).alloc (Nat.le_refl _) _).alloc (by simp) _
    clear hx
    by_cases h0 : p < 0
    all_goals
      try have hge : (s.size : Int) ≤ p := by omega
      go_enter Tryz.func13, Tryz.ntmps13
      go_upto_region 1 with fail
      generalize (w.alloc (.cells #[.int .i64 mk, .string last, .bool cd] 44)).alloc (.cells #[.int .i64 0, .string ⟨#[]⟩, .slice none 0 0, .bool false, .string ⟨#[]⟩, .int .i64 0] 42) = w0 at *
      have r0 := blk_cell hR 0
      have r1 := blk_cell hR 1
      have r2 := blk_cell hR 2
      have r3 := blk_cell hR 3
      have r4 := blk_cell hR 4
      have r5 := blk_cell hR 5
      have f0 := blk_frozen hR 0
      have f1 := blk_frozen hR 1
      have f2 := blk_frozen hR 2
      have f3 := blk_frozen hR 3
      have f4 := blk_frozen hR 4
      have f5 := blk_frozen hR 5
      have lr := blk_lt hR
      go_wp2
      refine bodyPost_ret (v := .agg #[.int .i64 0, .string ⟨#[]⟩, .slice none 0 0, .bool false, .string ⟨#[]⟩, .int .i64 (s.size : Int)]) ?_ rfl (show NextQ _ _ _ _ _ from ⟨_, s.size, rfl, rfl, GotV.of rfl (zero_owns _ _ _ _) rfl, (((((hb0.setCell (Nat.le_succ _) _).setCell (Nat.le_succ _) _).setCell (Nat.le_succ _) _).setCell (Nat.le_succ _) _).setCell (Nat.le_succ _) _).setCell (Nat.le_succ _) _⟩)
      simp [results, Tryz.results13, go_sem, r0, r1, r2, r3, r4, r5]
  · obtain ⟨i, rfl⟩ : ∃ i : Nat, p = i := ⟨p.toNat, by omega⟩
    have hi : i < s.size := by omega
    have hx : nextL s.data.toList i mk last.data.toList cd = ((nextIn (s.data.toList.drop i) mk last.data.toList cd).1, (i : Int) + (nextIn (s.data.toList.drop i) mk last.data.toList cd).2) := by rw [nextL, len_toL, if_neg hp]; rfl
    rw [hx]
    have conv : ∀ (t : TokM) (n : Nat) (e : Ending) (w' : World), NextP w t (i + n) e w' → NextQ w t ((i : Int) + n) e w' := fun t n e w' ⟨v, h1, h2, h3⟩ => ⟨v, i + n, h1, by omega, h2, h3⟩
    by_cases h1 : mk = 1
    · subst h1
      exact (rnext_raw1 w s last cd i hi hs hl).mono (fun e w' h => conv _ _ e w' h)
    by_cases h2 : mk = 2
    · subst h2
      exact (rnext_raw2 w s last cd i hi hs hl).mono (fun e w' h => conv _ _ e w' h)
    have hd : nextIn (s.data.toList.drop i) mk last.data.toList cd = dataL cd (s.data.toList.drop i) := by rw [nextIn, if_pos ⟨h1, h2⟩]
    rw [hd]
    exact (rnext_data s last mk cd (beq_eq_false_iff_ne.2 h1) (beq_eq_false_iff_ne.2 h2) hs s.size w i hi (by omega)).mono (fun e w' h => conv _ _ e w' h)

end Go.Proofs.YthfkldheflmlmaaGreatDoor
