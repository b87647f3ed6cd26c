/- Walk of the law PenNotesBack. -/
import Derived.Test.YthfkldheflmlmaaGreatDoorNotesL
namespace Go.Proofs.YthfkldheflmlmaaGreatDoor
open Go.RowKit Go.Sort Go.BigFrame

theorem note_out {w : World} {B : Nat} {l : List UInt8} {v : Value} (h : TokV w B (noteT l) v) : ∃ A c, v = .agg #[.int .i64 4, .string ⟨#[]⟩, .slice A 0 c, .bool false, .string (mkS l)] := by
  obtain ⟨A, c, e, _⟩ := h.slice
  exact ⟨A, c, e⟩
set_option maxRecDepth 100000 in
set_option maxHeartbeats 4000000 in
theorem notes_back_calls (w : World) (s behind : ByteArray) (ht : Tab w) :
    Calls Tryz.prog 4 #[.string s, .string behind] w fun e w' => e = .returned (.bool true) ∧ Below w.heap.size w w' := by
  have LK := Lib.hid (fun W (h : Tab W) => link_calls W h)
  have HT := Lib.hid ht
  by_cases h1 : (1500 : Int) < s.size
  · clear ht
    go_enter Tryz.func4, Tryz.ntmps4
    go_wp2_with (go_at_call 10; refine (LK.out _ HT.out).mono ?_; rintro e w1 ⟨rfl, hb1⟩)
    go_ret
    exact ⟨rfl, hb1⟩
  by_cases h2 : (500 : Int) < behind.size
  · clear ht
    go_enter Tryz.func4, Tryz.ntmps4
    go_wp2_with (go_at_call 10; refine (LK.out _ HT.out).mono ?_; rintro e w1 ⟨rfl, hb1⟩)
    go_ret
    exact ⟨rfl, hb1⟩
  have NC := pen_note_calls w s ht (by omega)
  clear ht
  cases hp : penNoteL s.data.toList with
  | none =>
    rw [hp] at NC
    simp only [penRes] at NC
    have NC := Lib.hid NC
    clear hp
    go_enter Tryz.func4, Tryz.ntmps4
    go_wp2_with (first | (go_at_call 11; refine NC.out.mono ?_; rintro e w1 ⟨rfl, hb1⟩) | (go_at_call 10; refine (LK.out _ (HT.out.below hb1)).mono ?_; rintro e w2 ⟨rfl, hb2⟩))
    go_ret
    exact ⟨rfl, below_then hb1 hb1.size hb2⟩
  | some l =>
    rw [hp] at NC
    simp only [penRes] at NC
    obtain ⟨x, hx⟩ : ∃ x, x = mkS l := ⟨_, rfl⟩
    have hxl : x.data.toList = l := by rw [hx, of_mkS]
    rw [← hx] at NC
    have NC := Lib.hid NC
    have hN : NoteX x s := note_x (by rw [hp, hxl]) (by omega)
    have hz := hN.size
    have B := note_back hp behind.data.toList
    rw [← hxl, len_toL] at B
    have hxb : (x ++ behind).data.toList = x.data.toList ++ behind.data.toList := by simp [ByteArray.data_append]
    rw [← hxb] at B
    have hzb : (x ++ behind).size = x.size + behind.size := ByteArray.size_append
    have N1 := fun W h => next_calls W (x ++ behind) ⟨#[]⟩ 0 0 false h (by omega) (by decide)
    rw [show (⟨#[]⟩ : ByteArray).data.toList = [] from rfl, B] at N1
    have N1 := Lib.hid N1
    have RN := fun W => rnext_calls W x s hN
    unfold gotV at RN
    have RN := Lib.hid RN
    have n1 : ¬ 9223372036854775807 < x.size + behind.size := by omega
    have hss : mkS s.data.toList = s := mkS_of s
    clear hp hx hxl hN hz B hxb hzb
    go_enter Tryz.func4, Tryz.ntmps4
    go_upto_region 6 with (go_at_call 11; refine NC.out.mono ?_; rintro e w1 ⟨rfl, hb1⟩)
    go_upto_region 7 with (go_at_call 12; refine (N1.out _ (HT.out.below hb1)).mono ?_; rintro e w3 ⟨v3, rfl, hv3, hb3⟩; obtain ⟨A3, c3, rfl⟩ := note_out hv3)
    have hb3' := below_then hb1 hb1.size hb3
    have hR3 := blk_new w3 #[.int .i64 4, .string ⟨#[]⟩, .slice A3 0 c3, .bool false, .string s] 30
    have hb4 := hb3'.alloc hb3'.size (.cells #[.int .i64 4, .string ⟨#[]⟩, .slice A3 0 c3, .bool false, .string s] 30)
    generalize w3.alloc (.cells #[.int .i64 4, .string ⟨#[]⟩, .slice A3 0 c3, .bool false, .string s] 30) = w4 at *
    generalize w3.heap.size = R at *
    go_upto_region 8 with (go_at_call 13; refine (RN.out _).mono ?_; rintro e w5 ⟨rfl, hb5⟩)
    have hb5' := below_then hb4 hb4.size hb5
    have hR5 := blk_alloc ((hb5.block _ (blk_lt hR3)).trans hR3) (.cells #[.int .i64 4, .string ⟨#[]⟩, .slice none 0 0, .bool false, .string s, .int .i64 x.size] 42)
    have hG5 := blk_new w5 #[.int .i64 4, .string ⟨#[]⟩, .slice none 0 0, .bool false, .string s, .int .i64 x.size] 42
    have hb6 := hb5'.alloc hb5'.size (.cells #[.int .i64 4, .string ⟨#[]⟩, .slice none 0 0, .bool false, .string s, .int .i64 x.size] 42)
    generalize w5.alloc (.cells #[.int .i64 4, .string ⟨#[]⟩, .slice none 0 0, .bool false, .string s, .int .i64 x.size] 42) = w6 at *
    generalize w5.heap.size = G at *
    have k0 := blk_cell hR5 0
    have k4 := blk_cell hR5 4
    have g0 := blk_cell hG5 0
    have g4 := blk_cell hG5 4
    go_wp2_with (go_at_call 10; refine (LK.out _ (HT.out.below hb6)).mono ?_; rintro e w9 ⟨rfl, hb9⟩)
    go_ret
    exact ⟨rfl, below_then hb6 hb6.size hb9⟩

end Go.Proofs.YthfkldheflmlmaaGreatDoor
