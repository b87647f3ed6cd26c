/- The small case of the laws on pens: link. -/
import Derived.Test.YthfkldheflmlmaaGreatDoorPenE
namespace Go.Proofs.YthfkldheflmlmaaGreatDoor
open Go.RowKit Go.Sort Go.BigFrame

def linkL : List AttrT := [([104, 114, 101, 102], [120, 34, 121])]
theorem link_ok : openOK [97] linkL := by
  refine ⟨by decide +kernel, ?_, ?_, by decide⟩
  · intro a ha
    rw [List.mem_singleton.1 ha]
    decide +kernel
  · intro i hi k hk
    have : i < 1 := hi
    omega
theorem link_text : mkS (openText [97] linkL) = ⟨#[60, 97, 32, 104, 114, 101, 102, 61, 34, 120, 38, 113, 117, 111, 116, 59, 121, 34, 62]⟩ := by kernel_rfl
theorem link_note1 : penRes (penNoteL [97, 45, 45]) = #[.string ⟨#[]⟩, .int .i64 4] := by kernel_rfl
theorem link_note2 : penRes (penNoteL [98]) = #[.string ⟨#[60, 33, 45, 45, 98, 45, 45, 62]⟩, .int .i64 0] := by kernel_rfl
theorem link_name : nameL [104, 49] = true := by decide +kernel
theorem link_good : goodL [195, 169] = true := by decide +kernel

set_option maxRecDepth 100000 in
set_option maxHeartbeats 2000000 in
theorem link_calls (w : World) (ht : Tab w) : Calls Tryz.prog 10 #[] w fun e w' => e = .returned (.bool true) ∧ Below w.heap.size w w' := by
  have HT := Lib.hid ht
  have hb0 : Below w.heap.size w (w.alloc (.cells #[.string ⟨#[104, 114, 101, 102]⟩, .string ⟨#[120, 34, 121]⟩] 48)) := (Below.refl _ _).alloc (Nat.le_refl _) _
  have hR := blk_new w #[.string ⟨#[104, 114, 101, 102]⟩, .string ⟨#[120, 34, 121]⟩] 48
  have hat : AttrsAt (w.alloc (.cells #[.string ⟨#[104, 114, 101, 102]⟩, .string ⟨#[120, 34, 121]⟩] 48)) (some ⟨w.heap.size, 0, none⟩) linkL := fun _ => ⟨_, rfl, fun j u hu => by
    match j, hu with
    | 0, hu => rw [← hu]; exact blk_cell hR 0
    | 1, hu => rw [← hu]; exact blk_cell hR 1
    | j + 2, hu => simp [attrCells, linkL] at hu⟩
  have OC : Hid (Calls Tryz.prog 16 #[.string ⟨#[97]⟩, .slice (some ⟨w.heap.size, 0, none⟩) 1 1] (w.alloc (.cells #[.string ⟨#[104, 114, 101, 102]⟩, .string ⟨#[120, 34, 121]⟩] 48)) fun e w' => e = .returned (.tuple #[.string ⟨#[60, 97, 32, 104, 114, 101, 102, 61, 34, 120, 38, 113, 117, 111, 116, 59, 121, 34, 62]⟩, .int .i64 0]) ∧ Below (w.alloc (.cells #[.string ⟨#[104, 114, 101, 102]⟩, .string ⟨#[120, 34, 121]⟩] 48)).heap.size (w.alloc (.cells #[.string ⟨#[104, 114, 101, 102]⟩, .string ⟨#[120, 34, 121]⟩] 48)) w') :=
    Lib.hid ((open_calls _ ⟨#[97]⟩ _ 1 linkL hat (ht.below hb0) (by decide) (by intro a ha; rw [List.mem_singleton.1 ha]; decide)).mono fun e w' ⟨r, he, hb, hc⟩ => by
      rcases hc with ⟨_, hr⟩ | ⟨hno, _⟩
      · exact ⟨by rw [he, hr]; rw [show (⟨#[97]⟩ : ByteArray).data.toList = [97] from rfl, link_text], hb⟩
      · exact absurd link_ok hno)
  have N1 := fun W h => pen_note_calls W ⟨#[97, 45, 45]⟩ h (by decide)
  have N2 := fun W h => pen_note_calls W ⟨#[98]⟩ h (by decide)
  rw [show (⟨#[97, 45, 45]⟩ : ByteArray).data.toList = [97, 45, 45] from rfl, link_note1] at N1
  rw [show (⟨#[98]⟩ : ByteArray).data.toList = [98] from rfl, link_note2] at N2
  have NC := fun W => name_calls W ⟨#[104, 49]⟩
  rw [show (⟨#[104, 49]⟩ : ByteArray).data.toList = [104, 49] from rfl, link_name] at NC
  have GC := fun W h => good_calls W ⟨#[195, 169]⟩ h (by decide)
  rw [show (⟨#[195, 169]⟩ : ByteArray).data.toList = [195, 169] from rfl, link_good] at GC
  have N1 := Lib.hid N1
  have N2 := Lib.hid N2
  have NC := Lib.hid NC
  have GC := Lib.hid GC
  clear hR hat ht
  go_enter Tryz.func10, Tryz.ntmps10
  go_upto_region 2 with (go_at_call 16; refine OC.out.mono ?_; rintro e w1 ⟨rfl, hb1⟩; have hb1' := below_then hb0 hb0.size hb1)
  go_upto_region 3 with (go_at_call 11; refine (N1.out _ (HT.out.below hb1')).mono ?_; rintro e w2 ⟨rfl, hb2⟩; have hb2' := below_then hb1' hb1'.size hb2)
  go_upto_region 4 with (go_at_call 11; refine (N2.out _ (HT.out.below hb2')).mono ?_; rintro e w3 ⟨rfl, hb3⟩; have hb3' := below_then hb2' hb2'.size hb3)
  go_wp2_with (first | (go_at_call 17; refine (NC.out _).mono ?_; rintro e w4 ⟨rfl, rfl⟩) | (go_at_call 18; refine (GC.out _ (HT.out.below hb3').1.1).mono ?_; rintro e w5 ⟨rfl, hb5⟩))
  go_ret
  exact ⟨rfl, below_then hb3' hb3'.size hb5⟩

end Go.Proofs.YthfkldheflmlmaaGreatDoor
