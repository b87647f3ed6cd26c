/- The statements' fixed case (rectolaw20.lines) and their guard (rectolaw20.large): contracts. -/
import Derived.Test.YtdlenbkkcpcbmaaLine
import Derived.Test.YtdlenbkkcpcbmaaLarge
import Derived.Test.YtdlenbkkcpcbmaaSelfL
import Derived.Test.YtdlenbkkcpcbmaaListsW
namespace Go.Proofs.Ytdlenbkkcpcbmaa
open Go.RowKit Go.Lib

set_option maxRecDepth 100000 in
set_option maxHeartbeats 4000000 in
theorem lines_calls (w : World) : Calls Try.prog 7 #[] w fun e w' => e = .returned (.bool true) ∧ Below w.heap.size w w' := by
  have h0 := blk_alloc (blk_new w #[.string ⟨#[97]⟩, .string ⟨#[98]⟩, .string ⟨#[99]⟩] 9) (.cells #[.string ⟨#[98]⟩, .string ⟨#[120]⟩, .string ⟨#[99]⟩] 9)
  have h1 := blk_new (w.alloc (.cells #[.string ⟨#[97]⟩, .string ⟨#[98]⟩, .string ⟨#[99]⟩] 9)) #[.string ⟨#[98]⟩, .string ⟨#[120]⟩, .string ⟨#[99]⟩] 9
  have e1 : (w.alloc (.cells #[.string ⟨#[97]⟩, .string ⟨#[98]⟩, .string ⟨#[99]⟩] 9)).heap.size = w.heap.size + 1 := Array.size_push ..
  rw [e1] at h1
  have e2 : ((w.alloc (.cells #[.string ⟨#[97]⟩, .string ⟨#[98]⟩, .string ⟨#[99]⟩] 9)).alloc (.cells #[.string ⟨#[98]⟩, .string ⟨#[120]⟩, .string ⟨#[99]⟩] 9)).heap.size = w.heap.size + 2 := (Array.size_push ..).trans (congrArg (· + 1) e1)
  have hB : Below w.heap.size w ((w.alloc (.cells #[.string ⟨#[97]⟩, .string ⟨#[98]⟩, .string ⟨#[99]⟩] 9)).alloc (.cells #[.string ⟨#[98]⟩, .string ⟨#[120]⟩, .string ⟨#[99]⟩] 9)) := ((Below.refl _ _).alloc (Nat.le_refl _) _).alloc (by rw [e1]; omega) _
  have L := Lib.hid (line_calls lineA lineB (by decide) (by decide) ((w.alloc (.cells #[.string ⟨#[97]⟩, .string ⟨#[98]⟩, .string ⟨#[99]⟩] 9)).alloc (.cells #[.string ⟨#[98]⟩, .string ⟨#[120]⟩, .string ⟨#[99]⟩] 9)) (some ⟨w.heap.size, 0, none⟩) (some ⟨w.heap.size + 1, 0, none⟩) 3 3
    (fun _ => ⟨w.heap.size, rfl, fun j s hs => by
      rw [blk_cell h0 j]
      match j, hs with
      | 0, hs | 1, hs | 2, hs => cases hs; rfl
      | j + 3, hs => simp [lineA] at hs⟩)
    (fun _ => ⟨w.heap.size + 1, rfl, fun j s hs => by
      rw [blk_cell h1 j]
      match j, hs with
      | 0, hs | 1, hs | 2, hs => cases hs; rfl
      | j + 3, hs => simp [lineB] at hs⟩))
  rw [show lineA.length = 3 from rfl, show lineB.length = 3 from rfl, line_abc] at L
  have HB := Lib.hid hB
  clear h0 h1 e1 e2 hB
  go_enter Try.func7, Try.ntmps7
  go_wp2_with (go_at_call 19; (with_reducible refine L.out.mono ?_); rintro e w1 ⟨v, rfl, hp, hb⟩; obtain ⟨A, c, rfl⟩ := hp.val; obtain ⟨g, cap, eA, -⟩ := own_form hp (by decide); (injection eA with q1 q2 q3); subst q1 q3; have c0 := (own_cell hp 0 (.int .i64 1) rfl).1; have c1 := (own_cell hp 1 (.int .i64 0) rfl).1; have c2 := (own_cell hp 2 (.bool true) rfl).1; have c3 := (own_cell hp 3 (.int .i64 2) rfl).1; have c4 := (own_cell hp 4 (.int .i64 2) rfl).1; have c5 := (own_cell hp 5 (.bool true) rfl).1; have HB1 := Lib.hid (below_then HB.out HB.out.size hb); clear hp hb q2 L)
  go_ret
  exact ⟨rfl, HB1.out⟩

end Go.Proofs.Ytdlenbkkcpcbmaa
