/- A page matched with itself (rectolaw20.MatchSelf): its contract. -/
import Derived.Test.YtdlenbkkcpcbmaaLinesW
import Derived.Test.YtdlenbkkcpcbmaaPagesW
namespace Go.Proofs.Ytdlenbkkcpcbmaa
open Go.RowKit Go.Lib

set_option maxRecDepth 100000 in
set_option maxHeartbeats 4000000 in
theorem self_calls (l : List NodeT) (w : World) (K : Option Addr) (c : Nat) (hl : NodesIn w K 0 l) :
    Calls Try.prog 3 #[.slice K l.length c] w fun e w' => e = .returned (.bool true) ∧ Below w.heap.size w w' := by
  have LC := Lib.hid (large_calls w K c l hl)
  cases hg : (largeL l 250 1).1 with
  | true =>
    rw [hg] at LC
    clear hl hg
    go_enter Try.func3, Try.ntmps3
    go_wp2_with (first
      | (go_at_call 6; (with_reducible refine LC.out.mono ?_); rintro e w1 ⟨rfl, hb1⟩; have HB1 := Lib.hid hb1; clear hb1)
      | (go_at_call 7; (with_reducible refine (lines_calls _).mono ?_); rintro e w2 ⟨rfl, hb2⟩; have HB2 := Lib.hid (below_then HB1.out HB1.out.size hb2); clear hb2))
    go_ret
    exact ⟨rfl, HB2.out⟩
  | false =>
    obtain ⟨hct, hok⟩ := large_false hg
    rw [hg] at LC
    have HL := Lib.hid hl
    have PC := Lib.hid (fun W h => pages_calls l l (by omega) (by omega) hok hok W K K c c h h)
    have RC := Lib.hid (fun W h => rcount_calls (countL l) l (Nat.le_refl _) (by omega) W K c h)
    have rl := runP_len (countL l) 0 0
    have RA := Lib.hid (runP_at (countL l) 0 0)
    rw [pages_self] at PC
    obtain ⟨ps, hps⟩ : ∃ ps, runP 0 0 (countL l) = ps := ⟨_, rfl⟩
    obtain ⟨n, hn⟩ : ∃ n, countL l = n := ⟨_, rfl⟩
    rw [hps] at PC rl RA
    rw [hn] at RC rl RA hct
    have hpl : ps.length ≤ 250 := by omega
    have RL := Lib.hid rl
    clear hl hg hok hps hn rl
    go_enter Try.func3, Try.ntmps3
    go_wp2_with (first
      | (go_at_call 6; (with_reducible refine LC.out.mono ?_); rintro e w1 ⟨rfl, hb1⟩; have HB1 := Lib.hid hb1; clear hb1)
      | (go_at_call 8; (with_reducible refine (PC.out _ (NodesIn.below HB1.out HL.out)).mono ?_); rintro e w2 ⟨A, d, rfl, hat, hb2⟩; have HB2 := Lib.hid (below_then HB1.out HB1.out.size hb2); have HAT := Lib.hid hat; clear hb2 hat))
    go_loopw [14] (fun i wr => ∃ k : Nat, k ≤ ps.length ∧ i = .int .i64 k ∧ Below w2.heap.size w2 wr) (fun i _ => ps.length - (RowKit.intOf i).toNat)
    case atStart => exact ⟨0, Nat.zero_le _, rfl, Below.refl _ _⟩
    case round =>
      obtain ⟨k, hk, rfl, hBr⟩ := hrel
      by_cases hlt : k < ps.length
      · have hp := RA.out k (by have := RL.out; omega)
        rw [Nat.zero_add] at hp
        obtain ⟨g, hA, hcs⟩ := HAT.out (by omega)
        obtain ⟨c0, c1, c2⟩ := pairs_at hcs hp
        replace c0 := (hBr.cell (World.block_lt_of_cell? _ _ c0)).trans c0
        replace c1 := (hBr.cell (World.block_lt_of_cell? _ _ c1)).trans c1
        replace c2 := (hBr.cell (World.block_lt_of_cell? _ _ c2)).trans c2
        subst hA
        have g1 : (k : Int) < (ps.length : Nat) := by omega
        have HBR := Lib.hid hBr
        clear hBr hcs hp
        go_wp2
        refine ⟨⟨k + 1, by omega, by simp, HBR.out.alloc HBR.out.size _⟩, ?_⟩
        simp only [RowKit.intOf]
        omega
      · obtain rfl : k = ps.length := by omega
        have HBR := Lib.hid (below_then HB2.out HB2.out.size hBr)
        clear hBr hlt hk
        go_wp2_with (first
          | (go_at_call 9; (with_reducible refine (RC.out _ (NodesIn.below HBR.out HL.out)).mono ?_); rintro e w3 ⟨rfl, hb3⟩; have HB3 := Lib.hid (below_then HBR.out HBR.out.size hb3); clear hb3; have h99 := RL.out)
          | (go_at_call 7; (with_reducible refine (lines_calls _).mono ?_); rintro e w4 ⟨rfl, hb4⟩; have HB4 := Lib.hid (below_then HB3.out HB3.out.size hb4); clear hb4))
        go_ret
        exact ⟨rfl, HB4.out⟩

end Go.Proofs.Ytdlenbkkcpcbmaa
