/- The small case of the laws on tokens: tags. -/
import Derived.Test.YthfkldheflmlmaaGreatDoorAll
namespace Go.Proofs.YthfkldheflmlmaaGreatDoor
open Go.RowKit

theorem own_toks {w : World} {B : Nat} {v : Value} {l : List (TokM × Value)} (h : ToksOwn w B v l) : ∃ A c, v = .slice A l.length c ∧ l.length ≤ c ∧ (0 < l.length → ∃ g, B ≤ g ∧ A = some ⟨g, 0, none⟩ ∧ ∀ j u, (tokCells l)[j]? = some u → w.cell? ⟨g, j, none⟩ = some u) := by
  have h := h.1
  rcases Nat.eq_zero_or_pos l.length with h0 | h0
  · rcases h.2 with ⟨rfl, _⟩ | ⟨g, cap, cur, rfl, _, _, hle, _⟩
    · exact ⟨none, 0, by rw [h0], by omega, fun hp => by omega⟩
    · exact ⟨_, cap, rfl, hle, fun hp => by omega⟩
  · rcases h.2 with ⟨_, h1⟩ | ⟨g, cap, cur, rfl, hg, _, hle, _⟩
    · omega
    · refine ⟨_, cap, rfl, hle, fun _ => ⟨g, hg, rfl, fun j u hu => ?_⟩⟩
      have := h.cells (g := g) rfl j u hu
      rcases Nat.eq_zero_or_pos j with rfl | hj
      · simpa [Addr.add] using this
      · simpa [Addr.add, Nat.ne_of_gt hj] using this

def tagsB : List UInt8 := [60, 65, 32, 98, 61, 49, 32, 66, 61, 39, 50, 39, 32, 99, 47, 62, 120, 60, 33, 45, 45, 62]
theorem toks_tags : toksL tagsB = [⟨1, [97], [([98], [49]), ([99], [])], true, []⟩, ⟨3, [], [], false, [120]⟩, ⟨4, [], [], false, []⟩] := by kernel_rfl

theorem tags_out {w : World} {B : Nat} {v : Value} {l : List (TokM × Value)} (hO : ToksOwn w B v l) (hl : l.map (·.1) = toksL tagsB) : ∃ g c A0 c0, v = .slice (some ⟨g, 0, none⟩) 3 c ∧ w.cell? ⟨g, 1, none⟩ = some (.string ⟨#[97]⟩) ∧ w.cell? ⟨g, 2, none⟩ = some (.slice A0 2 c0) ∧
    w.cell? ⟨g, 3, none⟩ = some (.bool true) ∧ w.cell? ⟨g, 5, none⟩ = some (.int .i64 3) ∧ w.cell? ⟨g, 9, none⟩ = some (.string ⟨#[120]⟩) ∧ w.cell? ⟨g, 10, none⟩ = some (.int .i64 4) ∧ w.cell? ⟨g, 14, none⟩ = some (.string ⟨#[]⟩) := by
  rw [toks_tags] at hl
  obtain ⟨x0, l1, rfl, e0, hl⟩ := List.map_eq_cons_iff.1 hl
  obtain ⟨x1, l2, rfl, e1, hl⟩ := List.map_eq_cons_iff.1 hl
  obtain ⟨x2, l3, rfl, e2, hl⟩ := List.map_eq_cons_iff.1 hl
  obtain rfl := List.map_eq_nil_iff.1 hl
  obtain ⟨t0, v0⟩ := x0
  obtain ⟨t1, v1⟩ := x1
  obtain ⟨t2, v2⟩ := x2
  simp only at e0 e1 e2
  subst e0 e1 e2
  obtain ⟨A, c, rfl, hlc, hA⟩ := own_toks hO
  obtain ⟨g, _, rfl, hc⟩ := hA (by simp)
  obtain ⟨A0, c0, e, _, _⟩ := own_attrs (hO.2 _ (List.mem_cons_self ..))
  simp only at e
  subst e
  exact ⟨g, c, A0, c0, rfl, hc 1 _ rfl, hc 2 _ rfl, hc 3 _ rfl, hc 5 _ rfl, hc 9 _ rfl, hc 10 _ rfl, hc 14 _ rfl⟩

set_option maxRecDepth 100000 in
set_option maxHeartbeats 2000000 in
theorem tags_calls (w : World) (ht : Tab w) :
    Calls Tryz.prog 5 #[] w fun e w' => e = .returned (.bool true) ∧ Below w.heap.size w w' := by
  have TC := Lib.hid (all_tokens_calls w ⟨#[60, 65, 32, 98, 61, 49, 32, 66, 61, 39, 50, 39, 32, 99, 47, 62, 120, 60, 33, 45, 45, 62]⟩ ht (by decide))
  clear ht
  go_enter Tryz.func5, Tryz.ntmps5
  go_wp2_with (go_at_call 6; refine TC.out.mono ?_; rintro e w1 ⟨v, l, rfl, hO, hl, hb⟩; obtain ⟨g, c, A0, c0, rfl, k1, k2, k3, k5, k9, k10, k14⟩ := tags_out hO hl; clear hO hl)
  go_ret
  exact ⟨rfl, hb⟩

end Go.Proofs.YthfkldheflmlmaaGreatDoor
