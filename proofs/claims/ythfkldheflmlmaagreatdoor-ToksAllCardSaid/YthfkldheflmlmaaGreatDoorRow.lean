/- From a row's premise (the tables that it lists; the world's shape) to the facts that the walks ask. -/
import Derived.Test.YthfkldheflmlmaaGreatDoorRows
import Derived.Test.YthfkldheflmlmaaGreatDoorTag
import Derived.DeepKeys2
import Derived.MapViews
import Derived.MakeChecks
namespace Go.Proofs.YthfkldheflmlmaaGreatDoor
open Go.RowKit

theorem laid_var {P : Program} {W : World} : ∀ {laid : List (String × DataW Unit)} {ps : List MemPlace} {n : String} {d : DataW Unit}, DataW.LaidVars P W laid ps → (n, d) ∈ laid →
    ∃ g t cs fuel p, P.globalNamed n = some g ∧ (P.globals[g]?).map (·.type) = some t ∧ W.var? P n = some cs ∧ DataW.trod (fun _ => ()) P W 0 (fun _ => true) false fuel t cs.toList = some (d, p)
  | [], _, _, _, _, h => by cases h
  | (n', d') :: r, ps, n, d, h, hm => by
    obtain ⟨g, t, cs, fuel, p, q, hg, ht, hv, hd, hr, _⟩ := h
    rcases List.mem_cons.1 hm with e | e
    · cases e
      exact ⟨g, t, cs, fuel, p, hg, ht, hv, hd⟩
    · exact laid_var hr e
theorem glob_of {W : World} {laid : List (String × DataW Unit)} {n : String} {d : DataW Unit} {g : Nat} {t : TypeId} (m : Nat) (h : laidMetH Tryz.prog laid W) (hh : (laid.all fun x => x.2.handleName?.isNone) = true) (hm : (n, d) ∈ laid)
    (hg : Tryz.prog.globalNamed n = some g) (ht : (Tryz.prog.globals[g]?).map (·.type) = some t) (hk : Tryz.prog.keyTypeAt m t = true) (hl : Tryz.prog.tiled m t = true) : Glob W g (d.flat.map Lit.toCell).toArray := by
  rw [Go.MakeChecks.laidMetH_plain _ _ _ hh] at h
  obtain ⟨ps, hv, _⟩ := h
  obtain ⟨g', t', cs, fuel, p, hg', ht', hvar, hd⟩ := laid_var hv hm
  obtain rfl := Option.some.inj (hg.symm.trans hg')
  obtain rfl := Option.some.inj (ht.symm.trans ht')
  have hc := cells_of_lits m t hl m cs.toList _ (keyLits_of_trod m t hk fuel _ _ hd).1
  simp only at hc
  rw [← hc]
  rw [World.var?, hg] at hvar
  simp only [Option.bind_some] at hvar
  split at hvar
  · rename_i c ty fr he
    obtain rfl := Option.some.inj hvar
    exact ⟨ty, fr, he⟩
  · cases hvar
theorem gRows : Tryz.prog.globalNamed "recto/utf.rows" = some 0 := by kernel_rfl
theorem gRefs : Tryz.prog.globalNamed "recto/refs.refs" = some 2 := by kernel_rfl
theorem gTurns : Tryz.prog.globalNamed "recto/refs.turns" = some 3 := by kernel_rfl
theorem tab_of {W : World} {laid : List (String × DataW Unit)} (h : laidMetH Tryz.prog laid W) (hh : (laid.all fun x => x.2.handleName?.isNone) = true)
    (h1 : ("recto/utf.rows", Rows.laid_recto_utf_rows) ∈ laid) (h2 : ("recto/refs.refs", Rows.laid_recto_refs_refs) ∈ laid) (h3 : ("recto/refs.turns", Rows.laid_recto_refs_turns) ∈ laid) (hS : W.ShapedOpen Tryz.prog) : Tab W := by
  have g1 := glob_of 4 h hh h1 gRows (t := 121) (by kernel_rfl) (by kernel_rfl) (by kernel_rfl)
  have g2 := glob_of 4 h hh h2 gRefs (t := 127) (by kernel_rfl) (by kernel_rfl) (by kernel_rfl)
  have g3 := glob_of 4 h hh h3 gTurns (t := 140) (by kernel_rfl) (by kernel_rfl) (by kernel_rfl)
  have e1 : ((Rows.laid_recto_utf_rows : DataW Unit).flat.map Lit.toCell).toArray = #[.int .i64 0, .int .i64 0, .int .i64 0, .int .i64 0, .int .i64 192, .int .i64 128, .int .i64 224, .int .i64 2048, .int .i64 240, .int .i64 65536] := by kernel_rfl
  have e2 : ((Rows.laid_recto_refs_refs : DataW Unit).flat.map Lit.toCell).toArray = refsCells := by kernel_rfl
  have e3 : ((Rows.laid_recto_refs_turns : DataW Unit).flat.map Lit.toCell).toArray = turnsCells := by kernel_rfl
  rw [e1] at g1
  rw [e2] at g2
  rw [e3] at g3
  refine ⟨⟨fun j hj => ?_, g3, g2⟩, ?_⟩
  · obtain ⟨t, fr, hb⟩ := g1
    rw [cell_of_row W _ j _ t fr hb]
    match j, hj with
    | 0, _ | 1, _ | 2, _ | 3, _ | 4, _ | 5, _ | 6, _ | 7, _ | 8, _ | 9, _ => rfl
  · exact Tryz.laysM143.s1_3 W hS

/-- A world for a row's witness: the settled one, with the tables laid. -/
def layCells (h : Array Obj) (g : Nat) (cs : Array Value) : Array Obj := h.modify g fun
  | .cells _ t frozen => .cells cs t frozen
  | o => o
noncomputable def laidWorld (os : Os) : World :=
  { World.holding Tryz.prog os ⟨#[], #[], []⟩ with heap := layCells (layCells (layCells (World.holding Tryz.prog os ⟨#[], #[], []⟩).heap 0 #[.int .i64 0, .int .i64 0, .int .i64 0, .int .i64 0, .int .i64 192, .int .i64 128, .int .i64 224, .int .i64 2048, .int .i64 240, .int .i64 65536]) 2 refsCells) 3 turnsCells }

end Go.Proofs.YthfkldheflmlmaaGreatDoor
