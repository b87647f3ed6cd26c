/- Nodes: plain, and as they lie in memory. -/
import Derived.Test.YtdlenbkkcpcbmaaMBase
import Derived.ChangeSame
import Derived.Deep.Slices
import Derived.Deep.Fields
import Derived.ProofKit
import Derived.OpenShut
import Derived.WideShapes
namespace Go.Proofs.Ytdlenbkkcpcbmaa
open Go.RowKit Go.Lib Go.ChangeShapes Go.WideShapes

inductive NodeT where
  | mk (kind space : Int) (name : List UInt8) (attrs : List AttrT) (text : List UInt8) (kids : List NodeT)
instance : Inhabited NodeT := ⟨.mk 0 0 [] [] [] []⟩
def NodeT.kind : NodeT → Int | .mk k _ _ _ _ _ => k
def NodeT.space : NodeT → Int | .mk _ s _ _ _ _ => s
def NodeT.name : NodeT → List UInt8 | .mk _ _ n _ _ _ => n
def NodeT.attrs : NodeT → List AttrT | .mk _ _ _ a _ _ => a
def NodeT.text : NodeT → List UInt8 | .mk _ _ _ _ t _ => t
def NodeT.kids : NodeT → List NodeT | .mk _ _ _ _ _ l => l
/-- A number of 64 bits. -/
structure I64 (k : Int) : Prop where
  lo : -9223372036854775808 ≤ k
  hi : k ≤ 9223372036854775807
theorem I64.of {k : Int} (h : (Lit.int .i64 k).wf = true) : I64 k := by
  simp only [Lit.wf, Bool.and_eq_true, decide_eq_true_eq] at h
  exact ⟨h.1, h.2⟩
mutual
/-- A node whose six cells are told. -/
def NodeIn (w : World) (cs : Nat → Option Value) : NodeT → Prop
  | .mk k s n ats t ks => (I64 k ∧ I64 s) ∧ cs 0 = some (.int .i64 k) ∧ cs 1 = some (.int .i64 s) ∧ cs 2 = some (.string (mkS n)) ∧ (∃ A c, cs 3 = some (.slice A ats.length c) ∧ AttrsAt w A ats) ∧
      cs 4 = some (.string (mkS t)) ∧ ∃ K c, cs 5 = some (.slice K ks.length c) ∧ NodesIn w K 0 ks
/-- Nodes that lie in a row, from a place of it on. -/
def NodesIn (w : World) (K : Option Addr) (j : Nat) : List NodeT → Prop
  | [] => True
  | n :: l => (∃ ad, K = some ad ∧ NodeIn w (fun f => w.cell? (ad.add (j * 6 + f))) n) ∧ NodesIn w K (j + 1) l
end
mutual
theorem NodeIn.below {w w' : World} (hb : Below w.heap.size w w') {cs cs' : Nat → Option Value} (hc : ∀ f v, cs f = some v → cs' f = some v) : ∀ {n : NodeT}, NodeIn w cs n → NodeIn w' cs' n
  | .mk k s n ats t ks, h => by
    obtain ⟨hr, h0, h1, h2, ⟨A, c, h3, ha⟩, h4, K, d, h5, hk⟩ := h
    exact ⟨hr, hc _ _ h0, hc _ _ h1, hc _ _ h2, ⟨A, c, hc _ _ h3, ha.below hb⟩, hc _ _ h4, K, d, hc _ _ h5, NodesIn.below hb hk⟩
theorem NodesIn.below {w w' : World} (hb : Below w.heap.size w w') {K : Option Addr} {j : Nat} : ∀ {l : List NodeT}, NodesIn w K j l → NodesIn w' K j l
  | [], _ => trivial
  | n :: l, h => by
    obtain ⟨⟨ad, e, hn⟩, hl⟩ := h
    exact ⟨⟨ad, e, NodeIn.below hb (fun f v hv => (hb.cell (World.block_lt_of_cell? w _ hv)).trans hv) hn⟩, NodesIn.below hb hl⟩
end
theorem NodesIn.get {w : World} {K : Option Addr} : ∀ {l : List NodeT} {j : Nat}, NodesIn w K j l → ∀ i n, l[i]? = some n → ∃ ad, K = some ad ∧ NodeIn w (fun f => w.cell? (ad.add ((j + i) * 6 + f))) n
  | [], _, _, i, n, h => by simp at h
  | m :: l, j, hn, 0, n, h => by
    simp only [List.getElem?_cons_zero, Option.some.injEq] at h
    subst h
    simpa using hn.1
  | m :: l, j, hn, i + 1, n, h => by
    have := NodesIn.get (l := l) (j := j + 1) hn.2 i n (by simpa using h)
    obtain ⟨ad, e, h'⟩ := this
    refine ⟨ad, e, ?_⟩
    have e2 : j + (i + 1) = j + 1 + i := by omega
    rw [e2]
    exact h'
theorem NodesIn.of {w : World} {K : Option Addr} (l : List NodeT) (j : Nat) (h : ∀ i n, l[i]? = some n → ∃ ad, K = some ad ∧ NodeIn w (fun f => w.cell? (ad.add ((j + i) * 6 + f))) n) : NodesIn w K j l := by
  induction l generalizing j with
  | nil => trivial
  | cons n l ih =>
    refine ⟨?_, ih (j + 1) (fun i m hm => ?_)⟩
    · simpa using h 0 n rfl
    · have := h (i + 1) m (by simpa using hm)
      rwa [show j + (i + 1) = j + 1 + i by omega] at this

set_option maxRecDepth 10000 in
theorem attrs_of_trod {H : Type} {enc : TypeId × Value → H} {W : World} {fuel : Nat} {cs : List Value} {x : DataW H × List MemPlace}
    (hf : DataW.trod enc Try.prog W 0 (fun _ => true) true fuel 42 cs = some x) : ∃ A c l, cs = [.slice A l.length c] ∧ AttrsAt W A l := by
  rcases Go.Deep.open_slice Try.underlying42 hf with ⟨hcs, _⟩ | ⟨a', len, cap, m, n, D, Pl, hcs, _, hl, _, hmm, _, hi⟩
  · exact ⟨none, 0, [], hcs, fun h => by simp at h⟩
  · have hmm' : m = cap := by simpa using hmm
    have hC : Try.prog.cellsOf 74 = 2 := by kernel_rfl
    have hs : Try.prog.cellsOf 9 = 1 := by kernel_rfl
    have key : ∀ i, i < len → ∃ x : AttrT, W.cell? (a'.add (i * 2)) = some (.string (mkS x.1)) ∧ W.cell? (a'.add (i * 2 + 1)) = some (.string (mkS x.2)) := fun i hil => by
      obtain ⟨cs', hc, ht⟩ := hi i (by omega)
      rw [hC] at hc
      obtain ⟨y0, y1, n', _, hlen, t0, t1⟩ := trod_struct2 Try.underlying74 ht
      obtain ⟨_, hcl, hat⟩ := World.cells?_some hc
      obtain ⟨s0, e0, -, -⟩ := DataW.trod_string Try.underlying9 t0
      obtain ⟨s1, e1, -, -⟩ := DataW.trod_string Try.underlying9 t1
      obtain ⟨u0, u1, rfl⟩ : ∃ u0 u1, cs' = [u0, u1] := by
        match cs', hcl with
        | [u0, u1], _ => exact ⟨u0, u1, rfl⟩
      have f0 : [u0] = [Value.string s0] := by rw [← e0]; simp [hs]
      have f1 : [u1] = [Value.string s1] := by rw [← e1]; simp [hs]
      obtain rfl : u0 = .string s0 := by simpa using f0
      obtain rfl : u1 = .string s1 := by simpa using f1
      refine ⟨(s0.data.toList, s1.data.toList), ?_, ?_⟩
      · have := hat 0 (by decide)
        rw [Go.Deep.add_add] at this
        simpa [mkS_of] using this
      · have := hat 1 (by decide)
        rw [Go.Deep.add_add] at this
        simpa [mkS_of] using this
    obtain ⟨V, hV⟩ := Go.Deep.choose_lt key
    refine ⟨some a', cap, (List.range len).map V, by rw [hcs]; simp, fun _ => ⟨a', rfl, fun j u hu => ?_⟩⟩
    have hlen : ((List.range len).map V).length = len := by simp
    have hj : j < len * 2 := by
      have := (List.getElem?_eq_some_iff.1 hu).1
      rw [attrCells_len, hlen] at this
      omega
    have hi2 : j / 2 < len := by omega
    obtain ⟨g0, g1⟩ := attrCells_at ((List.range len).map V) (j / 2) (by rw [hlen]; exact hi2)
    have hget : ((List.range len).map V).getD (j / 2) ([], []) = V (j / 2) := by
      rw [List.getD, List.getElem?_map, List.getElem?_range hi2]
      rfl
    rw [hget] at g0 g1
    obtain ⟨v0, v1⟩ := hV (j / 2) hi2
    rcases Nat.mod_two_eq_zero_or_one j with hm2 | hm2
    · have ej : j / 2 * 2 = j := by omega
      rw [ej] at g0 v0
      rw [g0] at hu
      rw [v0, ← hu]
    · have ej : j / 2 * 2 + 1 = j := by omega
      rw [ej] at g1 v1
      rw [g1] at hu
      rw [v1, ← hu]

theorem trod_struct6 {H : Type} {enc : TypeId × Value → H} {P : Program} {w : World} {base : Nat} {spare : Nat → Bool} {held : Bool} {t : TypeId} {f0 f1 f2 f3 f4 f5 : Field} {fuel : Nat} {cs : List Value} {x : DataW H × List MemPlace} (ht : P.underlying t = some (.struct #[f0, f1, f2, f3, f4, f5])) (h : DataW.trod enc P w base spare held fuel t cs = some x) :
    ∃ y0 y1 y2 y3 y4 y5 n, fuel = n + 1 ∧ cs.length = P.cellsOf t ∧ DataW.trod enc P w base spare held n f0.type ((cs.drop f0.offset).take (P.cellsOf f0.type)) = some y0 ∧ DataW.trod enc P w base spare held n f1.type ((cs.drop f1.offset).take (P.cellsOf f1.type)) = some y1 ∧
      DataW.trod enc P w base spare held n f2.type ((cs.drop f2.offset).take (P.cellsOf f2.type)) = some y2 ∧ DataW.trod enc P w base spare held n f3.type ((cs.drop f3.offset).take (P.cellsOf f3.type)) = some y3 ∧
      DataW.trod enc P w base spare held n f4.type ((cs.drop f4.offset).take (P.cellsOf f4.type)) = some y4 ∧ DataW.trod enc P w base spare held n f5.type ((cs.drop f5.offset).take (P.cellsOf f5.type)) = some y5 := by
  obtain ⟨xs, n, hfu, rfl, hl, hlen, hf⟩ := DataW.trod_struct ht h
  match xs, hlen with
  | [y0, y1, y2, y3, y4, y5], _ => exact ⟨y0, y1, y2, y3, y4, y5, n, hfu, hl, by simpa using hf 0 f0 rfl, by simpa using hf 1 f1 rfl, by simpa using hf 2 f2 rfl, by simpa using hf 3 f3 rfl, by simpa using hf 4 f4 rfl, by simpa using hf 5 f5 rfl⟩

set_option maxRecDepth 10000 in
theorem nodes_of_trod {H : Type} {enc : TypeId × Value → H} {W : World} : ∀ (N fuel : Nat), fuel ≤ N → ∀ {cs : List Value} {x : DataW H × List MemPlace},
    DataW.trod enc Try.prog W 0 (fun _ => true) true fuel 22 cs = some x → ∃ A c l, cs = [.slice A l.length c] ∧ NodesIn W A 0 l := by
  intro N
  induction N with
  | zero =>
    intro fuel hN cs x h
    rcases DataW.trod_slice Try.underlying22 h with ⟨hcs, _⟩ | ⟨a, len, cap, elems, rest, n, hfu, _⟩
    · exact ⟨none, 0, [], hcs, trivial⟩
    · omega
  | succ N ih =>
    intro fuel hN cs x h
    rcases DataW.trod_slice Try.underlying22 h with ⟨hcs, _⟩ | ⟨a, len, cap, elems, rest, n, hfu, hcs, _, _, _, _, hlen, hel, _, _⟩
    · exact ⟨none, 0, [], hcs, trivial⟩
    have hC : Try.prog.cellsOf 44 = 6 := by kernel_rfl
    have hs1 : Try.prog.cellsOf 9 = 1 := by kernel_rfl
    have hs2 : Try.prog.cellsOf 3 = 1 := by kernel_rfl
    have hs3 : Try.prog.cellsOf 42 = 1 := by kernel_rfl
    have hs4 : Try.prog.cellsOf 22 = 1 := by kernel_rfl
    have key : ∀ i, i < len → ∃ nd : NodeT, NodeIn W (fun f => W.cell? (a.add (i * 6 + f))) nd := fun i hil => by
      have hi := hel i hil
      rw [List.getElem?_eq_getElem (by omega)] at hi
      obtain ⟨cs', hc, ht⟩ := Option.bind_eq_some_iff.1 hi
      rw [hC] at hc
      obtain ⟨y0, y1, y2, y3, y4, y5, n', hn', hl6, t0, t1, t2, t3, t4, t5⟩ := trod_struct6 Try.underlying44 ht
      obtain ⟨_, hcl, hat⟩ := World.cells?_some hc
      obtain ⟨u0, u1, u2, u3, u4, u5, rfl⟩ : ∃ u0 u1 u2 u3 u4 u5, cs' = [u0, u1, u2, u3, u4, u5] := by
        match cs', hcl with
        | [u0, u1, u2, u3, u4, u5], _ => exact ⟨u0, u1, u2, u3, u4, u5, rfl⟩
      have c0 := hat 0 (by decide)
      have c1 := hat 1 (by decide)
      have c2 := hat 2 (by decide)
      have c3 := hat 3 (by decide)
      have c4 := hat 4 (by decide)
      have c5 := hat 5 (by decide)
      rw [Go.Deep.add_add] at c0 c1 c2 c3 c4 c5
      obtain ⟨k, e0, -, w0⟩ := DataW.trod_int Try.underlying3 t0
      obtain ⟨sp, e1, -, w1⟩ := DataW.trod_int Try.underlying3 t1
      obtain ⟨nm, e2, -, -⟩ := DataW.trod_string Try.underlying9 t2
      obtain ⟨A3, d3, ats, e3, hat3⟩ := attrs_of_trod t3
      obtain ⟨tx, e4, -, -⟩ := DataW.trod_string Try.underlying9 t4
      obtain ⟨K5, d5, ks, e5, hks⟩ := ih n' (by omega) t5
      have g0 : [u0] = [Value.int .i64 k] := by rw [← e0]; simp [hs2]
      have g1 : [u1] = [Value.int .i64 sp] := by rw [← e1]; simp [hs2]
      have g2 : [u2] = [Value.string nm] := by rw [← e2]; simp [hs1]
      have g3 : [u3] = [Value.slice A3 ats.length d3] := by rw [← e3]; simp [hs3]
      have g4 : [u4] = [Value.string tx] := by rw [← e4]; simp [hs1]
      have g5 : [u5] = [Value.slice K5 ks.length d5] := by rw [← e5]; simp [hs4]
      obtain rfl : u0 = .int .i64 k := by simpa using g0
      obtain rfl : u1 = .int .i64 sp := by simpa using g1
      obtain rfl : u2 = .string nm := by simpa using g2
      obtain rfl : u3 = .slice A3 ats.length d3 := by simpa using g3
      obtain rfl : u4 = .string tx := by simpa using g4
      obtain rfl : u5 = .slice K5 ks.length d5 := by simpa using g5
      exact ⟨.mk k sp nm.data.toList ats tx.data.toList ks, ⟨I64.of w0, I64.of w1⟩, c0, c1, c2, ⟨A3, d3, c3, hat3⟩, c4, K5, d5, c5, hks⟩
    obtain ⟨V, hV⟩ := Go.Deep.choose_lt key
    refine ⟨some a, cap, (List.range len).map V, by rw [hcs]; simp, NodesIn.of _ 0 (fun i nd hnd => ⟨a, rfl, ?_⟩)⟩
    have hil : i < len := by
      have := (List.getElem?_eq_some_iff.1 hnd).1
      simpa using this
    rw [List.getElem?_map, List.getElem?_range hil] at hnd
    obtain rfl : V i = nd := by simpa using hnd
    rw [Nat.zero_add]
    exact hV i hil
set_option maxRecDepth 10000 in
theorem open_nodes {H : Type} {enc : TypeId × Value → H} {W : World} {base : Nat} {v : Value} {d : DataW H} {p : List MemPlace} (hval : Value.okWide Try.prog W .any base 22 v)
    (h : DataW.Trod enc Try.prog W 0 (fun _ => true) true 22 v d p) : ∃ A c l, v = .slice A l.length c ∧ NodesIn W A 0 l := by
  obtain ⟨a, len, cap, rfl⟩ := okWide_slice Try.underlying22 hval
  obtain ⟨fuel, hf⟩ := h
  obtain ⟨A, c, l, hcs, hl⟩ := nodes_of_trod fuel fuel (Nat.le_refl _) hf
  simp [Value.cells] at hcs
  obtain ⟨rfl, rfl, rfl⟩ := hcs
  exact ⟨_, _, l, rfl, hl⟩

end Go.Proofs.Ytdlenbkkcpcbmaa
