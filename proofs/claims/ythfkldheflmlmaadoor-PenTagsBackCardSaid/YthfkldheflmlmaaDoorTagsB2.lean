/- rectoplain.Attrs of equal lists; the law's long; an argument that is a list of attributes. -/
import Derived.Test.YthfkldheflmlmaaDoorTagsB1
import Derived.Deep.Slices
import Derived.Deep.Fields
import Derived.ChangeSame
namespace Go.Proofs.YthfkldheflmlmaaDoor
open Go.RowKit Go.Sort Go.BigFrame

set_option maxRecDepth 100000 in
set_option maxHeartbeats 2000000 in
theorem attrs_same_calls (w : World) (A1 A2 : Option Addr) (c1 c2 : Nat) (l : List AttrT) (h1 : AttrsAt w A1 l) (h2 : AttrsAt w A2 l) (hz : l.length ≤ 1000000) :
    Calls Tryd.prog 23 #[.slice A1 l.length c1, .slice A2 l.length c2] w fun e w' => e = .returned (.bool true) ∧ Below w.heap.size w w' := by
  have H1 := Lib.hid h1
  have H2 := Lib.hid h2
  clear h1 h2
  go_enter Tryd.func23, Tryd.ntmps23
  go_wp2
  go_loopw [8] (fun i wr => ∃ k : Nat, k ≤ l.length ∧ i = .int .i64 k ∧ Below w.heap.size w wr) (fun i _ => l.length - (intOf i).toNat)
  case atStart => exact ⟨0, by omega, rfl, Below.refl _ _⟩
  case round =>
    obtain ⟨k, hk, rfl, hb⟩ := hrel
    by_cases hlt : k < l.length
    · obtain ⟨ad1, rfl, a0, a1⟩ := (H1.out.below hb).at_ hlt
      obtain ⟨ad2, rfl, b0, b1⟩ := (H2.out.below hb).at_ hlt
      have i1 : (k : Int) < (l.length : Int) := by omega
      generalize mkS (l.getD k ([], [])).1 = x at *
      generalize mkS (l.getD k ([], [])).2 = y at *
      go_wp2_with fail
      go_quiet (fail)
      go_wp2
      go_roundw
      case rel => exact ⟨k + 1, by omega, by go_num, below_drewN hb _⟩
      case measure => simp [intOf]; omega
    · go_wp2_with fail
      go_ret
      exact ⟨rfl, hb⟩

/-- Attributes that are gone through. -/
def shortL (l : List AttrT) : Prop := l.length ≤ 40 ∧ ∀ a ∈ l, a.1.length ≤ 200 ∧ a.2.length ≤ 1000
set_option maxRecDepth 100000 in
set_option maxHeartbeats 2000000 in
theorem long_attrs_calls (w : World) (A : Option Addr) (c : Nat) (l : List AttrT) (hl : AttrsAt w A l) :
    Calls Tryd.prog 19 #[.slice A l.length c] w fun e w' => ∃ b, e = .returned (.bool b) ∧ (b = false ↔ shortL l) ∧ Below w.heap.size w w' := by
  have HL := Lib.hid hl
  clear hl
  by_cases h40 : (40 : Int) < l.length
  · have hno : ¬ shortL l := fun h => by have := h.1; omega
    go_enter Tryd.func19, Tryd.ntmps19
    go_wp2
    go_ret
    exact ⟨true, rfl, ⟨(fun h => by cases h), fun h => absurd h hno⟩, Below.refl _ _⟩
  go_enter Tryd.func19, Tryd.ntmps19
  go_wp2
  go_loopw [10] (fun i wr => ∃ k : Nat, k ≤ l.length ∧ i = .int .i64 k ∧ Below w.heap.size w wr ∧ Hid (∀ j, j < k → (l.getD j ([], [])).1.length ≤ 200 ∧ (l.getD j ([], [])).2.length ≤ 1000)) (fun i _ => l.length - (intOf i).toNat)
  case atStart => exact ⟨0, by omega, rfl, Below.refl _ _, Lib.hid (fun j hj => by omega)⟩
  case round =>
    obtain ⟨k, hk, rfl, hb, HN⟩ := hrel
    by_cases hlt : k < l.length
    · obtain ⟨ad, rfl, a0, a1⟩ := (HL.out.below hb).at_ hlt
      obtain ⟨x, hx⟩ : ∃ x, mkS (l.getD k ([], [])).1 = x := ⟨_, rfl⟩
      obtain ⟨y, hy⟩ : ∃ y, mkS (l.getD k ([], [])).2 = y := ⟨_, rfl⟩
      have hxz : (l.getD k ([], [])).1.length = x.size := by rw [← hx, size_mkS]
      have hyz : (l.getD k ([], [])).2.length = y.size := by rw [← hy, size_mkS]
      rw [hx] at a0
      rw [hy] at a1
      have hmem : l.getD k ([], []) ∈ l := by rw [List.getD, List.getElem?_eq_getElem hlt]; exact List.getElem_mem hlt
      have hno : 200 < x.size ∨ 1000 < y.size → ¬ shortL l := fun h hs => by have := hs.2 _ hmem; omega
      have HNO := Lib.hid hno
      have HX := Lib.hid hxz
      have HY := Lib.hid hyz
      clear hx hy hxz hyz hmem hno
      by_cases g1 : (200 : Int) < x.size
      · have hno := HNO.out (.inl (by omega))
        go_wp2_with fail
        go_ret
        exact ⟨true, rfl, ⟨(fun h => by cases h), fun h => absurd h hno⟩, hb.alloc hb.size _⟩
      · by_cases g2 : (1000 : Int) < y.size
        · have hno := HNO.out (.inr (by omega))
          go_wp2_with fail
          go_ret
          first
            | exact ⟨true, rfl, ⟨(fun h => by cases h), fun h => absurd h hno⟩, hb.alloc hb.size _⟩
            | exact ⟨rfl, hb.alloc hb.size _⟩
            | exact ⟨rfl, hno, hb.alloc hb.size _⟩
        · go_wp2_with fail
          go_roundw
          case rel =>
            refine ⟨k + 1, by omega, by go_num, hb.alloc hb.size _, Lib.hid (fun j hj => ?_)⟩
            by_cases ej : j = k
            · subst ej
              rw [HX.out, HY.out]
              omega
            · exact HN.out j (by omega)
          case measure => simp [intOf]; omega
    · go_wp2_with fail
      go_ret
      refine ⟨false, rfl, ⟨fun _ => ⟨by omega, fun a ha => ?_⟩, fun _ => rfl⟩, hb⟩
      obtain ⟨j, hj, rfl⟩ := List.mem_iff_getElem.1 ha
      have := HN.out j (by omega)
      rw [List.getD, List.getElem?_eq_getElem hj] at this
      exact this

set_option maxRecDepth 100000 in
open Go.ChangeShapes Go.WideShapes in
/-- An argument of attributes is a list of them. -/
theorem open_attrs {H : Type} {enc : TypeId × Value → H} {W : World} {base : Nat} {v : Value} {d : DataW H} {p : List MemPlace} (hval : Value.okWide Tryd.prog W .any base 25 v)
    (h : DataW.Trod enc Tryd.prog W 0 (fun _ => true) true 25 v d p) : ∃ A c l, v = .slice A l.length c ∧ AttrsAt W A l := by
  obtain ⟨a, len, cap, rfl⟩ := okWide_slice Tryd.underlying25 hval
  obtain ⟨fuel, hf⟩ := h
  rcases Go.Deep.open_slice Tryd.underlying25 hf with ⟨hcs, _⟩ | ⟨a', len', cap', m, n, D, Pl, hcs, _, hl, _, hmm, _, hi⟩
  · simp [Value.cells] at hcs
    obtain ⟨rfl, rfl, rfl⟩ := hcs
    exact ⟨none, 0, [], rfl, fun h => by simp at h⟩
  · simp [Value.cells] at hcs
    obtain ⟨rfl, rfl, rfl⟩ := hcs
    have hmm' : m = cap := by simpa using hmm
    have hC : Tryd.prog.cellsOf 41 = 2 := by kernel_rfl
    have hs : Tryd.prog.cellsOf 9 = 1 := by kernel_rfl
    have key : ∀ i, i < len → ∃ x : AttrT, W.cell? (a'.add (i * 2)) = some (.string (mkS x.1)) ∧ W.cell? (a'.add (i * 2 + 1)) = some (.string (mkS x.2)) := fun i hil => by
      obtain ⟨cs', hc, ht⟩ := hi i (by omega)
      rw [hC] at hc
      obtain ⟨y0, y1, n', _, hlen, t0, t1⟩ := trod_struct2 Tryd.underlying41 ht
      obtain ⟨_, hcl, hat⟩ := World.cells?_some hc
      obtain ⟨s0, e0, -, -⟩ := DataW.trod_string Tryd.underlying9 t0
      obtain ⟨s1, e1, -, -⟩ := DataW.trod_string Tryd.underlying9 t1
      obtain ⟨u0, u1, rfl⟩ : ∃ u0 u1, cs' = [u0, u1] := by
        match cs', hcl with
        | [u0, u1], _ => exact ⟨u0, u1, rfl⟩
      have f0 : [u0] = [Value.string s0] := by rw [← e0]; simp [hs]
      have f1 : [u1] = [Value.string s1] := by rw [← e1]; simp [hs]
      obtain rfl : u0 = .string s0 := by simpa using f0
      obtain rfl : u1 = .string s1 := by simpa using f1
      refine ⟨(s0.data.toList, s1.data.toList), ?_, ?_⟩
      · have := hat 0 (by decide)
        rw [Go.Deep.add_add] at this
        simpa [mkS_of] using this
      · have := hat 1 (by decide)
        rw [Go.Deep.add_add] at this
        simpa [mkS_of] using this
    obtain ⟨V, hV⟩ := Go.Deep.choose_lt key
    refine ⟨some a', cap, (List.range len).map V, by simp, fun _ => ⟨a', rfl, fun j u hu => ?_⟩⟩
    have hlen : ((List.range len).map V).length = len := by simp
    have hj : j < len * 2 := by
      have := (List.getElem?_eq_some_iff.1 hu).1
      rw [attrCells_len, hlen] at this
      omega
    have hi2 : j / 2 < len := by omega
    obtain ⟨g0, g1⟩ := attrCells_at ((List.range len).map V) (j / 2) (by rw [hlen]; exact hi2)
    have hget : ((List.range len).map V).getD (j / 2) ([], []) = V (j / 2) := by
      rw [List.getD, List.getElem?_map, List.getElem?_range hi2]
      rfl
    rw [hget] at g0 g1
    obtain ⟨v0, v1⟩ := hV (j / 2) hi2
    rcases Nat.mod_two_eq_zero_or_one j with hm2 | hm2
    · have ej : j / 2 * 2 = j := by omega
      rw [ej] at g0 v0
      rw [g0] at hu
      rw [v0, ← hu]
    · have ej : j / 2 * 2 + 1 = j := by omega
      rw [ej] at g1 v1
      rw [g1] at hu
      rw [v1, ← hu]

end Go.Proofs.YthfkldheflmlmaaDoor
