/- How two lists of texts are lined up (match.Line): its contract. -/
import Derived.Test.YtdlenbkkcpcbmaaCounts
namespace Go.Proofs.Ytdlenbkkcpcbmaa
open Go.RowKit Go.Lib Go.Sort Go.BigFrame

def PairT.vals (p : PairT) : List Value := [.int .i64 (p.a : Nat), .int .i64 (p.b : Nat), .bool p.whole]
def pairCells (l : List PairT) : List Value := l.flatMap PairT.vals
theorem pairCells_append (a b : List PairT) : pairCells (a ++ b) = pairCells a ++ pairCells b := List.flatMap_append
theorem pairCells_len (l : List PairT) : (pairCells l).length = l.length * 3 := by
  induction l with
  | nil => rfl
  | cons x l ih => simp [pairCells, PairT.vals] at ih ⊢; omega
theorem pairCells_at (l : List PairT) (i : Nat) (x : PairT) (h : l[i]? = some x) (f : Nat) (hf : f < 3) : (pairCells l)[i * 3 + f]? = x.vals[f]? := by
  induction l generalizing i with
  | nil => simp at h
  | cons y l ih =>
    cases i with
    | zero =>
      simp only [List.getElem?_cons_zero, Option.some.injEq] at h
      subst h
      simp only [pairCells, List.flatMap_cons]
      rw [List.getElem?_append_left (by simp [PairT.vals]; omega)]
      simp
    | succ i =>
      have := ih i (by simpa using h)
      simp only [pairCells, List.flatMap_cons] at this ⊢
      rw [List.getElem?_append_right (by simp [PairT.vals]; omega)]
      rw [← this]
      congr 1
      simp [PairT.vals]
      omega
theorem infoP : (Try.prog.info? 28).map (fun i => (i.zero, i.size, i.bytes)) = some (some (.agg #[.int .i64 0, .int .i64 0, .bool false]), 3, 24) := by kernel_rfl
/-- A row of pairs of the call's own. -/
def PairRow (w : World) (B : Nat) (v : Value) (l : List PairT) : Prop := w.ownsRow B 28 3 v l.length (pairCells l)
theorem PairRow.below {w w' : World} {B : Nat} {v : Value} {l : List PairT} (h : PairRow w B v l) (hb : Below w.heap.size w w') : PairRow w' B v l := own_below h hb
theorem PairRow.nil (w : World) (B : Nat) : PairRow w B (.slice none 0 0) [] := by simpa [PairRow, pairCells] using zero_owns w B 28 3
theorem PairRow.val {w : World} {B : Nat} {v : Value} {l : List PairT} (h : PairRow w B v l) : ∃ A c, v = .slice A l.length c := own_val h
/-- One more pair: what append asks and hands back. -/
theorem PairRow.snoc {w : World} {B : Nat} {v : Value} {l : List PairT} {p : PairT} (h : w.ownsRow B 28 3 v (l.length + 1) (pairCells l ++ p.vals)) : PairRow w B v (l ++ [p]) := by
  unfold PairRow
  rw [pairCells_append, List.length_append]
  have : pairCells [p] = p.vals := by simp [pairCells]
  rw [this]; exact h
theorem Mat.apart {w w' : World} {B O : Nat} {G : Nat → Nat} {m n k : Nat} {f : Nat → Nat → Nat} {l : List PairT} {v : Value} (h : Mat w B O G m n k f) (h' : PairRow w B v l) (hg : w.grownBy w' v.ownBlock) : Mat w' B O G m n k f :=
  ⟨own_apart h.outer h' (by decide) hg, fun i hi => own_apart (h.rows i hi) h' (by decide) hg, h.inj⟩
theorem Mat.alloc {w : World} {B O : Nat} {G : Nat → Nat} {m n k : Nat} {f : Nat → Nat → Nat} (h : Mat w B O G m n k f) (o : Obj) : Mat (w.alloc o) B O G m n k f := h.below ((Below.refl _ _).alloc (Nat.le_refl _) o)
theorem line_len {α : Type} [DecidableEq α] (a b : List α) : ∀ (N i j : Nat), (a.length - i) + (b.length - j) ≤ N → (lineI a b i j).length ≤ a.length - i := by
  intro N
  induction N with
  | zero => intro i j h; rw [line_out (by omega)]; simp
  | succ N ih =>
    intro i j h
    by_cases h1 : i < a.length ∧ j < b.length
    · obtain ⟨hi, hj⟩ := h1
      rw [line_in hi hj]
      split
      · have := ih (i + 1) (j + 1) (by omega); rw [List.length_cons]; omega
      · split
        · have := ih (i + 1) j (by omega); omega
        · exact ih i (j + 1) (by omega)
    · rw [line_out (by omega)]; simp
set_option maxRecDepth 100000 in
set_option maxHeartbeats 8000000 in
theorem line_calls (a b : List (List UInt8)) (hza : a.length ≤ 1000) (hzb : b.length ≤ 1000) (w : World) (A A' : Option Addr) (c c' : Nat) (ha : StrsAt w A a) (hb : StrsAt w A' b) :
    Calls Try.prog 19 #[.slice A a.length c, .slice A' b.length c'] w fun e w' => ∃ v, e = .returned v ∧ PairRow w' w.heap.size v (lineI a b 0 0) ∧ Below w.heap.size w w' := by
  have CC := Lib.hid (counts_calls a b hza hzb w A A' c c' ha hb)
  have HA := Lib.hid ha
  have HB := Lib.hid hb
  have hll := line_len a b _ 0 0 (Nat.le_refl _)
  obtain ⟨i0, hi, hz0, hz1, hz2⟩ := info_parts infoP
  clear ha hb
  go_enter Try.func19, Try.ntmps19
  go_upto_region 4 with (go_at_call 32; (with_reducible refine CC.out.mono ?_); rintro e w1 ⟨O, G, rfl, hM1, hB1⟩)
  have HM1 := Lib.hid hM1
  have HB1 := Lib.hid hB1
  clear hM1 hB1 CC
  go_loopw [6, 7, 8] (fun v x y wr => ∃ i j : Nat, i ≤ a.length ∧ j ≤ b.length ∧ x = .int .i64 i ∧ y = .int .i64 j ∧ Below w.heap.size w wr ∧ Hid (Mat wr w.heap.size O G (a.length + 1) (b.length + 1) (a.length + 1) (cnt a b)) ∧ Hid (∃ l, PairRow wr w.heap.size v l ∧ lineI a b 0 0 = l ++ lineI a b i j)) (fun _ x y _ => (a.length - (RowKit.intOf x).toNat) + (b.length - (RowKit.intOf y).toNat))
  case atStart => exact ⟨0, 0, by omega, by omega, rfl, rfl, HB1.out, HM1, Lib.hid ⟨[], PairRow.nil _ _, rfl⟩⟩
  case round =>
    clear HM1 HB1
    obtain ⟨i, j, hia, hjb, rfl, rfl, hBr, HM, HL⟩ := hrel
    by_cases h1 : i < a.length
    · by_cases h2 : j < b.length
      · obtain ⟨l, hrow, hline⟩ := HL.out
        obtain ⟨x, hxa⟩ : ∃ x, a[i]? = some x := ⟨_, List.getElem?_eq_getElem h1⟩
        obtain ⟨y, hyb⟩ : ∃ y, b[j]? = some y := ⟨_, List.getElem?_eq_getElem h2⟩
        have hstep := line_in h1 h2
        rw [hxa, hyb] at hstep
        obtain ⟨ga, rfl, hca⟩ := HA.out (by omega)
        obtain ⟨gb, rfl, hcb⟩ := HB.out (by omega)
        have sa := hca i x hxa
        have sb := hcb j y hyb
        have s1 : wr.cell? ⟨ga, i, none⟩ = some (.string (mkS x)) := (hBr.cell (World.block_lt_of_cell? w _ sa)).trans sa
        have s2 : wr.cell? ⟨gb, j, none⟩ = some (.string (mkS y)) := (hBr.cell (World.block_lt_of_cell? w _ sb)).trans sb
        have a7 := add0 ga i
        have a8 := add0 gb j
        have hq : ((mkS x).toList == (mkS y).toList) = (x == y) := by rw [ByteArray.toList_eq, ByteArray.toList_eq, of_mkS, of_mkS]
        have i5 : (i : Int) < (a.length : Int) := by omega
        have i6 : (j : Int) < (b.length : Int) := by omega
        have hlen : l.length ≤ 1000 := by have h := congrArg List.length hline; rw [List.length_append] at h; omega
        have HST := Lib.hid hstep
        have HLN := Lib.hid hline
        have HRW := Lib.hid hrow
        have HBR := Lib.hid hBr
        obtain ⟨A0, c0, hv0⟩ := hrow.val
        subst hv0
        clear hxa hyb hca hcb sa sb hstep hline hrow HL hBr
        cases e : x == y with
        | true =>
          rw [e] at hq
          have hxy : some x = some y := by rw [eq_of_beq e]
          have HST2 : Hid (lineI a b i j = ⟨i, j, true⟩ :: lineI a b (i + 1) (j + 1)) := Lib.hid (by rw [HST.out, if_pos hxy])
          clear hxy e HST
          have hbz := HBR.out.size
          go_upto_region 6 with fail
          go_quiet (fail)
          go_upto_region 8 with (at_builtin; refine wpList_append_own _ rfl _ _ 25 rfl w.heap.size 28 i0 _ 3 24 Try.underlying25 hi hz0 hz1 hz2 rfl (by decide) _ _ _ rfl ((HRW.out.below (below_drewN (Below.refl _ _) nq)).alloc _) ⟨wr.heap.size, 0, none⟩ 1 1 (PairT.vals ⟨i, j, true⟩) rfl rfl ?a1 ?a2 ?a3 ?a4 ?a5 ?_; (case a1 => exact World.news_of_block (heap_alloc_new (wr.drewN nq) _)); (case a2 => simp [PairT.vals, Value.oneCell']); (case a3 => unfold maxLen; omega); (case a4 => omega); (case a5 => simp; omega); intro v' w3 hown3 hg3 _)
          have hd1 := (HRW.out.below (below_drewN (Below.refl _ _) nq)).below ((Below.refl _ _).alloc (Nat.le_refl _) (.cells #[.int .i64 (i : Nat), .int .i64 (j : Nat), .bool true] 28))
          have HM3 : Hid (Mat w3 w.heap.size O G (a.length + 1) (b.length + 1) (a.length + 1) (cnt a b)) := Lib.hid (((HM.out.below (below_drewN (Below.refl _ _) nq)).alloc _).apart hd1 hg3)
          have hB3 : Below w.heap.size w w3 := ((below_drewN HBR.out nq).alloc (by simpa using hbz) _).grown hg3 (by simp; omega) (fun k hk => own_base HRW.out hk)
          have HL3 : Hid (∃ l, PairRow w3 w.heap.size v' l ∧ lineI a b 0 0 = l ++ lineI a b (i + 1) (j + 1)) := Lib.hid ⟨l ++ [⟨i, j, true⟩], PairRow.snoc hown3, by rw [HLN.out, HST2.out]; simp⟩
          clear hd1 hown3 hg3 HM HRW HBR hbz HLN HST2
          go_wp2
          go_roundw
          case rel => exact ⟨i + 1, j + 1, by omega, by omega, by go_num, by go_num, hB3, HM3, HL3⟩
          case measure => simp [RowKit.intOf]; omega
        | false =>
          rw [e] at hq
          have hne : ¬ (some x = some y) := fun he => by rw [Option.some.inj he] at e; simp at e
          have hst := HST.out
          rw [if_neg hne] at hst
          have q0 := HM.out.cells (i := i) (by omega) (Nat.le_refl _)
          have q1 := HM.out.cells (i := i + 1) (by omega) (Nat.le_refl _)
          have c1 := (HM.out.cell (i := i + 1) (j := j) (by omega) (by omega)).1
          have c2 := (HM.out.cell (i := i) (j := j + 1) (by omega) (by omega)).1
          have a1 := add0 O i
          have a2 := add0 O (i + 1)
          have a3 := add0 (G i) (j + 1)
          have a4 := add0 (G (i + 1)) j
          have w1 : IntKind.i64.wrap ((i : Int) + 1) = (i : Int) + 1 := IntWalk.i64_in _ (by omega)
          have w2 : IntKind.i64.wrap ((j : Int) + 1) = (j : Int) + 1 := IntWalk.i64_in _ (by omega)
          have t1 : ((i : Int) + 1).toNat = i + 1 := by omega
          have t2 : ((j : Int) + 1).toNat = j + 1 := by omega
          have t3 : (0 : Int) ≤ (i : Int) + 1 := by omega
          have t4 : (0 : Int) ≤ (j : Int) + 1 := by omega
          have i1 : (i : Int) < (a.length : Int) + 1 := by omega
          have i2 : (i : Int) + 1 < (a.length : Int) + 1 := by omega
          have i3 : (j : Int) < (b.length : Int) + 1 := by omega
          have i4 : (j : Int) + 1 < (b.length : Int) + 1 := by omega
          clear hne e HST
          generalize G i = g0 at *
          generalize G (i + 1) = g1 at *
          by_cases hc : cnt a b i (j + 1) ≤ cnt a b (i + 1) j
          · rw [if_pos hc] at hst
            have hcc : (cnt a b i (j + 1) : Int) ≤ (cnt a b (i + 1) j : Int) := by omega
            have HL3 : Hid (∃ l', PairRow wr w.heap.size (.slice A0 l.length c0) l' ∧ lineI a b 0 0 = l' ++ lineI a b (i + 1) j) := Lib.hid ⟨l, HRW.out, by rw [HLN.out, hst]⟩
            clear hst hc HLN
            go_upto_region 6 with fail
            go_quiet (fail)
            go_wp2
            go_quiet (fail)
            go_wp2
            go_roundw
            case rel => exact ⟨i + 1, j, by omega, by omega, by go_num, by go_num, below_drewN HBR.out _, Lib.hid (HM.out.below (below_drewN (Below.refl _ _) _)), Lib.hid (by obtain ⟨l', h1, h2⟩ := HL3.out; exact ⟨l', h1.below (below_drewN (Below.refl _ _) _), h2⟩)⟩
            case measure => simp [RowKit.intOf]; omega
          · rw [if_neg hc] at hst
            have hcc : ¬ (cnt a b i (j + 1) : Int) ≤ (cnt a b (i + 1) j : Int) := by omega
            have HL3 : Hid (∃ l', PairRow wr w.heap.size (.slice A0 l.length c0) l' ∧ lineI a b 0 0 = l' ++ lineI a b i (j + 1)) := Lib.hid ⟨l, HRW.out, by rw [HLN.out, hst]⟩
            clear hst hc HLN
            go_upto_region 6 with fail
            go_quiet (fail)
            go_wp2
            go_quiet (fail)
            go_wp2
            go_roundw
            case rel => exact ⟨i, j + 1, by omega, by omega, by go_num, by go_num, below_drewN HBR.out _, Lib.hid (HM.out.below (below_drewN (Below.refl _ _) _)), Lib.hid (by obtain ⟨l', h1, h2⟩ := HL3.out; exact ⟨l', h1.below (below_drewN (Below.refl _ _) _), h2⟩)⟩
            case measure => simp [RowKit.intOf]; omega
      · obtain ⟨l, hrow, hline⟩ := HL.out
        rw [line_out (i := i) (j := j) (.inr (by omega)), List.append_nil] at hline
        have HF := Lib.hid (hline ▸ hrow)
        have i1 : (i : Int) < (a.length : Int) := by omega
        have i2 : ¬ (j : Int) < (b.length : Int) := by omega
        clear HL hrow hline h1 h2 HM
        go_wp2
        go_ret
        exact ⟨_, rfl, HF.out, hBr⟩
    · obtain ⟨l, hrow, hline⟩ := HL.out
      rw [line_out (i := i) (j := j) (.inl (by omega)), List.append_nil] at hline
      have HF := Lib.hid (hline ▸ hrow)
      have i1 : ¬ (i : Int) < (a.length : Int) := by omega
      clear HL hrow hline h1 HM
      go_wp2
      go_ret
      exact ⟨_, rfl, HF.out, hBr⟩

end Go.Proofs.Ytdlenbkkcpcbmaa
