/- A text of each node (match.texts): contracts. -/
import Derived.Test.YtdlenbkkcpcbmaaKey
import Derived.Test.YtdlenbkkcpcbmaaItems
namespace Go.Proofs.Ytdlenbkkcpcbmaa
open Go.RowKit Go.Lib Go.Sort Go.BigFrame

def strCells (l : List (List UInt8)) : List Value := l.map fun s => .string (mkS s)
theorem strCells_len (l : List (List UInt8)) : (strCells l).length = l.length := List.length_map _
theorem strCells_at (l : List (List UInt8)) (i : Nat) (s : List UInt8) (h : l[i]? = some s) : (strCells l)[i]? = some (.string (mkS s)) := by
  simp [strCells, h]
theorem strCells_snoc (l : List (List UInt8)) (s : List UInt8) : strCells (l ++ [s]) = strCells l ++ [.string (mkS s)] := by simp [strCells]
/-- A slice of texts that is read. -/
def StrsAt (w : World) (A : Option Addr) (l : List (List UInt8)) : Prop := 0 < l.length → ∃ g, A = some ⟨g, 0, none⟩ ∧ ∀ j s, l[j]? = some s → w.cell? ⟨g, j, none⟩ = some (.string (mkS s))
theorem StrsAt.below {w w' : World} {A : Option Addr} {l : List (List UInt8)} (h : StrsAt w A l) (hb : Below w.heap.size w w') : StrsAt w' A l := fun hl => by
  obtain ⟨ad, e, hc⟩ := h hl
  exact ⟨ad, e, fun j u hu => (hb.cell (World.block_lt_of_cell? w _ (hc j u hu))).trans (hc j u hu)⟩
theorem strs_of_own {w : World} {B n c : Nat} {A : Option Addr} {l : List (List UInt8)} (hn : l.length = n) (h : w.ownsRow B 9 1 (.slice A n c) n (strCells l)) : StrsAt w A l := fun hp => by
  obtain ⟨g, cap, e, -⟩ := own_form h (by omega)
  injection e with e1 e2 e3
  subst e1 e3
  exact ⟨g, rfl, fun j u hu => (own_cell h j _ (strCells_at l j u hu)).1⟩
theorem infoS : (Try.prog.info? 9).map (fun i => (i.zero, i.size, i.bytes)) = some (some (.string ⟨#[]⟩), 1, 16) := by kernel_rfl
set_option maxRecDepth 100000 in
set_option maxHeartbeats 4000000 in
theorem texts_key (l : List NodeT) (hz : countL l ≤ 1000) (hok : okL l) (w : World) (K : Option Addr) (c : Nat) (hl : NodesIn w K 0 l) :
    Calls Try.prog 42 #[.slice K l.length c, .func (.func 43) #[] #[]] w fun e w' => ∃ A c', e = .returned (.slice A l.length c') ∧ w'.ownsRow w.heap.size 9 1 (.slice A l.length c') l.length (strCells (l.map keyN)) ∧ Below w.heap.size w w' := by
  have hlz : l.length ≤ 1000 := Nat.le_trans (len_count l) hz
  obtain ⟨i0, hi, hz0, hz1, hz2⟩ := info_parts infoS
  have HL := Lib.hid hl
  have HOK := Lib.hid hok
  clear hl hok
  go_enter Try.func42, Try.ntmps42
  go_wp2
  go_loopw [5, 10] (fun v i wr => ∃ k : Nat, k ≤ l.length ∧ i = .int .i64 k ∧ Below w.heap.size w wr ∧ Hid (∃ A c', v = .slice A k c' ∧ wr.ownsRow w.heap.size 9 1 v k (strCells ((l.take k).map keyN)))) (fun _ i _ => l.length - (RowKit.intOf i).toNat)
  case atStart => exact ⟨0, by omega, rfl, Below.refl _ _, Lib.hid ⟨none, 0, rfl, by simpa [strCells] using zero_owns w w.heap.size 9 1⟩⟩
  case round =>
    obtain ⟨k, hk, rfl, hB, HV⟩ := hrel
    obtain ⟨A0, c0, rfl, hown⟩ := HV.out
    by_cases hlt : k < l.length
    · obtain ⟨n, hn⟩ : ∃ n, l[k]? = some n := ⟨_, List.getElem?_eq_getElem hlt⟩
      have hcm := count_mem l k n hn
      have hokn := okL_mem HOK.out hn
      have hst : strCells ((l.take (k + 1)).map keyN) = strCells ((l.take k).map keyN) ++ [.string (mkS (keyN n))] := by
        obtain ⟨h1, h2⟩ := List.getElem?_eq_some_iff.1 hn
        rw [List.take_succ_eq_append_getElem h1, List.map_append, h2]
        exact strCells_snoc _ _
      obtain ⟨ad, A, c', K', d, rfl, hv, d0, d1, d2, d3, d4, d5⟩ := (NodesIn.below hB HL.out).at_ hn
      have CK := Lib.hid (fun W (h : NodeV W n A K') => key_calls n.count n (Nat.le_refl _) (by rw [count_kids]; omega) hokn W A K' c' d h)
      have HNV := Lib.hid hv
      have HST := Lib.hid hst
      have HB1 := Lib.hid (hB.alloc hB.size (.cells (nodeVal n A c' K' d) 44))
      have HOW := Lib.hid (hown.alloc (.cells (nodeVal n A c' K' d) 44))
      have hbz := hB.size
      have hsl : (strCells ((l.take k).map keyN)).length = k := by rw [strCells_len, List.length_map, List.length_take]; omega
      clear hn hv hst hown HV hcm hokn hB
      unfold nodeVal at CK HB1 HOW
      generalize strCells ((l.take k).map keyN) = ys at *
      go_upto_region 6 with (first
        | (go_at_call 43; (with_reducible refine (CK.out _ (HNV.out.below ((Below.refl _ _).alloc (Nat.le_refl _) _))).mono ?_); rintro e w1 ⟨rfl, hb1⟩; have HB2 := Lib.hid (below_then HB1.out HB1.out.size hb1); have HOW2 := Lib.hid (own_below HOW.out hb1); have hzb := HB2.out.size; clear hb1)
        | (at_builtin; refine wpList_append_own _ rfl _ _ 55 rfl w.heap.size 9 i0 _ 1 16 Try.underlying55 hi hz0 hz1 hz2 rfl (by decide) _ _ _ rfl (HOW2.out.alloc _) ⟨w1.heap.size, 0, none⟩ 1 1 [.string (mkS (keyN n))] rfl rfl ?a1 ?a2 ?a3 ?a4 ?a5 ?_; (case a1 => exact World.news_of_block (heap_alloc_new _ _)); (case a2 => simp [Value.oneCell']); (case a3 => unfold maxLen; omega); (case a4 => omega); (case a5 => simp; omega); intro v' w3 hown3 hg3 _))
      obtain ⟨A3, c3, hv3⟩ := own_val hown3
      have hB3 : Below w.heap.size w w3 := (HB2.out.alloc HB2.out.size _).grown hg3 (by simp; omega) (fun j hj => own_base HOW2.out hj)
      have HV3 : Hid (∃ A c', v' = .slice A (k + 1) c' ∧ w3.ownsRow w.heap.size 9 1 v' (k + 1) (strCells ((l.take (k + 1)).map keyN))) := Lib.hid ⟨A3, c3, hv3, by rw [HST.out]; exact hown3⟩
      clear hv3 hown3 hg3 HOW2 HB2 hzb HST HOW HB1 hsl CK HNV
      go_wp2
      go_roundw
      case rel => exact ⟨k + 1, by omega, by go_num, hB3, HV3⟩
      case measure => simp [RowKit.intOf]; omega
    · obtain rfl : k = l.length := by omega
      rw [List.take_length] at hown
      have HS := Lib.hid hown
      clear hlt hown HV
      go_wp2
      go_ret
      exact ⟨A0, c0, rfl, HS.out, hB⟩
set_option maxRecDepth 100000 in
set_option maxHeartbeats 4000000 in
theorem texts_label (l : List NodeT) (hz : countL l ≤ 1000) (hok : okL l) (w : World) (K : Option Addr) (c : Nat) (hl : NodesIn w K 0 l) :
    Calls Try.prog 42 #[.slice K l.length c, .func (.func 44) #[] #[]] w fun e w' => ∃ A c', e = .returned (.slice A l.length c') ∧ w'.ownsRow w.heap.size 9 1 (.slice A l.length c') l.length (strCells (l.map labelL)) ∧ Below w.heap.size w w' := by
  have hlz : l.length ≤ 1000 := Nat.le_trans (len_count l) hz
  obtain ⟨i0, hi, hz0, hz1, hz2⟩ := info_parts infoS
  have HL := Lib.hid hl
  have HOK := Lib.hid hok
  clear hl hok
  go_enter Try.func42, Try.ntmps42
  go_wp2
  go_loopw [5, 10] (fun v i wr => ∃ k : Nat, k ≤ l.length ∧ i = .int .i64 k ∧ Below w.heap.size w wr ∧ Hid (∃ A c', v = .slice A k c' ∧ wr.ownsRow w.heap.size 9 1 v k (strCells ((l.take k).map labelL)))) (fun _ i _ => l.length - (RowKit.intOf i).toNat)
  case atStart => exact ⟨0, by omega, rfl, Below.refl _ _, Lib.hid ⟨none, 0, rfl, by simpa [strCells] using zero_owns w w.heap.size 9 1⟩⟩
  case round =>
    obtain ⟨k, hk, rfl, hB, HV⟩ := hrel
    obtain ⟨A0, c0, rfl, hown⟩ := HV.out
    by_cases hlt : k < l.length
    · obtain ⟨n, hn⟩ : ∃ n, l[k]? = some n := ⟨_, List.getElem?_eq_getElem hlt⟩
      have hcm := count_mem l k n hn
      have hokn := okL_mem HOK.out hn
      have hst : strCells ((l.take (k + 1)).map labelL) = strCells ((l.take k).map labelL) ++ [.string (mkS (labelL n))] := by
        obtain ⟨h1, h2⟩ := List.getElem?_eq_some_iff.1 hn
        rw [List.take_succ_eq_append_getElem h1, List.map_append, h2]
        exact strCells_snoc _ _
      obtain ⟨ad, A, c', K', d, rfl, hv, d0, d1, d2, d3, d4, d5⟩ := (NodesIn.below hB HL.out).at_ hn
      have CK := Lib.hid (fun W (h : NodeV W n A K') => label_calls W n A K' c' d h (by have := hokn.parts.1; omega))
      have HNV := Lib.hid hv
      have HST := Lib.hid hst
      have HB1 := Lib.hid (hB.alloc hB.size (.cells (nodeVal n A c' K' d) 44))
      have HOW := Lib.hid (hown.alloc (.cells (nodeVal n A c' K' d) 44))
      have hbz := hB.size
      have hsl : (strCells ((l.take k).map labelL)).length = k := by rw [strCells_len, List.length_map, List.length_take]; omega
      clear hn hv hst hown HV hcm hokn hB
      unfold nodeVal at CK HB1 HOW
      generalize strCells ((l.take k).map labelL) = ys at *
      go_upto_region 6 with (first
        | (go_at_call 44; (with_reducible refine (CK.out _ (HNV.out.below ((Below.refl _ _).alloc (Nat.le_refl _) _))).mono ?_); rintro e w1 ⟨rfl, hb1⟩; have HB2 := Lib.hid (below_then HB1.out HB1.out.size hb1); have HOW2 := Lib.hid (own_below HOW.out hb1); have hzb := HB2.out.size; clear hb1)
        | (at_builtin; refine wpList_append_own _ rfl _ _ 55 rfl w.heap.size 9 i0 _ 1 16 Try.underlying55 hi hz0 hz1 hz2 rfl (by decide) _ _ _ rfl (HOW2.out.alloc _) ⟨w1.heap.size, 0, none⟩ 1 1 [.string (mkS (labelL n))] rfl rfl ?a1 ?a2 ?a3 ?a4 ?a5 ?_; (case a1 => exact World.news_of_block (heap_alloc_new _ _)); (case a2 => simp [Value.oneCell']); (case a3 => unfold maxLen; omega); (case a4 => omega); (case a5 => simp; omega); intro v' w3 hown3 hg3 _))
      obtain ⟨A3, c3, hv3⟩ := own_val hown3
      have hB3 : Below w.heap.size w w3 := (HB2.out.alloc HB2.out.size _).grown hg3 (by simp; omega) (fun j hj => own_base HOW2.out hj)
      have HV3 : Hid (∃ A c', v' = .slice A (k + 1) c' ∧ w3.ownsRow w.heap.size 9 1 v' (k + 1) (strCells ((l.take (k + 1)).map labelL))) := Lib.hid ⟨A3, c3, hv3, by rw [HST.out]; exact hown3⟩
      clear hv3 hown3 hg3 HOW2 HB2 hzb HST HOW HB1 hsl CK HNV
      go_wp2
      go_roundw
      case rel => exact ⟨k + 1, by omega, by go_num, hB3, HV3⟩
      case measure => simp [RowKit.intOf]; omega
    · obtain rfl : k = l.length := by omega
      rw [List.take_length] at hown
      have HS := Lib.hid hown
      clear hlt hown HV
      go_wp2
      go_ret
      exact ⟨A0, c0, rfl, HS.out, hB⟩

end Go.Proofs.Ytdlenbkkcpcbmaa
