/- Which nodes of two pages are meant to be the same, and how many (match.Pages, match.Score): contracts. -/
import Derived.Test.YtdlenbkkcpcbmaaMatchW
import Derived.Test.YtdlenbkkcpcbmaaSortP
namespace Go.Proofs.Ytdlenbkkcpcbmaa
open Go.RowKit Go.Lib Go.Sort Go.BigFrame

theorem rises_pairwise : ∀ {l : List PairT} {i j la lb : Nat}, Rises i j la lb l → l.Pairwise fun x y => x.a < y.a ∧ x.b < y.b
  | [], _, _, _, _, _ => List.Pairwise.nil
  | p :: l, i, j, la, lb, h => List.Pairwise.cons (fun q hq => by have := rises_ge h.2 q hq; omega) (rises_pairwise h.2)
set_option maxRecDepth 100000 in
set_option maxHeartbeats 4000000 in
theorem pages_calls (a b : List NodeT) (hza : countL a ≤ 1000) (hzb : countL b ≤ 1000) (oa : okL a) (ob : okL b) (w : World) (K K' : Option Addr) (c c' : Nat) (ha : NodesIn w K 0 a) (hb : NodesIn w K' 0 b) :
    Calls Try.prog 8 #[.slice K a.length c, .slice K' b.length c'] w fun e w' => ∃ A d, e = .returned (.slice A (pagesL a b).length d) ∧ PairsAt w' A (pagesL a b) ∧ Below w.heap.size w w' := by
  have I1 := Lib.hid (fun W h => items_calls a (by omega) W K c h)
  have I2 := Lib.hid (fun W h => items_calls b (by omega) W K' c' h)
  have la := itemsL_len a (-1) 0 0 0
  have lb := itemsL_len b (-1) 0 0 0
  have sa := seg_top a
  have sb := seg_top b
  have hpl : pagesF (countL a + 1) a b 0 0 = pagesL a b := pagesF_more _ _ a b 0 0 (by omega) (Nat.le_refl _)
  have hpr := pagesF_rises (countL a) a b 0 0
  have hpw : (pagesL a b).Pairwise fun x y => x.a < y.a := (rises_pairwise hpr).imp (fun h => h.1)
  have hlen := pagesF_len hpr (by omega)
  have hln : (pagesL a b).length ≤ 1000 := by have := hlen; rw [pagesL]; omega
  obtain ⟨ia, hia⟩ : ∃ ia, itemsL a (-1) 0 0 0 = ia := ⟨_, rfl⟩
  obtain ⟨ib, hib⟩ : ∃ ib, itemsL b (-1) 0 0 0 = ib := ⟨_, rfl⟩
  rw [hia] at I1 la sa
  rw [hib] at I2 lb sb
  have HNA := Lib.hid ha
  have HNB := Lib.hid hb
  have HSA := Lib.hid sa
  have HSB := Lib.hid sb
  have HPL := Lib.hid hpl
  have hla : ia.length ≤ 1000 := by omega
  have hlb : ib.length ≤ 1000 := by omega
  have HPW := Lib.hid hpw
  clear ha hb sa sb hpl hia hib la lb hpw hpr hlen
  go_enter Try.func8, Try.ntmps8
  go_upto_region 2 with (first
    | (go_at_call 13; (with_reducible refine (I1.out _ HNA.out).mono ?_); rintro e w1 ⟨A1, c1, rfl, hi1, hb1⟩; have HB1 := Lib.hid hb1; have HI1 := Lib.hid hi1; clear hb1 hi1)
    | (go_at_call 13; (with_reducible refine (I2.out _ (NodesIn.below HB1.out HNB.out)).mono ?_); rintro e w2 ⟨A2, c2, rfl, hi2, hb2⟩; have HB2 := Lib.hid (below_then HB1.out HB1.out.size hb2); have HI2 := Lib.hid hi2; have HI1' := Lib.hid (HI1.out.below hb2); clear hb2 hi2 HI1 HB1))
  have hbk := blk_new w2 #[.slice A1 ia.length c1, .slice A2 ib.length c2, .slice none 0 0] 58
  have hB2 := (Below.refl w2.heap.size w2).alloc (Nat.le_refl _) (.cells #[.slice A1 ia.length c1, .slice A2 ib.length c2, .slice none 0 0] 58)
  have hpg : Pager (w2.alloc (.cells #[.slice A1 ia.length c1, .slice A2 ib.length c2, .slice none 0 0] 58)) w2.heap.size A1 ia.length c1 A2 ib.length c2 (.slice none 0 0) [] := ⟨hbk, PairRow.nil _ _⟩
  have MC := Lib.hid (match_calls w2 w2.heap.size rfl ia ib A1 A2 c1 c2 HI1'.out HI2.out hla hlb (countL a) a b (Nat.le_refl _) oa ob _ K K' c c' 0 0 _ _ _ _ _ _ _ _ HSA.out HSB.out (NodesIn.below HB2.out HNA.out) (NodesIn.below HB2.out HNB.out) hB2 hpg (by simpa using hza))
  rw [HPL.out, show (((0 : Nat) : Int) - 1) = -1 from rfl, List.nil_append] at MC
  clear hbk hB2 hpg HI1' HI2 HNA HNB HSA HSB
  go_upto_region 3 with (go_at_call 20; (with_reducible refine MC.out.mono ?_); rintro e w3 ⟨rfl, hB3, v3, hp3, -⟩)
  obtain ⟨A3, c3, hv3⟩ := hp3.2.val
  subst hv3
  have SC := Lib.hid (sort_calls (pagesL a b) HPW.out (by omega) w3 _ _ hp3.2)
  have l3 := blk_cell hp3.1 2
  replace l3 : w3.cell? ⟨w2.heap.size, 2, none⟩ = some (.slice A3 (pagesL a b).length c3) := l3
  have HP3 := Lib.hid hp3
  have HB3 := Lib.hid (below_then HB2.out HB2.out.size hB3)
  clear hp3 hB3 MC
  go_upto_region 4 with (go_at_call 21; (with_reducible refine SC.out.mono ?_); rintro e w4 ⟨rfl, hb4⟩)
  have hp4 := HP3.out.below hb4
  have HB4 := Lib.hid (below_then HB3.out HB3.out.size hb4)
  have l4 := blk_cell hp4.1 2
  replace l4 : w4.cell? ⟨w2.heap.size, 2, none⟩ = some (.slice A3 (pagesL a b).length c3) := l4
  have hat : PairsAt w4 A3 (pagesL a b) := fun hp => by
    have hr := hp4.2
    unfold PairRow at hr
    obtain ⟨g, cap, e, -⟩ := own_form hr hp
    injection e with e1 e2 e3
    subst e1 e3
    exact ⟨g, rfl, fun j u hu => (own_cell hr j u hu).1⟩
  have HAT := Lib.hid hat
  clear l3 hp4 hat HP3 SC
  go_wp2
  go_ret
  exact ⟨A3, c3, rfl, HAT.out, HB4.out⟩
set_option maxRecDepth 100000 in
set_option maxHeartbeats 1000000 in
theorem score_calls (a b : List NodeT) (hza : countL a ≤ 1000) (hzb : countL b ≤ 1000) (oa : okL a) (ob : okL b) (w : World) (K K' : Option Addr) (c c' : Nat) (ha : NodesIn w K 0 a) (hb : NodesIn w K' 0 b) :
    Calls Try.prog 12 #[.slice K a.length c, .slice K' b.length c'] w fun e w' => e = .returned (.int .i64 (pagesL a b).length) ∧ Below w.heap.size w w' := by
  have PC := Lib.hid (pages_calls a b hza hzb oa ob w K K' c c' ha hb)
  clear ha hb
  go_enter Try.func12, Try.ntmps12
  go_wp2_with (go_at_call 8; (with_reducible refine PC.out.mono ?_); rintro e w1 ⟨A, d, rfl, -, hb1⟩)
  go_ret
  exact ⟨rfl, hb1⟩

end Go.Proofs.Ytdlenbkkcpcbmaa
