/- Which nodes of two lists are meant to be the same (match.Lists): its contract. -/
import Derived.Test.YtdlenbkkcpcbmaaLists
namespace Go.Proofs.Ytdlenbkkcpcbmaa
open Go.RowKit Go.Lib Go.Sort Go.BigFrame

theorem loop_len (s : Nat → Nat → Bool) : ∀ (l : List PairT) (i j k : Nat), (∀ p ∈ l, p.a ≤ k) → (loopL s l i j).length ≤ l.length * (k + 1)
  | [], _, _, _, _ => by simp [loopL]
  | p :: l, i, j, k, h => by
    have h1 := gap_len s p.a p.b _ i j (Nat.le_refl _)
    have h2 := loop_len s l (p.a + 1) (p.b + 1) k (fun q hq => h q (.tail _ hq))
    have h3 := h p (.head _)
    rw [loopL, List.length_append, List.length_cons, List.length_cons, Nat.succ_mul]
    omega
theorem own_top {w : World} {B n k : Nat} {e : TypeId} {size : Nat} {v : Value} {xs : List Value} (h : w.ownsRow B e size v n xs) (hk : v.ownBlock = some k) : k < w.heap.size := by
  rcases h.2 with ⟨h0, _⟩ | ⟨g, cap, cur, h0, hb, hg, _⟩
  · rw [h0] at hk; cases hk
  · rw [h0] at hk
    simp [Value.ownBlock] at hk
    rw [← hk]; exact blk_lt hg
set_option maxRecDepth 100000 in
set_option maxHeartbeats 8000000 in
theorem lists_calls (a b : List NodeT) (hza : countL a ≤ 1000) (hzb : countL b ≤ 1000) (oa : okL a) (ob : okL b) (w : World) (K K' : Option Addr) (c c' : Nat) (ha : NodesIn w K 0 a) (hb : NodesIn w K' 0 b) :
    Calls Try.prog 34 #[.slice K a.length c, .slice K' b.length c'] w fun e w' => ∃ A d, e = .returned (.slice A (listsL a b).length d) ∧ PairsAt w' A (listsL a b) ∧ (∀ g, A = some ⟨g, 0, none⟩ → w.heap.size ≤ g) ∧ Below w.heap.size w w' := by
  have hla : a.length ≤ 1000 := Nat.le_trans (len_count a) hza
  have hlb : b.length ≤ 1000 := Nat.le_trans (len_count b) hzb
  have hloop := loop_is a b (NodesIn.in64 ha (by omega)) (NodesIn.in64 hb (by omega)) oa ob
  have hrise := line_rises (a.map keyN) (b.map keyN) _ 0 0 (Nat.le_refl _)
  have hwl := line_len (a.map keyN) (b.map keyN) _ 0 0 (Nat.le_refl _)
  rw [List.length_map, List.length_map] at hrise
  rw [List.length_map] at hwl
  have hll : (listsL a b).length ≤ a.length := by
    have := lists_len (likeAt a b) a.length b.length (lineI a b 0 0) 0 0 (line_rises a b _ 0 0 (Nat.le_refl _)) (Nat.zero_le _)
    rw [listsL]; omega
  obtain ⟨ip, hi, hz0, hz1, hz2⟩ := info_parts infoP
  have KA := Lib.hid (fun W h => texts_key a hza oa W K c h)
  have KB := Lib.hid (fun W h => texts_key b hzb ob W K' c' h)
  have TA := Lib.hid (fun W h => texts_label a hza oa W K c h)
  have TB := Lib.hid (fun W h => texts_label b hzb ob W K' c' h)
  have HNA := Lib.hid ha
  have HNB := Lib.hid hb
  have HLP := Lib.hid hloop
  have HRS := Lib.hid hrise
  clear ha hb hloop hrise
  obtain ⟨ws, hws⟩ : ∃ ws, lineI (a.map keyN) (b.map keyN) 0 0 = ws := ⟨_, rfl⟩
  have LN := Lib.hid (fun W A A' c c' h h' => line_calls (a.map keyN) (b.map keyN) (by simpa using hla) (by simpa using hlb) W A A' c c' h h')
  simp only [List.length_map] at LN
  rw [hws] at LN HLP HRS hwl
  clear hws
  go_enter Try.func34, Try.ntmps34
  go_upto_region 2 with (first
    | (go_at_call 42; (with_reducible refine (KA.out _ HNA.out).mono ?_); rintro e w1 ⟨A1, d1, rfl, hs1, hb1⟩; have HB1 := Lib.hid hb1; have HS1 := Lib.hid (strs_of_own (by simp) hs1); clear hb1 hs1)
    | (go_at_call 42; (with_reducible refine (KB.out _ (NodesIn.below HB1.out HNB.out)).mono ?_); rintro e w2 ⟨A2, d2, rfl, hs2, hb2⟩; have HB2 := Lib.hid (below_then HB1.out HB1.out.size hb2); have HS1' := Lib.hid (HS1.out.below hb2); have HS2 := Lib.hid (strs_of_own (by simp) hs2); clear hb2 hs2 HS1 HB1)
    | (go_at_call 19; (with_reducible refine (LN.out _ _ _ _ _ HS1'.out HS2.out).mono ?_); rintro e w3 ⟨v3, rfl, hp3, hb3⟩; obtain ⟨A3, d3, rfl⟩ := hp3.val; have HP3 := Lib.hid (own_lower hp3 HB2.out.size); have HB3 := Lib.hid (below_then HB2.out HB2.out.size hb3); clear hp3 hb3 HB2 HS1' HS2))
  go_upto_region 4 with (first
    | (go_at_call 42; (with_reducible refine (TA.out _ (NodesIn.below HB3.out HNA.out)).mono ?_); rintro e w4 ⟨A4, d4, rfl, hs4, hb4⟩; have HP4 := Lib.hid (own_below HP3.out hb4); have HB4 := Lib.hid (below_then HB3.out HB3.out.size hb4); have HS4 := Lib.hid (own_lower hs4 HB3.out.size); clear hb4 hs4)
    | (go_at_call 42; (with_reducible refine (TB.out _ (NodesIn.below HB4.out HNB.out)).mono ?_); rintro e w5 ⟨A5, d5, rfl, hs5, hb5⟩; have HP5 := Lib.hid (own_below HP4.out hb5); have HB5 := Lib.hid (below_then HB4.out HB4.out.size hb5); have HS4' := Lib.hid (own_below HS4.out hb5); have HS5 := Lib.hid (own_lower hs5 HB4.out.size); clear hb5 hs5 HP4 HB4 HS4 HP3 HB3))
  obtain ⟨S, hS⟩ : ∃ S : PairT, ⟨a.length, b.length, true⟩ = S := ⟨_, rfl⟩
  have hown6 := (HP5.out.alloc (.cells #[.int .i64 0, .int .i64 0, .int .i64 0, .int .i64 0] 87)).alloc (.cells #[.int .i64 (a.length : Nat), .int .i64 (b.length : Nat), .bool true] 28)
  have hbox6 := blk_alloc (blk_new w5 #[.int .i64 0, .int .i64 0, .int .i64 0, .int .i64 0] 87) (.cells #[.int .i64 (a.length : Nat), .int .i64 (b.length : Nat), .bool true] 28)
  have hB6 := (HB5.out.alloc HB5.out.size (.cells #[.int .i64 0, .int .i64 0, .int .i64 0, .int .i64 0] 87)).alloc (by have := HB5.out.size; simp; omega) (.cells #[.int .i64 (a.length : Nat), .int .i64 (b.length : Nat), .bool true] 28)
  have HOWN6 := Lib.hid hown6
  have HBOX6 := Lib.hid hbox6
  have HB6 := Lib.hid hB6
  have hbz := HB5.out.size
  have HS := Lib.hid hS
  clear hown6 hbox6 hB6 hS HP5 HNA HNB KA KB TA TB LN
  go_upto_region 6 with (at_builtin; refine wpList_append_own _ rfl _ _ 25 rfl w.heap.size 28 ip _ 3 24 Try.underlying25 hi hz0 hz1 hz2 rfl (by decide) _ _ _ rfl HOWN6.out ⟨w5.heap.size + 1, 0, none⟩ 1 1 (PairT.vals ⟨a.length, b.length, true⟩) rfl rfl ?a1 ?a2 ?a3 ?a4 ?a5 ?_; (case a1 => exact World.news_of_block (heap_alloc_at _ (by simp))); (case a2 => simp [PairT.vals, Value.oneCell']); (case a3 => unfold maxLen; omega); (case a4 => omega); (case a5 => simp; omega); intro v6 w6 hown hg6 _; obtain ⟨gx, cx, rfl, hgx0, hgx1, hgx2⟩ := own_form hown (Nat.succ_pos _))
  have keepS : ∀ {A : Option Addr} {n d : Nat} {l : List (List UInt8)}, w5.ownsRow w.heap.size 9 1 (.slice A n d) n (strCells l) → w6.ownsRow w.heap.size 9 1 (.slice A n d) n (strCells l) := fun h =>
    own_apart (own_below h (((Below.refl _ _).alloc (Nat.le_refl _) _).alloc (by simp) _)) HOWN6.out (by decide) hg6
  have hs4 := keepS HS4'.out
  have hs5 := keepS HS5.out
  have hB7 := HB6.out.grown hg6 (by simp; omega) (fun k hk => own_base HOWN6.out hk)
  have hbox7 : w6.heap[w5.heap.size]? = _ := (hg6.block w5.heap.size (by simp; omega) (own_farT HOWN6.out HBOX6.out (by decide))).trans HBOX6.out
  have hrow7 := PairRow.snoc (p := ⟨a.length, b.length, true⟩) hown
  rw [HS.out] at hrow7
  have hgne : w5.heap.size ≠ gx := fun e => own_farT hown hbox7 (by decide) (by rw [e]; rfl)
  obtain ⟨X, hX⟩ : ∃ X, ws ++ [S] = X := ⟨_, rfl⟩
  have hXl : X.length = ws.length + 1 := by rw [← hX]; simp
  have hXb : ∀ p ∈ X, p.a ≤ a.length ∧ p.b ≤ b.length := fun p hp => by
    rw [← hX] at hp
    rcases List.mem_append.1 hp with hp | hp
    · have := rises_ge HRS.out p hp; omega
    · rw [List.mem_singleton.1 hp, ← HS.out]; exact ⟨Nat.le_refl _, Nat.le_refl _⟩
  rw [hX] at hrow7
  have hcx : ∀ j u, (pairCells X)[j]? = some u → w6.cell? ⟨gx, j, none⟩ = some u := fun j u hu => by
    have h := hrow7
    unfold PairRow at h
    rw [hXl] at h
    exact (own_cell h j u hu).1
  have hlp := HLP.out
  rw [HS.out, hX] at hlp
  have keepC : ∀ {A : Option Addr} {n d : Nat} {l : List (List UInt8)}, l.length = n → w6.ownsRow w.heap.size 9 1 (.slice A n d) n (strCells l) → ∀ wr, Ch (fun i => i = w5.heap.size) w6 wr → StrsAt wr A l := fun hn h wr hc hp => by
    obtain ⟨g, e, hcs⟩ := strs_of_own hn h hp
    subst e
    exact ⟨g, rfl, fun j s hs => hc.cell (hcs j s hs) (fun e => own_farT h hbox7 (by decide) (by rw [e]; rfl))⟩
  have HSA := Lib.hid (keepC (by simp) hs4)
  have HSB := Lib.hid (keepC (by simp) hs5)
  have HLP2 := Lib.hid hlp
  have HX := Lib.hid hX
  have HXB := Lib.hid hXb
  have HCX := Lib.hid hcx
  have HB7 := Lib.hid hB7
  have HBOX7 := Lib.hid hbox7
  rw [show ((ws.length : Int) + 1) = (X.length : Int) by omega, ← hXl]
  have hXz : X.length ≤ 1001 := by omega
  have HXL := Lib.hid hXl
  clear hXl
  have hG6 := blk_lt hbox7
  clear hown hg6 hB7 hbox7 hrow7 hX hXb hcx hlp HLP HOWN6 HBOX6 HB6 keepS keepC hs4 hs5 HS4' HS5
  generalize hGb : w5.heap.size = Gb at *
  have HGB := Lib.hid hGb
  clear hGb
  obtain ⟨s, hs⟩ : ∃ s, sameS (a.map labelL) (b.map labelL) = s := ⟨_, rfl⟩
  have HSS := Lib.hid hs
  rw [hs] at HLP2
  clear hs
  go_loopw [8, 31] (fun v x wr => ∃ k i j ta tb : Nat, k ≤ X.length ∧ i ≤ 1001 ∧ j ≤ 1001 ∧ x = .int .i64 k ∧ Ch (fun i => i = Gb) w6 wr ∧ Hid (wr.heap[Gb]? = some (.cells #[.int .i64 (i : Nat), .int .i64 (j : Nat), .int .i64 (ta : Nat), .int .i64 (tb : Nat)] 87 (0, 0))) ∧ Hid (∃ l, PairRow wr w6.heap.size v l ∧ loopL s X 0 0 = l ++ loopL s (X.drop k) i j)) (fun _ x _ => X.length - (RowKit.intOf x).toNat)
  case atStart => exact ⟨0, 0, 0, 0, 0, Nat.zero_le _, by omega, by omega, rfl, Ch.refl _ _, HBOX7, Lib.hid ⟨[], PairRow.nil _ _, rfl⟩⟩
  case round =>
    obtain ⟨k, i, j, ta, tb, hk, hib, hjb, rfl, hC, HBX, HL⟩ := hrel
    by_cases hlt : k < X.length
    · obtain ⟨p, hp⟩ : ∃ p, X[k]? = some p := ⟨_, List.getElem?_eq_getElem hlt⟩
      obtain ⟨l, hrow, hloop⟩ := HL.out
      obtain ⟨A0, c0, hv0⟩ := hrow.val
      subst hv0
      have hdrop : X.drop k = p :: X.drop (k + 1) := by
        obtain ⟨h1, h2⟩ := List.getElem?_eq_some_iff.1 hp
        rw [List.drop_eq_getElem_cons h1, h2]
      rw [hdrop, loopL] at hloop
      have hpb := HXB.out p (List.mem_of_getElem? hp)
      have hT : (loopL s X 0 0).length ≤ 1001 := by rw [HLP2.out]; simp; omega
      have hlen : l.length + (gapI s i p.a j p.b).length + 1 ≤ 1001 := by
        have h := congrArg List.length hloop
        rw [List.length_append, List.length_append, List.length_cons] at h
        omega
      obtain ⟨e0, e1, e2⟩ := pairs_at HCX.out hp
      have hne : ¬ gx = Gb := fun e => hgne e.symm
      replace e0 := hC.cell e0 hne
      replace e1 := hC.cell e1 hne
      replace e2 := hC.cell e2 hne
      have hadd := add0 gx (k * 3)
      have hC7 := hC.alloc (.cells #[.int .i64 (p.a : Nat), .int .i64 (p.b : Nat), .bool p.whole] 28)
      have hY7 := blk_new wr #[.int .i64 (p.a : Nat), .int .i64 (p.b : Nat), .bool p.whole] 28
      have hG7 := blk_alloc HBX.out (.cells #[.int .i64 (p.a : Nat), .int .i64 (p.b : Nat), .bool p.whole] 28)
      have hR7 := hrow.below ((Below.refl _ _).alloc (Nat.le_refl _) (.cells #[.int .i64 (p.a : Nat), .int .i64 (p.b : Nat), .bool p.whole] 28))
      have hsz := hC.size
      have hGY := blk_lt HBX.out
      have HLO := Lib.hid hloop
      have htop : ∀ q, (Value.slice A0 l.length c0).ownBlock = some q → q < wr.heap.size := fun q hq => own_top hrow hq
      clear hp hrow hloop hdrop hT hne hC HBX HL
      go_upto_region 8 with fail
      generalize wr.alloc (.cells #[.int .i64 (p.a : Nat), .int .i64 (p.b : Nat), .bool p.whole] 28) = w7 at *
      generalize wr.heap.size = Y at *
      have y0 := blk_cell hY7 0
      have y1 := blk_cell hY7 1
      replace y0 : w7.cell? ⟨Y, 0, none⟩ = some (.int .i64 (p.a : Nat)) := y0
      replace y1 : w7.cell? ⟨Y, 1, none⟩ = some (.int .i64 (p.b : Nat)) := y1
      have g2 := blk_cell hG7 2
      have g3 := blk_cell hG7 3
      replace g2 : w7.cell? ⟨Gb, 2, none⟩ = some (.int .i64 (ta : Nat)) := g2
      replace g3 : w7.cell? ⟨Gb, 3, none⟩ = some (.int .i64 (tb : Nat)) := g3
      have f2 := blk_frozen hG7 2
      have f3 := blk_frozen hG7 3
      have hYG : Y ≠ Gb := by omega
      have HTOP := Lib.hid htop
      clear htop
      have HY7 := Lib.hid hY7
      have HG7 := Lib.hid hG7
      have HC7 := Lib.hid hC7
      have HR7 := Lib.hid hR7
      clear hY7 hG7 hC7 hR7 e0 e1 e2 hadd
      go_region
      have hG8 := (show ((w7.setCell ⟨Gb, 2, none⟩ (.int .i64 (p.a : Nat))).setCell ⟨Gb, 3, none⟩ (.int .i64 (p.b : Nat))).drew.heap[Gb]? = _ from blk_set (blk_set HG7.out 2 (.int .i64 (p.a : Nat))) 3 (.int .i64 (p.b : Nat)))
      have hY8 := (show ((w7.setCell ⟨Gb, 2, none⟩ (.int .i64 (p.a : Nat))).setCell ⟨Gb, 3, none⟩ (.int .i64 (p.b : Nat))).drew.heap[Y]? = _ from blk_far (p := ⟨Gb, 3, none⟩) (blk_far (p := ⟨Gb, 2, none⟩) HY7.out hYG (.int .i64 (p.a : Nat))) hYG (.int .i64 (p.b : Nat)))
      have hC8 := ((HC7.out.setCell (p := ⟨Gb, 2, none⟩) (.inl rfl) (.int .i64 (p.a : Nat))).setCell (p := ⟨Gb, 3, none⟩) (.inl rfl) (.int .i64 (p.b : Nat))).drew
      have hR8 : PairRow ((w7.setCell ⟨Gb, 2, none⟩ (.int .i64 (p.a : Nat))).setCell ⟨Gb, 3, none⟩ (.int .i64 (p.b : Nat))).drew w6.heap.size (.slice A0 l.length c0) l := own_keep HR7.out ((((Ch.refl (fun i => i = Gb) w7).setCell (p := ⟨Gb, 2, none⟩) (.inl rfl) (.int .i64 (p.a : Nat))).setCell (p := ⟨Gb, 3, none⟩) (.inl rfl) (.int .i64 (p.b : Nat))).drew) (fun q hq _ e => by omega)
      clear y0 y1 g2 g3 f2 f3 HY7 HG7 HC7 HR7
      generalize ((w7.setCell ⟨Gb, 2, none⟩ (.int .i64 (p.a : Nat))).setCell ⟨Gb, 3, none⟩ (.int .i64 (p.b : Nat))).drew = w8 at *
      have hG8 : w8.heap[Gb]? = some (.cells #[.int .i64 (i : Nat), .int .i64 (j : Nat), .int .i64 (p.a : Nat), .int .i64 (p.b : Nat)] 87 (0, 0)) := hG8
      have g0 := blk_cell hG8 0
      have g1 := blk_cell hG8 1
      have g2 := blk_cell hG8 2
      have g3 := blk_cell hG8 3
      have HY8 := Lib.hid hY8
      have HG8 := Lib.hid hG8
      have HC8 := Lib.hid hC8
      have HR8 := Lib.hid hR8
      have AC := Lib.hid (alike_calls (a.map labelL) (b.map labelL) (by simpa using hla) (by simpa using hlb) i j p.a p.b (by simpa using hpb.1) (by simpa using hpb.2) hib hjb w8 A4 A5 d4 d5 (HSA.out w8 hC8) (HSB.out w8 hC8))
      simp only [List.length_map] at AC
      rw [HSS.out] at AC
      unfold gapV at AC
      have hs8 := hC8.size
      clear hY8 hG8 hC8 hR8
      have hglen := gap_len s p.a p.b _ i j (Nat.le_refl _)
      go_upto_region 10 with (first
        | (go_at_call 45; (with_reducible refine AC.out.mono ?_); rintro e w9 ⟨v9, rfl, hp9, hb9⟩; obtain ⟨A9, c9, rfl⟩ := hp9.val; have HR9 := Lib.hid (PairRow.below HR8.out hb9); have HP9 := Lib.hid hp9; have HB9 := Lib.hid hb9; have hz9 := hb9.size; clear hp9 hb9)
        | (at_builtin; refine append_row _ rfl _ _ 25 rfl w6.heap.size 28 ip _ 3 24 Try.underlying25 hi hz0 hz1 hz2 rfl (by decide) _ _ _ rfl HR9.out (w8.heap.size + 1) _ _ _ rfl HP9.out (pair_one _) ?a1 ?a2 ?a3 ?_; (case a1 => unfold maxLen; omega); (case a2 => omega); (case a3 => omega); intro v10 w10 hown10 hg10 hat10))
      have hr10 : PairRow w10 w6.heap.size v10 (l ++ gapI s i p.a j p.b) := by unfold PairRow; rw [pairCells_append, List.length_append]; exact hown10
      obtain ⟨A10, c10, hv10⟩ := hr10.val
      subst hv10
      have hG10 : w10.heap[Gb]? = _ := (hg10.block Gb (by have := blk_lt HG8.out; omega) (own_farB HR9.out hG6)).trans (blk_below HG8.out HB9.out)
      have hY10 : w10.heap[Y]? = _ := (hg10.block Y (by have := blk_lt HY8.out; omega) (fun e => by have := HTOP.out Y e.symm; omega)).trans (blk_below HY8.out HB9.out)
      have hC10 := (HC8.out.then_below HB9.out).ofGrown hg10 (fun q hq => .inr (own_base HR9.out hq))
      have htop : ∀ q, (Value.slice A10 (l ++ gapI s i p.a j p.b).length c10).ownBlock = some q → q ≠ Y := fun q hq e => by
        subst e
        rcases hat10 with h | h
        · have := HTOP.out q (h.symm.trans hq); omega
        · rw [h] at hq; have h1 := Option.some.inj hq; have := blk_lt HY8.out; omega
      have y0 := blk_cell hY10 0
      have y1 := blk_cell hY10 1
      have y2 := blk_cell hY10 2
      have hs10 := hC10.size
      have HR10 := Lib.hid hr10
      have HG10 := Lib.hid hG10
      have HY10 := Lib.hid hY10
      have HC10 := Lib.hid hC10
      have hl10 : (l ++ gapI s i p.a j p.b).length ≤ 1000 := by rw [List.length_append]; omega
      clear hown10 hg10 hr10 hG10 hY10 hC10 HR9 HP9 HB9 HR8 HG8 HY8 HC8 HTOP g0 g1 g2 g3
      generalize hY' : l ++ gapI s i p.a j p.b = l2 at *
      have HL2 := Lib.hid hY'
      have HTOP := Lib.hid htop
      clear hY' htop hat10
      go_upto_region 11 with (at_builtin; refine wpList_append_own _ rfl _ _ 25 rfl w6.heap.size 28 ip _ 3 24 Try.underlying25 hi hz0 hz1 hz2 rfl (by decide) _ _ _ rfl (HR10.out.alloc _) ⟨w10.heap.size, 0, none⟩ 1 1 (PairT.vals p) rfl rfl ?a1 ?a2 ?a3 ?a4 ?a5 ?_; (case a1 => exact World.news_of_block (heap_alloc_new _ _)); (case a2 => simp [PairT.vals, Value.oneCell']); (case a3 => unfold maxLen; omega); (case a4 => omega); (case a5 => simp; omega); intro v12 w12 hown12 hg12 _)
      have hr12 : PairRow w12 w6.heap.size v12 (l2 ++ [p]) := PairRow.snoc hown12
      have hG12 : w12.heap[Gb]? = _ := (hg12.block Gb (by have := blk_lt HG10.out; simp; omega) (own_farB HR10.out hG6)).trans (blk_alloc HG10.out _)
      have hY12 : w12.heap[Y]? = _ := (hg12.block Y (by have := blk_lt HY10.out; simp; omega) (fun e => HTOP.out Y e.symm rfl)).trans (blk_alloc HY10.out _)
      have hC12 := (HC10.out.alloc _).ofGrown hg12 (fun q hq => .inr (own_base HR10.out hq))
      obtain ⟨A12, c12, hv12⟩ := hr12.val
      subst hv12
      have g0 := blk_cell hG12 0
      have g1 := blk_cell hG12 1
      replace g0 : w12.cell? ⟨Gb, 0, none⟩ = some (.int .i64 (i : Nat)) := g0
      replace g1 : w12.cell? ⟨Gb, 1, none⟩ = some (.int .i64 (j : Nat)) := g1
      have f0 := blk_frozen hG12 0
      have f1 := blk_frozen hG12 1
      have y0 := blk_cell hY12 0
      have y1 := blk_cell hY12 1
      replace y0 : w12.cell? ⟨Y, 0, none⟩ = some (.int .i64 (p.a : Nat)) := y0
      replace y1 : w12.cell? ⟨Y, 1, none⟩ = some (.int .i64 (p.b : Nat)) := y1
      have i1 : IntKind.i64.wrap ((p.a : Int) + 1) = (p.a : Int) + 1 := IntWalk.i64_in _ (by omega)
      have i2 : IntKind.i64.wrap ((p.b : Int) + 1) = (p.b : Int) + 1 := IntWalk.i64_in _ (by omega)
      have HR12 := Lib.hid hr12
      have HG12 := Lib.hid hG12
      have HC12 := Lib.hid hC12
      clear hown12 hg12 hr12 hG12 hY12 hC12 HR10 HG10 HY10 HC10 HTOP y2
      go_region
      have hC13 := ((HC12.out.setCell (p := ⟨Gb, 0, none⟩) (.inl rfl) (.int .i64 ((p.a : Int) + 1))).setCell (p := ⟨Gb, 1, none⟩) (.inl rfl) (.int .i64 ((p.b : Int) + 1))).drew
      have hG13 : ((w12.setCell ⟨Gb, 0, none⟩ (.int .i64 ((p.a : Int) + 1))).setCell ⟨Gb, 1, none⟩ (.int .i64 ((p.b : Int) + 1))).drew.heap[Gb]? = some (.cells #[.int .i64 ((p.a + 1 : Nat) : Int), .int .i64 ((p.b + 1 : Nat) : Int), .int .i64 (p.a : Nat), .int .i64 (p.b : Nat)] 87 (0, 0)) := by
        have := blk_set (blk_set HG12.out 0 (.int .i64 ((p.a : Int) + 1))) 1 (.int .i64 ((p.b : Int) + 1))
        rw [show ((p.a + 1 : Nat) : Int) = (p.a : Int) + 1 by omega, show ((p.b + 1 : Nat) : Int) = (p.b : Int) + 1 by omega]
        exact this
      have hR13 : PairRow ((w12.setCell ⟨Gb, 0, none⟩ (.int .i64 ((p.a : Int) + 1))).setCell ⟨Gb, 1, none⟩ (.int .i64 ((p.b : Int) + 1))).drew w6.heap.size (.slice A12 (l2 ++ [p]).length c12) (l2 ++ [p]) := own_keep HR12.out ((((Ch.refl (fun i => i = Gb) w12).setCell (p := ⟨Gb, 0, none⟩) (.inl rfl) (.int .i64 ((p.a : Int) + 1))).setCell (p := ⟨Gb, 1, none⟩) (.inl rfl) (.int .i64 ((p.b : Int) + 1))).drew) (fun q hq _ e => by omega)
      have HC13 := Lib.hid hC13
      have HG13 := Lib.hid hG13
      have HL13 : Hid (∃ l', PairRow ((w12.setCell ⟨Gb, 0, none⟩ (.int .i64 ((p.a : Int) + 1))).setCell ⟨Gb, 1, none⟩ (.int .i64 ((p.b : Int) + 1))).drew w6.heap.size (.slice A12 (l2 ++ [p]).length c12) l' ∧ loopL s X 0 0 = l' ++ loopL s (X.drop (k + 1)) (p.a + 1) (p.b + 1)) := Lib.hid ⟨l2 ++ [p], hR13, by rw [HLO.out, ← HL2.out]; simp⟩
      clear hC13 hG13 hR13 HC12 HG12 HR12 HLO HL2 g0 g1 f0 f1 y0 y1 i1 i2
      go_wp2
      go_roundw
      case rel => exact ⟨k + 1, p.a + 1, p.b + 1, p.a, p.b, by omega, by omega, by omega, by go_num, HC13.out, HG13, HL13⟩
      case measure => simp [RowKit.intOf]; omega
    · obtain rfl : k = X.length := by omega
      obtain ⟨l, hrow, hloop⟩ := HL.out
      rw [List.drop_length, loopL, List.append_nil, HLP2.out] at hloop
      subst hloop
      have hll2 : (listsL a b ++ [S]).length = (listsL a b).length + 1 := by simp
      have hrow2 := hrow
      unfold PairRow at hrow2
      rw [hll2] at hrow2
      obtain ⟨g, cp, hv, q1, q2, q3⟩ := own_form hrow2 (Nat.succ_pos _)
      subst hv
      have hat : PairsAt wr (some ⟨g, 0, none⟩) (listsL a b) := fun _ => ⟨g, rfl, fun jj u hu => by
        have hlt : jj < (pairCells (listsL a b)).length := (List.getElem?_eq_some_iff.1 hu).1
        refine (own_cell hrow2 jj u ?_).1
        rw [pairCells_append, List.getElem?_append_left hlt]
        exact hu⟩
      have HAT := Lib.hid hat
      have HGE : Hid (w.heap.size ≤ g) := Lib.hid (Nat.le_trans HB7.out.size q1)
      have HBF := Lib.hid (HB7.out.trans (hC.toBelow (B := w.heap.size) HB7.out.size (fun i hi e => by omega)))
      clear hrow hrow2 hat HL HBX hll2 hlt
      go_wp2
      go_ret
      exact ⟨_, _, rfl, HAT.out, fun g' e => (by injection e with e; injection e with e _ _; subst e; exact HGE.out), HBF.out⟩

end Go.Proofs.Ytdlenbkkcpcbmaa
