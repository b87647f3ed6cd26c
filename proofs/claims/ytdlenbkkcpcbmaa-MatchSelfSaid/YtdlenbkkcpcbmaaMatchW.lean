/- What is below two nodes is matched (match.pager.match): its contract. -/
import Derived.Test.YtdlenbkkcpcbmaaListsW
import Derived.Test.YtdlenbkkcpcbmaaPagesL
namespace Go.Proofs.Ytdlenbkkcpcbmaa
open Go.RowKit Go.Lib Go.Sort Go.BigFrame

/-- A pager in block b: both pages' items, and the pairs that were gathered, in a row. -/
def Pager (w : World) (b : Nat) (IA : Option Addr) (na ca : Nat) (IB : Option Addr) (nb cb : Nat) (v : Value) (out : List PairT) : Prop :=
  w.heap[b]? = some (.cells #[.slice IA na ca, .slice IB nb cb, v] 58 (0, 0)) ∧ PairRow w (b + 1) v out
/-- What may have changed where pairs were gathered: the pager, and its row. -/
structure PStep (b : Nat) (w w' : World) (v v' : Value) : Prop where
  ch : Ch (fun i => i = b ∨ v.ownBlock = some i) w w'
  own : ∀ k, v'.ownBlock = some k → v.ownBlock = some k ∨ w.heap.size ≤ k
theorem PStep.refl (b : Nat) (w : World) (v : Value) : PStep b w w v v := ⟨Ch.refl _ _, fun _ h => .inl h⟩
theorem PStep.trans {b : Nat} {w w1 w2 : World} {v v1 v2 : Value} (h : PStep b w w1 v v1) (k : PStep b w1 w2 v1 v2) : PStep b w w2 v v2 :=
  ⟨h.ch.trans k.ch (fun i hi ho => by
    rcases ho with ho | ho
    · exact .inl ho
    · rcases h.own i ho with h1 | h1
      · exact .inr h1
      · omega), fun q hq => by
    rcases k.own q hq with h1 | h1
    · exact h.own q h1
    · right; have := h.ch.size; omega⟩
theorem PStep.below {b : Nat} {w w1 w2 : World} {v v1 : Value} (h : PStep b w w1 v v1) (k : Below w1.heap.size w1 w2) : PStep b w w2 v v1 := ⟨h.ch.then_below k, h.own⟩
theorem Pager.below {w w' : World} {b : Nat} {IA IB : Option Addr} {na ca nb cb : Nat} {v : Value} {out : List PairT} (h : Pager w b IA na ca IB nb cb v out) (hb : Below w.heap.size w w') : Pager w' b IA na ca IB nb cb v out := ⟨blk_below h.1 hb, h.2.below hb⟩
/-- One more pair is gathered. -/
theorem pager_push {w w1 w2 : World} {b g cap : Nat} {IA IB : Option Addr} {na ca nb cb : Nat} {v : Value} {l : List PairT} {p : PairT} (hP : Pager w b IA na ca IB nb cb v l) (hw1 : Below w.heap.size w w1)
    (hown : w2.ownsRow (b + 1) 28 3 (.slice (some ⟨g, 0, none⟩) (l.length + 1) cap) (l.length + 1) (pairCells l ++ p.vals)) (hg : w1.grownBy w2 v.ownBlock) (hat : v.ownBlock = some g ∨ g = w1.heap.size) :
    Pager (w2.setCell ⟨b, 2, none⟩ (.slice (some ⟨g, 0, none⟩) (l.length + 1) cap)) b IA na ca IB nb cb (.slice (some ⟨g, 0, none⟩) (l.length + 1) cap) (l ++ [p]) ∧ PStep b w (w2.setCell ⟨b, 2, none⟩ (.slice (some ⟨g, 0, none⟩) (l.length + 1) cap)) v (.slice (some ⟨g, 0, none⟩) (l.length + 1) cap) := by
  obtain ⟨hb, hr⟩ := hP
  have hb1 := blk_below hb hw1
  have hb2 := (hg.block b (blk_lt hb1) (own_farB hr (Nat.lt_succ_self b))).trans hb1
  have hr2 : PairRow w2 (b + 1) (.slice (some ⟨g, 0, none⟩) (l.length + 1) cap) (l ++ [p]) := PairRow.snoc hown
  refine ⟨⟨blk_set hb2 2 _, ?_⟩, ⟨?_, ?_⟩⟩
  · exact hr2.kept (grown_set w2 ⟨b, 2, none⟩ _) (.inr (own_farB hr2 (Nat.lt_succ_self b)).symm)
  · exact (((Ch.of_below hw1).ofGrown hg (fun k hk => .inl (.inr hk))).setCell (p := ⟨b, 2, none⟩) (.inl (.inl rfl)) _)
  · intro k hk
    simp only [Value.ownBlock] at hk
    have hk := Option.some.inj hk
    rcases hat with h | h
    · left; rw [h, hk]
    · right; have := hw1.size; omega
theorem PStep.toBelow {b B : Nat} {w0 w w' : World} {IA IB : Option Addr} {na ca nb cb : Nat} {v v' : Value} {l : List PairT} (h : PStep b w w' v v') (hP : Pager w b IA na ca IB nb cb v l) (hB : B ≤ b) (hw : Below B w0 w) (h0 : B ≤ w.heap.size) : Below B w0 w' :=
  hw.trans (h.ch.toBelow h0 (fun i hi ho => by
    rcases ho with rfl | ho
    · omega
    · have := own_base hP.2 ho; omega))
set_option maxRecDepth 100000 in
set_option maxHeartbeats 16000000 in
theorem match_calls (w0 : World) (b : Nat) (hb0 : b = w0.heap.size) (ia ib : List ItemT) (IA IB : Option Addr) (ca cb : Nat) (hia : ItemsAt w0 IA ia) (hib : ItemsAt w0 IB ib) (hza : ia.length ≤ 1000) (hzb : ib.length ≤ 1000) :
    ∀ (N : Nat) (a c : List NodeT), countL a ≤ N → okL a → okL c → ∀ (w : World) (K K' : Option Addr) (d d' : Nat) (fa fb : Nat) (pa qa pb qb : List ItemT) (da db : Int) (v : Value) (out : List PairT),
      Seg ia a fa pa qa da → Seg ib c fb pb qb db → NodesIn w0 K 0 a → NodesIn w0 K' 0 c → Below w0.heap.size w0 w → Pager w b IA ia.length ca IB ib.length cb v out → out.length + countL a ≤ 1000 →
      Calls Try.prog 20 #[.pointer (some ⟨b, 0, none⟩), .slice K a.length d, .slice K' c.length d', .int .i64 ((fa : Int) - 1), .int .i64 ((fb : Int) - 1)] w fun e w' =>
        e = .returned (.tuple #[]) ∧ Below w0.heap.size w0 w' ∧ ∃ v', Pager w' b IA ia.length ca IB ib.length cb v' (out ++ pagesF (N + 1) a c fa fb) ∧ PStep b w w' v v' := by
  have HBE := Lib.hid hb0
  obtain ⟨ip, hip, hpz0, hpz1, hpz2⟩ := info_parts infoP
  clear hb0
  intro N
  induction N using Nat.strongRecOn with
  | _ N ih =>
    intro a c hN oka okc w K K' d d' fa fb pa qa pb qb da db v out sa sb ha hc hB hP hlen
    have hca : countL a ≤ ia.length := by rw [sa.eq]; simp [itemsL_len]; omega
    have hcc : countL c ≤ ib.length := by rw [sb.eq]; simp [itemsL_len]; omega
    have ska := sa.kids
    have skb := sb.kids
    obtain ⟨hbk, hrow⟩ := hP
    obtain ⟨na, hna⟩ : ∃ na, (List.range a.length).map (fun q => fa + countL (a.take q)) = na := ⟨_, rfl⟩
    obtain ⟨nc, hnc⟩ : ∃ nc, (List.range c.length).map (fun q => fb + countL (c.take q)) = nc := ⟨_, rfl⟩
    have hnal : na.length = a.length := by rw [← hna]; simp
    have hncl : nc.length = c.length := by rw [← hnc]; simp
    have hna2 : ∀ q, q < a.length → na[q]? = some (fa + countL (a.take q)) := fun q hq => by rw [← hna]; exact range_at _ _ q hq
    have hnc2 : ∀ q, q < c.length → nc[q]? = some (fb + countL (c.take q)) := fun q hq => by rw [← hnc]; exact range_at _ _ q hq
    rw [hna] at ska
    rw [hnc] at skb
    have KA := Lib.hid (fun W h => kids_calls ia (by omega) ((fa : Int) - 1) W IA ca h)
    have KB := Lib.hid (fun W h => kids_calls ib (by omega) ((fb : Int) - 1) W IB cb h)
    rw [ska, hnal] at KA
    rw [skb, hncl] at KB
    have LC := Lib.hid (fun W h h' => lists_calls a c (by omega) (by omega) oka okc W K K' d d' h h')
    have HIA := Lib.hid hia
    have HIB := Lib.hid hib
    have p0 := blk_cell hbk 0
    have p1 := blk_cell hbk 1
    replace p0 : w.cell? ⟨b, 0, none⟩ = some (.slice IA ia.length ca) := p0
    replace p1 : w.cell? ⟨b, 1, none⟩ = some (.slice IB ib.length cb) := p1
    have hbd := below_drew1 (Below.refl w.heap.size w)
    have hbZ : b < w.heap.size := blk_lt hbk
    have htop : ∀ q, v.ownBlock = some q → q < w.heap.size := fun q hq => own_top hrow hq
    have HTOP := Lib.hid htop
    clear htop
    have hz1 : w.drew.heap.size = w.heap.size := rfl
    have HPG : Hid (Pager w.drew b IA ia.length ca IB ib.length cb v out) := Lib.hid (Pager.below ⟨hbk, hrow⟩ hbd)
    have HPS : Hid (PStep b w w.drew v v) := Lib.hid ((PStep.refl b w v).below hbd)
    have hb1 := below_drew1 hB
    have HSA := Lib.hid sa
    have HSB := Lib.hid sb
    have HNA := Lib.hid ha
    have HNC := Lib.hid hc
    have HN1 := Lib.hid hna2
    have HN2 := Lib.hid hnc2
    have IH := Lib.hid ih
    clear ih ha hc hB hbk hrow sa sb ska skb hia hib hna hnc hnal hncl hna2 hnc2 hbd
    go_enter Try.func20, Try.ntmps20
    go_upto_region 0 with fail
    refine region_sched (fun _ => False) 14 [(0, true), (1, true), (2, true), (3, true), (4, true), (6, true), (7, true), (8, true), (9, true), (10, true), (5, false), (11, false), (12, true), (13, true)] (by kernel_rfl) (by kernel_rfl) ?hq ?_
    case hq => exact fun _ _ d _ _ h => by cases d <;> exact h
    have hd0 : w.drew.cell? ⟨b, 0, none⟩ = some (.slice IA ia.length ca) := p0
    have hd1 : w.drew.cell? ⟨b, 1, none⟩ = some (.slice IB ib.length cb) := p1
    clear p0 p1
    generalize w.drew = w1 at *
    have HZ1 := Lib.hid hz1
    clear hz1
    have g0 := Fut.cellB hd0
    have g1 := Fut.cellB hd1
    refine sched_quiet [0, 1, 2, 3, 4, 6, 7, 8, 9, 10] [_, _, _, _, _, _, _, _, _, _] _ rfl rfl ?_
    simp only [List.getElem_toArray, List.getElem_cons_zero, List.getElem_cons_succ]
    repeat (go_big_quiet_step (fail))
    refine wpQuiet_nil ?_
    refine sched_sole rfl (by decide) ?_
    simp only [List.getElem_toArray, List.getElem_cons_zero, List.getElem_cons_succ]
    intro KK hKK
    have hI2 := HIA.out.below hb1
    have HKK := Lib.hid hKK
    have HB1 := Lib.hid hb1
    clear hKK hb1 g0 g1 hd0 hd1
    go_wp2_with (go_at_call 33; (with_reducible refine (KA.out _ hI2).mono ?_); rintro e w3 ⟨A1, c1, rfl, hi1, hfr1, hb3⟩)
    refine HKK.out _ _ (Ch.of_below hb3) ?_
    have HPG3 := Lib.hid (HPG.out.below hb3)
    have HPS3 := Lib.hid (HPS.out.below hb3)
    have hb3' := below_then HB1.out HB1.out.size hb3
    have hz3 : w.heap.size ≤ w3.heap.size := by have := hb3.size; rw [HZ1.out] at this; exact this
    have HF1 : Hid (∀ g, A1 = some ⟨g, 0, none⟩ → w.heap.size ≤ g) := Lib.hid (fun g e => by have := hfr1 g e; rw [HZ1.out] at this; exact this)
    have hI4 := HIB.out.below hb3'
    have HB3 := Lib.hid hb3'
    clear hfr1 HKK KK HPG HPS HB1 hI2 hb3 hb3' KA
    refine sched_sole rfl (by decide) ?_
    simp only [List.getElem_toArray, List.getElem_cons_zero, List.getElem_cons_succ]
    intro KK hKK
    have HKK := Lib.hid hKK
    clear hKK
    go_wp2_with (go_at_call 33; (with_reducible refine (KB.out _ hI4).mono ?_); rintro e w6 ⟨A2, c2, rfl, hi2, hfr2, hb5⟩)
    refine HKK.out _ _ (Ch.of_below hb5) ?_
    have HPG6 := Lib.hid (HPG3.out.below hb5)
    have HPS6 := Lib.hid (HPS3.out.below hb5)
    have HB6 := Lib.hid (below_then HB3.out HB3.out.size hb5)
    have HI16 := Lib.hid (hi1.below hb5)
    have HI26 := Lib.hid hi2
    have HF2 : Hid (∀ g, A2 = some ⟨g, 0, none⟩ → w.heap.size ≤ g) := Lib.hid (fun g e => by have := hfr2 g e; omega)
    have hZ6 : w.heap.size ≤ w6.heap.size := by have := hb5.size; omega
    clear hfr2 HKK KK HPG3 HPS3 HB3 hI4 hb5 KB hi1 hi2 hz3 w3 HZ1 w1
    refine sched_quiet [12, 13] [_, _] _ rfl rfl ?_
    simp only [List.getElem_toArray, List.getElem_cons_zero, List.getElem_cons_succ]
    repeat (go_big_quiet_step (fail))
    refine wpQuiet_nil ?_
    have hpl := lists_in a c
    have hwh := lists_whole a c
    obtain ⟨ps, hps⟩ : ∃ ps, listsL a c = ps := ⟨_, rfl⟩
    have hpg : pagesF (N + 1) a c fa fb = ps.flatMap (belowP (pagesF N) a c fa fb) := by rw [pagesF, hps]
    have hpgl := pagesF_len (pagesF_rises (N + 1) a c fa fb) (by omega)
    have hpsl := pagesF_len hpl (Nat.zero_le _)
    rw [hps] at hpl hwh LC hpsl
    have HPL := Lib.hid hpl
    have HWH := Lib.hid hwh
    have HPGF := Lib.hid hpg
    clear hps hpl hwh hpg
    have hal : a.length ≤ 1000 := Nat.le_trans (len_count a) (by omega)
    show Exit.then _ _ Exit.normal _ _
    go_upto_region 2 with (go_at_call 34; (with_reducible refine (LC.out _ (NodesIn.below HB6.out HNA.out) (NodesIn.below HB6.out HNC.out)).mono ?_); rintro e w7 ⟨A3, c3, rfl, hp7, hfr3, hb7⟩)
    have HPG7 := Lib.hid (HPG6.out.below hb7)
    have HPS7 := Lib.hid (HPS6.out.below hb7)
    have HB7 := Lib.hid (below_then HB6.out HB6.out.size hb7)
    have HI1 := Lib.hid (HI16.out.below hb7)
    have HI2 := Lib.hid (HI26.out.below hb7)
    have HF3 : Hid (∀ g, A3 = some ⟨g, 0, none⟩ → w.heap.size ≤ g) := Lib.hid (fun g e => by have := hfr3 g e; omega)
    have HPA := Lib.hid hp7
    have hz7 : w.heap.size ≤ w7.heap.size := by have := hb7.size; omega
    have hnot : ∀ g, w.heap.size ≤ g → ¬ (g = b ∨ v.ownBlock = some g) := fun g hg e => by
      rcases e with e | e
      · omega
      · have := HTOP.out g e; omega
    have HNOT := Lib.hid hnot
    clear hnot hp7 hfr3 hb7 HPG6 HPS6 HB6 HI16 HI26 LC
    go_loopw [33] (fun x wr => ∃ k q q' : Nat, k ≤ ps.length ∧ x = .int .i64 k ∧ Below w0.heap.size w0 wr ∧ Hid (Rises q q' a.length c.length (ps.drop k)) ∧ Hid (∃ v' l, l.length ≤ out.length + countL (a.take q) ∧ Pager wr b IA ia.length ca IB ib.length cb v' l ∧ PStep b w7 wr v v' ∧ out ++ pagesF (N + 1) a c fa fb = l ++ (ps.drop k).flatMap (belowP (pagesF N) a c fa fb))) (fun x _ => ps.length - (RowKit.intOf x).toNat)
    case atStart => exact ⟨0, 0, 0, Nat.zero_le _, rfl, HB7.out, HPL, Lib.hid ⟨v, out, Nat.le_add_right _ _, HPG7.out, PStep.refl _ _ _, by rw [HPGF.out]; rfl⟩⟩
    case round =>
      clear HPG7 HB7
      obtain ⟨k, q0, q1, hk, rfl, hBr, HRI, HL⟩ := hrel
      obtain ⟨v', l, hllen, hpr, hst, htot⟩ := HL.out
      by_cases hlt : k < ps.length
      · obtain ⟨p, hp⟩ : ∃ p, ps[k]? = some p := ⟨_, List.getElem?_eq_getElem hlt⟩
        have hdrop : ps.drop k = p :: ps.drop (k + 1) := by
          obtain ⟨h1, h2⟩ := List.getElem?_eq_some_iff.1 hp
          rw [List.drop_eq_getElem_cons h1, h2]
        rw [hdrop, List.flatMap_cons, belowP] at htot
        have hri := HRI.out
        rw [hdrop] at hri
        have hq0 := take_count_le a hri.1.1
        have hts := take_step a p.a hri.1.2.2.1
        have htl := countL_take_le a (p.a + 1)
        have HRI2 := Lib.hid hri.2
        have hll2 : l.length + (1 + countL (kidsAt a p.a)) ≤ 1000 := by omega
        have hll3 : l.length + (1 + countL (kidsAt a p.a)) ≤ out.length + countL (a.take (p.a + 1)) := by omega
        have HLL3 := Lib.hid hll3
        clear hri hll3 HRI hllen hq0 hts htl
        have hpb := (rises_ge HPL.out p (List.mem_of_getElem? hp)).2.2
        have hpw := HWH.out p (List.mem_of_getElem? hp)
        obtain ⟨g3, rfl, hc3⟩ := HPA.out (by omega)
        obtain ⟨e0, e1, e2⟩ := pairs_at hc3 hp
        have n3 := HNOT.out g3 (HF3.out g3 rfl)
        replace e0 := hst.ch.cell e0 n3
        replace e1 := hst.ch.cell e1 n3
        replace e2 := hst.ch.cell e2 n3
        obtain ⟨g1, rfl, hc1⟩ := HI1.out (by have := (List.getElem?_eq_some_iff.1 (HN1.out p.a hpb.1)).1; omega)
        obtain ⟨g2, rfl, hc2⟩ := HI2.out (by have := (List.getElem?_eq_some_iff.1 (HN2.out p.b hpb.2)).1; omega)
        have k1 := hst.ch.cell (hc1 p.a _ (HN1.out p.a hpb.1)) (HNOT.out g1 (HF1.out g1 rfl))
        have k2 := hst.ch.cell (hc2 p.b _ (HN2.out p.b hpb.2)) (HNOT.out g2 (HF2.out g2 rfl))
        have hadd := add0 g3 (k * 3)
        have hadd1 := add0 g1 p.a
        have hadd2 := add0 g2 p.b
        obtain ⟨i, hi⟩ : ∃ i, fa + countL (a.take p.a) = i := ⟨_, rfl⟩
        obtain ⟨j, hj⟩ : ∃ j, fb + countL (c.take p.b) = j := ⟨_, rfl⟩
        rw [hi, hj] at htot
        rw [hi] at k1
        rw [hj] at k2
        have HTT := Lib.hid htot
        have HEI := Lib.hid hi
        have HEJ := Lib.hid hj
        have hn7 := PStep.below hst ((Below.refl _ _).alloc (Nat.le_refl _) (.cells #[.int .i64 (p.a : Nat), .int .i64 (p.b : Nat), .bool p.whole] 28))
        have hp7 := hpr.below ((Below.refl _ _).alloc (Nat.le_refl _) (.cells #[.int .i64 (p.a : Nat), .int .i64 (p.b : Nat), .bool p.whole] 28))
        have hB7 := hBr.alloc hBr.size (.cells #[.int .i64 (p.a : Nat), .int .i64 (p.b : Nat), .bool p.whole] 28)
        have hY7 := blk_new wr #[.int .i64 (p.a : Nat), .int .i64 (p.b : Nat), .bool p.whole] 28
        have hbr := blk_lt hpr.1
        have htop : ∀ q, v'.ownBlock = some q → q < wr.heap.size := fun q hq => own_top hpr.2 hq
        replace k1 : (wr.alloc (.cells #[.int .i64 (p.a : Nat), .int .i64 (p.b : Nat), .bool p.whole] 28)).cell? ⟨g1, p.a, none⟩ = some (.int .i64 (i : Nat)) := (World.cell?_of_block (heap_alloc_old wr _ (World.block_lt_of_cell? wr _ k1))).trans k1
        replace k2 : (wr.alloc (.cells #[.int .i64 (p.a : Nat), .int .i64 (p.b : Nat), .bool p.whole] 28)).cell? ⟨g2, p.b, none⟩ = some (.int .i64 (j : Nat)) := (World.cell?_of_block (heap_alloc_old wr _ (World.block_lt_of_cell? wr _ k2))).trans k2
        have ipa : (p.a : Int) < (a.length : Int) := by omega
        have ipb : (p.b : Int) < (c.length : Int) := by omega
        clear hdrop hp hpr hst htot hi hj hBr HL hc1 hc2 hc3 n3
        go_upto_region 4 with fail
        generalize wr.alloc (.cells #[.int .i64 (p.a : Nat), .int .i64 (p.b : Nat), .bool p.whole] 28) = w8 at *
        generalize wr.heap.size = Y at *
        have y0 := blk_cell hY7 0
        have y1 := blk_cell hY7 1
        have y2 := blk_cell hY7 2
        replace y0 : w8.cell? ⟨Y, 0, none⟩ = some (.int .i64 (p.a : Nat)) := y0
        replace y1 : w8.cell? ⟨Y, 1, none⟩ = some (.int .i64 (p.b : Nat)) := y1
        replace y2 : w8.cell? ⟨Y, 2, none⟩ = some (.bool p.whole) := y2
        obtain ⟨A8, c8, hv8⟩ := hp7.2.val
        subst hv8
        have q2 := blk_cell hp7.1 2
        replace q2 : w8.cell? ⟨b, 2, none⟩ = some (.slice A8 l.length c8) := q2
        have f2 := blk_frozen hp7.1 2
        have hYb : Y ≠ b := by omega
        have HTP := Lib.hid htop
        have HY7 := Lib.hid hY7
        have HN7 := Lib.hid hn7
        have HP7 := Lib.hid hp7
        have HB7 := Lib.hid hB7
        clear hY7 hn7 hp7 hB7 htop e0 e1 e2 hadd
        go_quiet (fail)
        go_upto_region 5 with fail
        have hn9 := PStep.below HN7.out (below_drew1 (below_drewN (Below.refl w8.heap.size w8) nq))
        have hp9 := HP7.out.below (below_drew1 (below_drewN (Below.refl w8.heap.size w8) nq))
        have hB9 := below_drew1 (below_drewN HB7.out nq)
        have hY9 : (w8.drewN nq).drew.heap[Y]? = _ := HY7.out
        have hnb : ¬ (Value.slice A8 l.length c8).ownBlock = some b := fun e => by have := own_base HP7.out.2 e; omega
        have hnY : ¬ (Value.slice A8 l.length c8).ownBlock = some Y := fun e => by have := HTP.out Y e; omega
        refine region_sched (fun q => (Value.slice A8 l.length c8).ownBlock = some q) 14 [(0, true), (1, true), (2, true), (3, true), (4, true), (5, true), (6, true), (7, true), (8, true), (9, true), (10, false), (11, false), (12, true), (13, true), (14, false)] (by kernel_rfl) (by kernel_rfl) ?hq ?_
        case hq => exact fun _ _ d _ _ h => by cases d <;> exact h
        clear y0 y1 y2 q2 f2 k1 k2 HY7 HN7 HP7 HB7
        generalize (w8.drewN nq).drew = w9 at *
        have z2 := Fut.cell (O := fun q => (Value.slice A8 l.length c8).ownBlock = some q) (show w9.cell? ⟨b, 2, none⟩ = some (.slice A8 l.length c8) from blk_cell hp9.1 2) hnb
        have zY := Fut.cell (O := fun q => (Value.slice A8 l.length c8).ownBlock = some q) (show w9.cell? ⟨Y, 2, none⟩ = some (.bool p.whole) from blk_cell hY9 2) hnY
        have HY9 := Lib.hid hY9
        have HN9 := Lib.hid hn9
        have HP9 := Lib.hid hp9
        have HB9 := Lib.hid hB9
        clear hY9 hn9 hp9 hB9
        refine sched_quiet [0, 1, 2, 3, 4, 5, 6, 7, 8, 9] [_, _, _, _, _, _, _, _, _, _] _ rfl rfl ?_
        simp only [List.getElem_toArray, List.getElem_cons_zero, List.getElem_cons_succ]
        repeat (go_big_quiet_step (fail))
        refine wpQuiet_nil ?_
        refine sched_sole rfl (by decide) ?_
        simp only [List.getElem_toArray, List.getElem_cons_zero, List.getElem_cons_succ]
        intro KK hKK
        have HKK := Lib.hid hKK
        have HW1 := Lib.hid ((Below.refl w9.heap.size w9).alloc (Nat.le_refl _) (.cells #[.int .i64 (i : Nat), .int .i64 (j : Nat), .bool p.whole] 28))
        have HOW := Lib.hid (HP9.out.2.alloc (.cells #[.int .i64 (i : Nat), .int .i64 (j : Nat), .bool p.whole] 28))
        have HNW := Lib.hid (blk_new w9 #[.int .i64 (i : Nat), .int .i64 (j : Nat), .bool p.whole] 28)
        have hb9 := blk_lt HP9.out.1
        clear hKK z2 zY
        go_wp2
        refine HKK.out _ _ ((Ch.refl _ _).alloc _) ?_
        clear HKK KK
        refine sched_sole rfl (by decide) ?_
        simp only [List.getElem_toArray, List.getElem_cons_zero, List.getElem_cons_succ]
        intro KK hKK
        have HKK := Lib.hid hKK
        clear hKK
        go_wp2_with (at_builtin; refine wpList_append_lies _ rfl _ _ 25 rfl (b + 1) 28 ip _ 3 24 Try.underlying25 hip hpz0 hpz1 hpz2 rfl (by decide) _ _ _ rfl HOW.out ⟨w9.heap.size, 0, none⟩ 1 1 (PairT.vals ⟨i, j, p.whole⟩) rfl rfl ?a1 ?a2 ?a0 ?a3 ?a4 ?a5 _ rfl ?_; (case a0 => decide); (case a1 => exact World.news_of_block HNW.out); (case a2 => simp [PairT.vals, Value.oneCell']); (case a3 => unfold maxLen; omega); (case a4 => omega); (case a5 => simp; omega); intro g cap w11 hown11 hg11 hat11 hlt11)
        refine HKK.out _ _ ((Ch.refl _ _).ofGrown hg11 (fun q hq => .inl hq)) ?_
        obtain ⟨hP12, hS12⟩ := pager_push (p := ⟨i, j, p.whole⟩) HP9.out HW1.out hown11 hg11 hat11
        have hbk11 := (hg11.block b (by simp; omega) (own_farB HOW.out (Nat.lt_succ_self b))).trans (blk_alloc HP9.out.1 _)
        have x2 := blk_cell hbk11 2
        have xf := blk_frozen hbk11 2
        replace x2 : w11.cell? ⟨b, 2, none⟩ = some (.slice A8 l.length c8) := x2
        have HP12 := Lib.hid hP12
        have HS12 := Lib.hid hS12
        clear hP12 hS12 hbk11 hown11 hg11 hat11 HKK KK HW1 HOW HNW
        simp only [Act.put]
        go_simp
        refine sched_quiet [12, 13] [_, _] _ rfl rfl ?_
        simp only [List.getElem_toArray, List.getElem_cons_zero, List.getElem_cons_succ]
        repeat (go_big_quiet_step (fail))
        refine wpQuiet_nil ?_
        refine sched_last rfl rfl ?_
        simp only [List.getElem_toArray, List.getElem_cons_zero, List.getElem_cons_succ]
        go_upto_region 6 with fail
        have hP12 := HP12.out
        have hS12 := HN9.out.trans HS12.out
        have hB12 := HS12.out.toBelow HP9.out (by rw [HBE.out]; exact Nat.le_refl _) HB9.out HB9.out.size
        have hY12 := HS12.out.ch.blk HY9.out (fun e => e.elim hYb hnY)
        clear x2 xf HP12 HS12 HN9 HY9 HB9 HP9
        generalize w11.setCell ⟨b, 2, none⟩ (.slice (some ⟨g, 0, none⟩) (l.length + 1) cap) = w12 at *
        have y0 := blk_cell hY12 0
        have y1 := blk_cell hY12 1
        have y2 := blk_cell hY12 2
        replace y0 : w12.cell? ⟨Y, 0, none⟩ = some (.int .i64 (p.a : Nat)) := y0
        replace y1 : w12.cell? ⟨Y, 1, none⟩ = some (.int .i64 (p.b : Nat)) := y1
        replace y2 : w12.cell? ⟨Y, 2, none⟩ = some (.bool p.whole) := y2
        obtain ⟨n1, hn1⟩ : ∃ n1, a[p.a]? = some n1 := ⟨_, List.getElem?_eq_getElem hpb.1⟩
        obtain ⟨n2, hn2⟩ : ∃ n2, c[p.b]? = some n2 := ⟨_, List.getElem?_eq_getElem hpb.2⟩
        have hk1 : kidsAt a p.a = n1.kids := by rw [kidsAt, hn1]
        have hk2 : kidsAt c p.b = n2.kids := by rw [kidsAt, hn2]
        have HP12 := Lib.hid hP12
        have HS12 := Lib.hid hS12
        have HB12 := Lib.hid hB12
        clear hP12 hS12 hB12 hY12
        cases hw : p.whole with
        | false =>
          rw [hw] at y2 HP12
          obtain ⟨ad1, B1, b1, K1, d1, rfl, hv1, -, -, -, -, -, e5⟩ := HNA.out.at_ hn1
          obtain ⟨ad2, B2, b2, K2, d2, rfl, hv2, -, -, -, -, -, u5⟩ := HNC.out.at_ hn2
          obtain ⟨pre1, post1, seg1⟩ := HSA.out.sub hn1
          obtain ⟨pre2, post2, seg2⟩ := HSB.out.sub hn2
          rw [HEI.out] at seg1
          rw [HEJ.out] at seg2
          have hcm := count_mem a p.a n1 hn1
          have ok1 := (okL_mem oka hn1).parts.2.2.2.2
          have ok2 := (okL_mem okc hn2).parts.2.2.2.2
          have hbd := below_drew1 (Below.refl w12.heap.size w12)
          have hN1 : N - 1 + 1 = N := by omega
          have CA := Lib.hid (IH.out (N - 1) (by omega) n1.kids n2.kids (by omega) ok1 ok2 w12.drew K1 K2 d1 d2 (i + 1) (j + 1) _ _ _ _ _ _ _ _ seg1 seg2 hv1.kids hv2.kids (below_drew1 HB12.out) (HP12.out.below hbd) (by rw [hk1] at hll2; simp; omega))
          rw [hN1, show (((i + 1 : Nat) : Int) - 1) = (i : Int) by omega, show (((j + 1 : Nat) : Int) - 1) = (j : Int) by omega] at CA
          replace e5 := (HB12.out.cell (World.block_lt_of_cell? w0 _ e5)).trans e5
          replace u5 := (HB12.out.cell (World.block_lt_of_cell? w0 _ u5)).trans u5
          have HS13 := Lib.hid (HS12.out.below hbd)
          have htot := HTT.out
          rw [hw, if_neg (by decide), hk1, hk2] at htot
          have HTT2 := Lib.hid htot
          rw [hk1] at HLL3
          have hplen := pagesF_len (pagesF_rises N n1.kids n2.kids (i + 1) (j + 1)) (by omega)
          clear hN1 hn1 hn2 hk1 hk2 hv1 hv2 seg1 seg2 ok1 ok2 hw hbd htot HTT HPGF HPA hcm HP12 HS12 HB12
          go_upto_region 7 with fail
          refine region_sched (fun _ => False) 15 [(0, true), (1, true), (2, true), (3, true), (4, true), (5, true), (6, true), (7, true), (8, true), (9, true), (10, true), (11, true), (12, true), (13, true), (14, true), (15, false)] (by kernel_rfl) (by kernel_rfl) ?hq ?_
          case hq => exact fun _ _ d _ _ h => by cases d <;> exact h
          have hq0 : w12.drew.cell? ⟨Y, 0, none⟩ = some (.int .i64 (p.a : Nat)) := y0
          have hq1 : w12.drew.cell? ⟨Y, 1, none⟩ = some (.int .i64 (p.b : Nat)) := y1
          have hq5 : w12.drew.cell? ⟨(ad1.add (p.a * 6)).block, (ad1.add (p.a * 6)).off + 5, none⟩ = some (.slice K1 n1.kids.length d1) := e5
          have hr5 : w12.drew.cell? ⟨(ad2.add (p.b * 6)).block, (ad2.add (p.b * 6)).off + 5, none⟩ = some (.slice K2 n2.kids.length d2) := u5
          clear y0 y1 y2 e5 u5
          generalize w12.drew = w13 at *
          have z0 := Fut.cellB hq0
          have z1 := Fut.cellB hq1
          have z5 := Fut.cellB hq5
          have x5 := Fut.cellB hr5
          clear hq0 hq1 hq5 hr5
          refine sched_quiet [0, 1, 2, 3, 4, 5, 6, 7, 8, 9, 10, 11, 12, 13, 14] [_, _, _, _, _, _, _, _, _, _, _, _, _, _, _] _ rfl rfl ?_
          simp only [List.getElem_toArray, List.getElem_cons_zero, List.getElem_cons_succ]
          repeat (go_big_quiet_step (fail))
          refine wpQuiet_nil ?_
          refine sched_last rfl rfl ?_
          simp only [List.getElem_toArray, List.getElem_cons_zero, List.getElem_cons_succ]
          clear z0 z1 z5 x5
          go_upto_region 12 with (go_at_call 20; (with_reducible refine CA.out.mono ?_); rintro e w14 ⟨rfl, hB14, v14, hP14, hS14⟩)
          have HL14 : Hid (∃ v' l', l'.length ≤ out.length + countL (a.take (p.a + 1)) ∧ Pager w14 b IA ia.length ca IB ib.length cb v' l' ∧ PStep b w7 w14 v v' ∧ out ++ pagesF (N + 1) a c fa fb = l' ++ (ps.drop (k + 1)).flatMap (belowP (pagesF N) a c fa fb)) := Lib.hid ⟨v14, _, by
            have := HLL3.out
            simp only [List.length_append, List.length_cons, List.length_nil]
            omega, hP14, HS13.out.trans hS14, by rw [HTT2.out]; simp⟩
          clear hP14 hS14 CA HS13 HTT2 HLL3
          go_wp2
          go_roundw
          case rel => exact ⟨k + 1, p.a + 1, p.b + 1, by omega, by go_num, hB14, HRI2, HL14⟩
          case measure => simp [RowKit.intOf]; omega
        | true =>
          rw [hw] at y2 HP12
          have hsi := HSA.out.item hn1
          rw [HEI.out] at hsi
          have hil := (List.getElem?_eq_some_iff.1 hsi).1
          have hsj := HSB.out.item hn2
          rw [HEJ.out] at hsj
          have hjl := (List.getElem?_eq_some_iff.1 hsj).1
          obtain ⟨gi, rfl, -, -, -, -, i4⟩ := HIA.out.at_ hsi
          have htot := HTT.out
          rw [hw, if_pos rfl, hk1] at htot
          rw [hk1] at HLL3 hll2
          have HTT2 := Lib.hid htot
          obtain ⟨S, hS⟩ : ∃ S, countL n1.kids = S := ⟨_, rfl⟩
          have i4 : w0.cell? ⟨gi, i * 5 + 4, none⟩ = some (.int .i64 (1 + countL n1.kids : Nat)) := i4
          rw [hS] at HTT2 HLL3 i4 hll2
          rw [show ((1 + S : Nat) : Int) = 1 + (S : Int) by omega] at i4
          have HI4 := Lib.hid i4
          have hadi := add0 gi (i * 5)
          have HP12' : Hid (Pager w12 b (some ⟨gi, 0, none⟩) ia.length ca IB ib.length cb (.slice (some ⟨g, 0, none⟩) (l.length + 1) cap) (l ++ [⟨i, j, true⟩] ++ runP (i + 1) (j + 1) (1 - 1))) := Lib.hid (by simpa [runP] using HP12.out)
          clear hn1 hn2 hk1 hk2 hsi hsj htot HTT hw hS i4 HPGF HP12 y0 y1
          go_upto_region 9 with fail
          go_loopw [16] (fun x wz => ∃ t : Nat, 1 ≤ t ∧ t ≤ S + 1 ∧ x = .int .i64 t ∧ Below w0.heap.size w0 wz ∧ Hid (∃ v'', Pager wz b (some ⟨gi, 0, none⟩) ia.length ca IB ib.length cb v'' (l ++ [⟨i, j, true⟩] ++ runP (i + 1) (j + 1) (t - 1)) ∧ PStep b w7 wz v v'')) (fun x _ => S + 1 - (RowKit.intOf x).toNat)
          case atStart =>
            have HST1 : Hid (∃ v'', Pager w12 b (some ⟨gi, 0, none⟩) ia.length ca IB ib.length cb v'' (l ++ [⟨i, j, true⟩] ++ runP (i + 1) (j + 1) (1 - 1)) ∧ PStep b w7 w12 v v'') := Lib.hid ⟨_, HP12'.out, HS12.out⟩
            exact ⟨1, Nat.le_refl _, by omega, rfl, HB12.out, HST1⟩
          case round =>
            obtain ⟨t, ht1, ht2, rfl, hBz, HPZ⟩ := hrel
            obtain ⟨vz, hpz, hsz⟩ := HPZ.out
            have r0 := blk_cell hpz.1 0
            have r2 := blk_cell hpz.1 2
            obtain ⟨Az, cz, hvz⟩ := hpz.2.val
            subst hvz
            replace r0 : wr.cell? ⟨b, 0, none⟩ = some (.slice (some ⟨gi, 0, none⟩) ia.length ca) := r0
            have hlz : (l ++ [(⟨i, j, true⟩ : PairT)] ++ runP (i + 1) (j + 1) (t - 1)).length = l.length + t := by simp [runP_len]; omega
            have i4 : wr.cell? ⟨gi, i * 5 + 4, none⟩ = some (.int .i64 (1 + (S : Int))) := (hBz.cell (World.block_lt_of_cell? w0 _ HI4.out)).trans HI4.out
            have il : (i : Int) < (ia.length : Int) := by omega
            by_cases hts : t < S + 1
            · have htt : (t : Int) < 1 + (S : Int) := by omega
              obtain ⟨x1, hx1⟩ : ∃ x1 : Nat, i + t = x1 := ⟨_, rfl⟩
              obtain ⟨x2, hx2⟩ : ∃ x2 : Nat, j + t = x2 := ⟨_, rfl⟩
              have hi1 : (i : Int) + (t : Int) = (x1 : Int) := by omega
              have hi2 : (j : Int) + (t : Int) = (x2 : Int) := by omega
              have hrun : runP (i + 1) (j + 1) (t + 1 - 1) = runP (i + 1) (j + 1) (t - 1) ++ [⟨x1, x2, true⟩] := by
                obtain ⟨t', rfl⟩ : ∃ t', t = t' + 1 := ⟨t - 1, by omega⟩
                rw [show t' + 1 + 1 - 1 = t' + 1 by omega, runP_snoc, show t' + 1 - 1 = t' by omega, ← hx1, ← hx2, show i + 1 + t' = i + (t' + 1) by omega, show j + 1 + t' = j + (t' + 1) by omega]
              obtain ⟨lz, hlze⟩ : ∃ lz, l ++ [(⟨i, j, true⟩ : PairT)] ++ runP (i + 1) (j + 1) (t - 1) = lz := ⟨_, rfl⟩
              rw [hlze] at hlz hpz hsz r2
              replace r2 : wr.cell? ⟨b, 2, none⟩ = some (.slice Az lz.length cz) := r2
              have hbz := blk_lt hpz.1
              have hx1b : x1 ≤ 3000 := by omega
              have hx2b : x2 ≤ 3000 := by omega
              have hlzb : lz.length ≤ 1000 := by omega
              have HOW := Lib.hid (hpz.2.alloc (.cells #[.int .i64 (x1 : Nat), .int .i64 (x2 : Nat), .bool true] 28))
              have HPZ2 := Lib.hid hpz
              have HSZ2 := Lib.hid hsz
              have HBZ := Lib.hid hBz
              have HRUN := Lib.hid hrun
              have HLZE := Lib.hid hlze
              clear hx1 hx2 hrun hlze hlz hpz hsz hBz HPZ hts
              go_upto_region 10 with (at_builtin; refine wpList_append_lies _ rfl _ _ 25 rfl (b + 1) 28 ip _ 3 24 Try.underlying25 hip hpz0 hpz1 hpz2 rfl (by decide) _ _ _ rfl HOW.out ⟨wr.heap.size, 0, none⟩ 1 1 (PairT.vals ⟨x1, x2, true⟩) rfl rfl ?a1 ?a2 ?a0 ?a3 ?a4 ?a5 _ rfl ?_; (case a0 => decide); (case a1 => exact World.news_of_block (heap_alloc_new wr _)); (case a2 => simp [PairT.vals, Value.oneCell']); (case a3 => unfold maxLen; omega); (case a4 => omega); (case a5 => simp; omega); intro g5 cap5 w15 hown15 hg15 hat15 hlt15; have hbk15 := (hg15.block b (by simp; omega) (own_farB HOW.out (Nat.lt_succ_self b))).trans (blk_alloc HPZ2.out.1 _); have x2' := blk_cell hbk15 2; have xf' := blk_frozen hbk15 2; replace x2' : w15.cell? ⟨b, 2, none⟩ = some (.slice Az lz.length cz) := x2')
              obtain ⟨hP16, hS16⟩ := pager_push (p := ⟨x1, x2, true⟩) HPZ2.out ((Below.refl wr.heap.size wr).alloc (Nat.le_refl _) (.cells #[.int .i64 (x1 : Nat), .int .i64 (x2 : Nat), .bool true] 28)) hown15 hg15 hat15
              have hB16 := hS16.toBelow HPZ2.out (by rw [HBE.out]; exact Nat.le_refl _) HBZ.out HBZ.out.size
              have HPZ3 : Hid (∃ v'', Pager (w15.setCell ⟨b, 2, none⟩ (.slice (some ⟨g5, 0, none⟩) (lz.length + 1) cap5)) b (some ⟨gi, 0, none⟩) ia.length ca IB ib.length cb v'' (l ++ [⟨i, j, true⟩] ++ runP (i + 1) (j + 1) (t + 1 - 1)) ∧ PStep b w7 (w15.setCell ⟨b, 2, none⟩ (.slice (some ⟨g5, 0, none⟩) (lz.length + 1) cap5)) v v'') := Lib.hid ⟨_, by rw [HRUN.out, ← List.append_assoc, HLZE.out]; exact hP16, HSZ2.out.trans hS16⟩
              have HB16 := Lib.hid hB16
              clear hP16 hS16 hB16 hown15 hg15 hat15 hlt15 hbk15 x2' xf' HOW HPZ2 HSZ2 HBZ HRUN HLZE hi1 hi2
              go_wp2
              go_roundw
              case rel => exact ⟨t + 1, by omega, by omega, by go_num, HB16.out, HPZ3⟩
              case measure => simp [RowKit.intOf]; omega
            · obtain rfl : t = S + 1 := by omega
              have htt : ¬ ((S + 1 : Nat) : Int) < 1 + (S : Int) := by omega
              have HL14 : Hid (∃ v' l', l'.length ≤ out.length + countL (a.take (p.a + 1)) ∧ Pager wr b (some ⟨gi, 0, none⟩) ia.length ca IB ib.length cb v' l' ∧ PStep b w7 wr v v' ∧ out ++ pagesF (N + 1) a c fa fb = l' ++ (ps.drop (k + 1)).flatMap (belowP (pagesF N) a c fa fb)) := Lib.hid ⟨_, _, by have := HLL3.out; omega, hpz, hsz, by rw [HTT2.out]; simp⟩
              clear hlz hpz hsz HPZ hts HTT2 HLL3
              go_wp2
              go_roundw
              case rel => exact ⟨k + 1, p.a + 1, p.b + 1, by omega, by go_num, hBz, HRI2, HL14⟩
              case measure => simp [RowKit.intOf]; omega
      · obtain rfl : k = ps.length := by omega
        rw [List.drop_length, List.flatMap_nil, List.append_nil] at htot
        rw [← htot] at hpr
        have HFP := Lib.hid hpr
        have HFS := Lib.hid (HPS7.out.trans hst)
        clear hpr hst htot HL HRI hlt
        go_wp2
        go_end0
        exact ⟨rfl, hBr, _, HFP.out, HFS.out⟩

end Go.Proofs.Ytdlenbkkcpcbmaa
