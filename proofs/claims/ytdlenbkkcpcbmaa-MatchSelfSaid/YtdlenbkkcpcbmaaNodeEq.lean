/- Whether nodes are the same (rectoplain.Node, Nodes): contracts. -/
import Derived.Test.YtdlenbkkcpcbmaaCount
namespace Go.Proofs.Ytdlenbkkcpcbmaa
open Go.RowKit Go.Lib Go.Sort Go.BigFrame

mutual
def eqN : NodeT → NodeT → Bool
  | .mk k s n a t ks, .mk k' s' n' a' t' ks' => (k == k') && ((s == s') && ((n == n') && ((t == t') && (decide (a = a') && eqL ks ks'))))
def eqL : List NodeT → List NodeT → Bool
  | [], [] => true
  | n :: l, m :: l' => eqN n m && eqL l l'
  | [], _ :: _ => false
  | _ :: _, [] => false
end
mutual
theorem eqN_iff : ∀ (a b : NodeT), eqN a b = true ↔ a = b
  | .mk k s n a t ks, .mk k' s' n' a' t' ks' => by
    rw [eqN]
    simp only [Bool.and_eq_true, beq_iff_eq, decide_eq_true_eq, eqL_iff ks ks', NodeT.mk.injEq]
    constructor
    · rintro ⟨h1, h2, h3, h4, h5, h6⟩; exact ⟨h1, h2, h3, h5, h4, h6⟩
    · rintro ⟨h1, h2, h3, h5, h4, h6⟩; exact ⟨h1, h2, h3, h4, h5, h6⟩
theorem eqL_iff : ∀ (l l' : List NodeT), eqL l l' = true ↔ l = l'
  | [], [] => by simp [eqL]
  | n :: l, m :: l' => by
    rw [eqL, Bool.and_eq_true, eqN_iff n m, eqL_iff l l', List.cons.injEq]
  | [], _ :: _ => by simp [eqL]
  | _ :: _, [] => by simp [eqL]
end
mutual
/-- A node that the statements go through. -/
def NodeT.ok : NodeT → Prop
  | .mk _ _ n a t ks => n.length ≤ 100 ∧ a.length ≤ 40 ∧ t.length ≤ 5000 ∧ (∀ x ∈ a, x.1.length ≤ 100 ∧ x.2.length ≤ 2000) ∧ okL ks
def okL : List NodeT → Prop
  | [] => True
  | n :: l => n.ok ∧ okL l
end
theorem okL_mem : ∀ {l : List NodeT}, okL l → ∀ {i : Nat} {n : NodeT}, l[i]? = some n → n.ok
  | [], _, i, n, h => by simp at h
  | m :: l, h, 0, n, hn => by
    simp only [List.getElem?_cons_zero, Option.some.injEq] at hn
    subst hn; exact h.1
  | m :: l, h, i + 1, n, hn => okL_mem h.2 (by simpa using hn)
theorem NodeT.ok.parts {n : NodeT} (h : n.ok) : n.name.length ≤ 100 ∧ n.attrs.length ≤ 40 ∧ n.text.length ≤ 5000 ∧ (∀ x ∈ n.attrs, x.1.length ≤ 100 ∧ x.2.length ≤ 2000) ∧ okL n.kids := by
  cases n; exact h
set_option maxRecDepth 100000 in
set_option maxHeartbeats 8000000 in
theorem rnode_of (n m : NodeT) (hn : n.attrs.length ≤ 1000000) (hm : m.attrs.length ≤ 1000000)
    (hk : ∀ (W : World) (K K' : Option Addr) (d d' : Nat), NodesIn W K 0 n.kids → NodesIn W K' 0 m.kids → Calls Try.prog 31 #[.slice K n.kids.length d, .slice K' m.kids.length d'] W fun e w' => e = .returned (.bool (eqL n.kids m.kids)) ∧ Below W.heap.size W w')
    (w : World) (A K A' K' : Option Addr) (c d c' d' : Nat) (hv : NodeV w n A K) (hv' : NodeV w m A' K') :
    Calls Try.prog 17 #[.agg (nodeVal n A c K d), .agg (nodeVal m A' c' K' d')] w fun e w' => e = .returned (.bool (eqN n m)) ∧ Below w.heap.size w w' := by
  obtain ⟨k, s, nm, a, t, ks⟩ := n
  obtain ⟨k', s', nm', a', t', ks'⟩ := m
  have ha := hv.attrs
  have ha' := hv'.attrs
  have hks := hv.kids
  have hks' := hv'.kids
  simp only [NodeT.attrs, NodeT.kids] at hn hm hk ha ha' hks hks'
  obtain ⟨r, hr⟩ : ∃ r, eqN (.mk k s nm a t ks) (.mk k' s' nm' a' t' ks') = r := ⟨_, rfl⟩
  rw [hr]
  rw [eqN] at hr
  simp only [nodeVal, NodeT.kind, NodeT.space, NodeT.name, NodeT.attrs, NodeT.text, NodeT.kids]
  have hb0 : Below w.heap.size w ((w.alloc (.cells #[.int .i64 k, .int .i64 s, .string (mkS nm), .slice A a.length c, .string (mkS t), .slice K ks.length d] 44)).alloc (.cells #[.int .i64 k', .int .i64 s', .string (mkS nm'), .slice A' a'.length c', .string (mkS t'), .slice K' ks'.length d'] 44)) := ((Below.refl _ _).alloc (Nat.le_refl _) _).alloc (by simp) _
  have hP := blk_alloc (blk_new w #[.int .i64 k, .int .i64 s, .string (mkS nm), .slice A a.length c, .string (mkS t), .slice K ks.length d] 44) (.cells #[.int .i64 k', .int .i64 s', .string (mkS nm'), .slice A' a'.length c', .string (mkS t'), .slice K' ks'.length d'] 44)
  have hQ := blk_new (w.alloc (.cells #[.int .i64 k, .int .i64 s, .string (mkS nm), .slice A a.length c, .string (mkS t), .slice K ks.length d] 44)) #[.int .i64 k', .int .i64 s', .string (mkS nm'), .slice A' a'.length c', .string (mkS t'), .slice K' ks'.length d'] 44
  rw [show (w.alloc (.cells #[.int .i64 k, .int .i64 s, .string (mkS nm), .slice A a.length c, .string (mkS t), .slice K ks.length d] 44)).heap.size = w.heap.size + 1 by simp] at hQ
  have hq1 : ((mkS nm).toList == (mkS nm').toList) = (nm == nm') := by rw [ByteArray.toList_eq, ByteArray.toList_eq, of_mkS, of_mkS]
  have hq2 : ((mkS t).toList == (mkS t').toList) = (t == t') := by rw [ByteArray.toList_eq, ByteArray.toList_eq, of_mkS, of_mkS]
  have AC := Lib.hid (fun W h h' => rattrs_calls W A A' c c' a a' h h' hn hm)
  have KC := Lib.hid (fun W h h' => hk W K K' d d' h h')
  have HA := Lib.hid (ha.below hb0)
  have HA' := Lib.hid (ha'.below hb0)
  have HK := Lib.hid (NodesIn.below hb0 hks)
  have HK' := Lib.hid (NodesIn.below hb0 hks')
  clear ha ha' hks hks' hk hv hv'
  go_enter Try.func17, Try.ntmps17
  go_upto_region 1 with fail
  generalize (w.alloc (.cells #[.int .i64 k, .int .i64 s, .string (mkS nm), .slice A a.length c, .string (mkS t), .slice K ks.length d] 44)).alloc (.cells #[.int .i64 k', .int .i64 s', .string (mkS nm'), .slice A' a'.length c', .string (mkS t'), .slice K' ks'.length d'] 44) = w0 at *
  have p0 := blk_cell hP 0
  have p1 := blk_cell hP 1
  have p2 := blk_cell hP 2
  have p3 := blk_cell hP 3
  have p4 := blk_cell hP 4
  have p5 := blk_cell hP 5
  have q0 := blk_cell hQ 0
  have q1 := blk_cell hQ 1
  have q2 := blk_cell hQ 2
  have q3 := blk_cell hQ 3
  have q4 := blk_cell hQ 4
  have q5 := blk_cell hQ 5
  have HB := Lib.hid hb0
  clear hP hQ hb0
  cases e1 : k == k' with
  | false =>
    rw [e1, Bool.false_and] at hr
    subst hr
    go_wp2
    go_ret
    exact ⟨rfl, HB.out⟩
  | true =>
  rw [e1, Bool.true_and] at hr
  cases e2 : s == s' with
  | false =>
    rw [e2, Bool.false_and] at hr
    subst hr
    go_wp2
    go_ret
    exact ⟨rfl, HB.out⟩
  | true =>
  rw [e2, Bool.true_and] at hr
  cases e3 : nm == nm' with
  | false =>
    rw [e3, Bool.false_and] at hr
    rw [e3] at hq1
    subst hr
    clear e3
    go_wp2
    go_ret
    exact ⟨rfl, HB.out⟩
  | true =>
  rw [e3, Bool.true_and] at hr
  rw [e3] at hq1
  clear e3
  cases e4 : t == t' with
  | false =>
    rw [e4, Bool.false_and] at hr
    rw [e4] at hq2
    subst hr
    clear e4
    go_wp2
    go_ret
    exact ⟨rfl, HB.out⟩
  | true =>
  rw [e4, Bool.true_and] at hr
  rw [e4] at hq2
  clear e4
  cases e5 : decide (a = a') with
  | false =>
    rw [e5, Bool.false_and] at hr
    rw [e5] at AC
    subst hr
    clear e5
    go_wp2_with (go_at_call 30; (with_reducible refine (AC.out _ HA.out HA'.out).mono ?_); rintro v w1 ⟨rfl, n1, rfl⟩)
    go_ret
    exact ⟨rfl, below_drewN HB.out n1⟩
  | true =>
  rw [e5, Bool.true_and] at hr
  rw [e5] at AC
  clear e5
  rw [hr] at KC
  go_wp2_with (first | (go_at_call 30; (with_reducible refine (AC.out _ HA.out HA'.out).mono ?_); rintro v w1 ⟨rfl, n1, rfl⟩; have hK1 := NodesIn.below (below_drewN (Below.refl w0.heap.size w0) n1) HK.out; have hK2 := NodesIn.below (below_drewN (Below.refl w0.heap.size w0) n1) HK'.out; have hBn := below_drewN HB.out n1) | (go_at_call 31; (with_reducible refine (KC.out _ hK1 hK2).mono ?_); rintro v w2 ⟨rfl, hb2⟩))
  go_ret
  exact ⟨rfl, below_then hBn hBn.size hb2⟩

theorem eqL_take (l l' : List NodeT) (hl : l.length = l'.length) (h : ∀ (j : Nat) (n m : NodeT), l[j]? = some n → l'[j]? = some m → eqN n m = true) : eqL l l' = true := by
  rw [eqL_iff]
  refine List.ext_getElem hl (fun j h1 h2 => ?_)
  exact (eqN_iff _ _).1 (h j _ _ (List.getElem?_eq_getElem h1) (List.getElem?_eq_getElem h2))
theorem eqL_at (l l' : List NodeT) (h : eqL l l' = true) : l = l' := (eqL_iff l l').1 h
set_option maxRecDepth 100000 in
set_option maxHeartbeats 8000000 in
theorem rnodes_calls : ∀ (N : Nat) (l l' : List NodeT), countL l ≤ N → countL l ≤ 1000000 → countL l' ≤ 1000000 → okL l → okL l' → ∀ (w : World) (K K' : Option Addr) (c c' : Nat), NodesIn w K 0 l → NodesIn w K' 0 l' →
    Calls Try.prog 31 #[.slice K l.length c, .slice K' l'.length c'] w fun e w' => e = .returned (.bool (eqL l l')) ∧ Below w.heap.size w w' := by
  intro N
  induction N with
  | zero =>
    intro l l' hN hm hm' ho ho' w K K' c c' hl hl'
    have hnil : l = [] := by
      cases l with
      | nil => rfl
      | cons n l => rw [countL, count_kids] at hN; omega
    subst hnil
    have hz' := Nat.le_trans (len_count l') hm'
    have he : eqL [] l' = (((0 : Nat) : Int) == (l'.length : Int)) := by
      cases l' with
      | nil => rfl
      | cons n l' => rw [eqL]; symm; rw [beq_eq_false_iff_ne]; simp; omega
    rw [he]
    clear hN hm hm' ho ho' he
    go_enter Try.func31, Try.ntmps31
    go_wp2
    go_loopw [8] (fun i wr => i = .int .i64 0 ∧ w = wr) (fun i _ => 0)
    case atStart => exact ⟨rfl, rfl⟩
    case round =>
      obtain ⟨rfl, rfl⟩ := hrel
      go_wp2
      go_ret
      exact ⟨rfl, Below.refl _ _⟩
  | succ N ih =>
    intro l l' hN hm hm' ho ho' w K K' c c' hl hl'
    have hz : l.length ≤ 1000000 := Nat.le_trans (len_count l) hm
    have hz' : l'.length ≤ 1000000 := Nat.le_trans (len_count l') hm'
    have IH := Lib.hid ih
    have HL := Lib.hid hl
    have HL' := Lib.hid hl'
    have HO := Lib.hid ho
    have HO' := Lib.hid ho'
    obtain ⟨r, hr⟩ : ∃ r, eqL l l' = r := ⟨_, rfl⟩
    rw [hr]
    have HRR := Lib.hid hr
    clear ih hl hl' ho ho' hr
    go_enter Try.func31, Try.ntmps31
    go_wp2
    go_loopw [8] (fun i wr => ∃ k : Nat, k ≤ l.length ∧ i = .int .i64 k ∧ Below w.heap.size w wr ∧ Hid (∀ (j : Nat), j < k → ∀ (n m : NodeT), l[j]? = some n → l'[j]? = some m → eqN n m = true) ∧ Hid (k ≤ l'.length)) (fun i _ => l.length - (RowKit.intOf i).toNat)
    case atStart => exact ⟨0, by omega, rfl, Below.refl _ _, Lib.hid (fun j hj => by omega), Lib.hid (Nat.zero_le _)⟩
    case round =>
      obtain ⟨k, hk, rfl, hB, HN, HK⟩ := hrel
      by_cases hlt : k < l.length
      · by_cases hlt' : k < l'.length
        · obtain ⟨n, hn⟩ : ∃ n, l[k]? = some n := ⟨_, List.getElem?_eq_getElem hlt⟩
          obtain ⟨m, hm2⟩ : ∃ m, l'[k]? = some m := ⟨_, List.getElem?_eq_getElem hlt'⟩
          have hcn := count_mem l k n hn
          have hcm := count_mem l' k m hm2
          have on := (okL_mem HO.out hn).parts
          have om := (okL_mem HO'.out hm2).parts
          obtain ⟨ad, A, c1, K1, d1, rfl, hv, e0, e1, e2, e3, e4, e5⟩ := (NodesIn.below hB HL.out).at_ hn
          obtain ⟨ad', A', c2, K2, d2, rfl, hv', f0, f1, f2, f3, f4, f5⟩ := (NodesIn.below hB HL'.out).at_ hm2
          have NC := Lib.hid (fun W h h' => rnode_of n m (by omega) (by omega) (fun W' a b d d' h1 h2 => IH.out n.kids m.kids (by omega) (by omega) (by omega) on.2.2.2.2 om.2.2.2.2 W' a b d d' h1 h2) W A K1 A' K2 c1 d1 c2 d2 h h')
          unfold nodeVal at NC
          have HV := Lib.hid hv
          have HV' := Lib.hid hv'
          have HN1 := Lib.hid hn
          have HN2 := Lib.hid hm2
          obtain ⟨b, hb⟩ : ∃ b, eqN n m = b := ⟨_, rfl⟩
          rw [hb] at NC
          have HB := Lib.hid hb
          have HBr := Lib.hid hB
          have i1 : decide (l'.length ≤ k) = false := decide_eq_false (by omega)
          have i2 : (k : Int) < (l'.length : Int) := by omega
          have i3 : (k : Int) < (l.length : Int) := by omega
          clear hn hm2 hcn hcm on om hv hv' hb hB
          go_upto_region 4 with fail
          have ge0 := cell_regrown e0
          have ge1 := cell_regrown e1
          have ge2 := cell_regrown e2
          have ge3 := cell_regrown e3
          have ge4 := cell_regrown e4
          have ge5 := cell_regrown e5
          have gf0 := cell_regrown f0
          have gf1 := cell_regrown f1
          have gf2 := cell_regrown f2
          have gf3 := cell_regrown f3
          have gf4 := cell_regrown f4
          have gf5 := cell_regrown f5
          have cN := fun d os => Calls.regrown_of (NC.out _ (HV.out.below (below_regrown wr d os)) (HV'.out.below (below_regrown wr d os)))
          clear e0 e1 e2 e3 e4 e5 f0 f1 f2 f3 f4 f5
          cases b
          all_goals
            refine wp_region_quiet_below (by kernel_rfl) (by kernel_rfl) ?_
            repeat (go_big_quiet_step (with_reducible exact cN _ _))
            refine wpQuiet_nil ?_
            intro w6 hw'
            obtain ⟨⟨dq, osq⟩, hw''⟩ := hw'
            have hb6 := below_regrown wr dq osq
            rw [← hw''] at hb6
            clear hw''
            go_wp2_with fail
          · have HQ : Hid (r = false) := Lib.hid (by
              rw [← HRR.out, Bool.eq_false_iff]
              intro h
              have := eqL_at _ _ h
              subst this
              have h2 := HN1.out.symm.trans HN2.out
              have h3 : n = m := Option.some.inj h2
              rw [h3, (eqN_iff m m).2 rfl] at HB
              exact Bool.noConfusion HB.out)
            go_ret
            exact ⟨by rw [HQ.out]; rfl, below_then HBr.out HBr.out.size hb6⟩
          · go_roundw
            case rel => exact ⟨k + 1, by omega, by go_num, below_then HBr.out HBr.out.size hb6, Lib.hid (fun j hj n' m' h1 h2 => by
              by_cases ej : j = k
              · subst ej
                rw [HN1.out] at h1
                rw [HN2.out] at h2
                rw [← Option.some.inj h1, ← Option.some.inj h2]
                exact HB.out
              · exact HN.out j (by omega) n' m' h1 h2), Lib.hid (by omega)⟩
            case measure => simp [RowKit.intOf]; omega
        · have i1 : decide (l'.length ≤ k) = true := decide_eq_true (by omega)
          have HQ : Hid (r = false) := Lib.hid (by
            rw [← HRR.out, Bool.eq_false_iff]
            intro h
            have := eqL_at _ _ h
            subst this
            exact hlt' hlt)
          have i3 : (k : Int) < (l.length : Int) := by omega
          go_wp2
          go_quiet (fail)
          go_wp2
          go_ret
          exact ⟨by rw [HQ.out]; rfl, by first | exact hB | exact below_drewN hB _⟩
      · obtain rfl : k = l.length := by omega
        by_cases h : l.length = l'.length
        · have hh : ((l.length : Int) == (l'.length : Int)) = true := by rw [h]; simp
          have HR : Hid (r = true) := Lib.hid (by rw [← HRR.out]; exact eqL_take l l' h (fun j n m h1 h2 => HN.out j (List.getElem?_eq_some_iff.1 h1).1 n m h1 h2))
          clear h hlt
          go_wp2
          go_ret
          exact ⟨by rw [HR.out]; rfl, hB⟩
        · have hh : ((l.length : Int) == (l'.length : Int)) = false := beq_eq_false_iff_ne.2 (by omega)
          have HR : Hid (r = false) := Lib.hid (by
            rw [← HRR.out, Bool.eq_false_iff]
            intro hh2
            exact h (by rw [eqL_at _ _ hh2]))
          clear h hlt
          go_wp2
          go_ret
          exact ⟨by rw [HR.out]; rfl, hB⟩

end Go.Proofs.Ytdlenbkkcpcbmaa
