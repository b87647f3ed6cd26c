/- Whether nodes are more than the statements go through (rectoplain.Large): its contract. -/
import Derived.Test.YtdlenbkkcpcbmaaNodeEq
namespace Go.Proofs.Ytdlenbkkcpcbmaa
open Go.RowKit Go.Lib

def attrBig (x : AttrT) : Bool := decide (100 < x.1.length) || decide (2000 < x.2.length)
mutual
/-- A node: does the search end at it, and what room is left. -/
def largeN : NodeT → Int → Nat → Bool × Int
  | .mk _ _ n a t ks, r, d =>
    if r - 1 < 0 ∨ 40 < a.length ∨ 5000 < t.length ∨ 100 < n.length then (true, r - 1)
    else if a.any attrBig = true then (true, r - 1 - (t.length / 16 : Nat) - a.length)
    else if 60 < d + 1 ∨ 500 < ks.length then (true, r - 1 - (t.length / 16 : Nat) - a.length)
    else largeGo ks (r - 1 - (t.length / 16 : Nat) - a.length) (d + 1)
def largeGo : List NodeT → Int → Nat → Bool × Int
  | [], r, _ => (decide (r < 0), r)
  | n :: l, r, d => if (largeN n r d).1 = true then (true, (largeN n r d).2) else largeGo l (largeN n r d).2 d
end
def largeL (l : List NodeT) (r : Int) (d : Nat) : Bool × Int := if 60 < d ∨ 500 < l.length then (true, r) else largeGo l r d
theorem largeN_eq (n : NodeT) (r : Int) (d : Nat) : largeN n r d =
    if r - 1 < 0 ∨ 40 < n.attrs.length ∨ 5000 < n.text.length ∨ 100 < n.name.length then (true, r - 1)
    else if n.attrs.any attrBig = true then (true, r - 1 - (n.text.length / 16 : Nat) - n.attrs.length)
    else largeL n.kids (r - 1 - (n.text.length / 16 : Nat) - n.attrs.length) (d + 1) := by
  cases n; rw [largeN]; rfl
mutual
theorem largeN_false : ∀ (n : NodeT) (r : Int) (d : Nat), (largeN n r d).1 = false → 0 ≤ (largeN n r d).2 ∧ (largeN n r d).2 + (n.count : Nat) ≤ r ∧ n.ok
  | .mk k s n a t ks, r, d, h => by
    rw [largeN] at h ⊢
    rw [NodeT.count, NodeT.ok]
    split at h
    · cases h
    rename_i h1
    rw [if_neg h1]
    split at h
    · cases h
    rename_i h2
    rw [if_neg h2]
    split at h
    · cases h
    rename_i h3
    rw [if_neg h3]
    obtain ⟨i1, i2, i3⟩ := largeGo_false ks _ _ h
    refine ⟨i1, by omega, by omega, by omega, by omega, fun x hx => ?_, i3⟩
    have hb : attrBig x = false := by
      cases hh : attrBig x with
      | false => rfl
      | true => exact absurd (List.any_eq_true.2 ⟨x, hx, hh⟩) h2
    simp only [attrBig, Bool.or_eq_false_iff, decide_eq_false_iff_not] at hb
    omega
theorem largeGo_false : ∀ (l : List NodeT) (r : Int) (d : Nat), (largeGo l r d).1 = false → 0 ≤ (largeGo l r d).2 ∧ (largeGo l r d).2 + (countL l : Nat) ≤ r ∧ okL l
  | [], r, d, h => by
    rw [largeGo] at h ⊢
    simp only [decide_eq_false_iff_not] at h
    exact ⟨by simp only; omega, by simp [countL], trivial⟩
  | n :: l, r, d, h => by
    rw [largeGo] at h ⊢
    split at h
    · cases h
    rename_i h1
    rw [if_neg h1]
    obtain ⟨a1, a2, a3⟩ := largeN_false n r d (by simpa using h1)
    obtain ⟨b1, b2, b3⟩ := largeGo_false l _ d h
    exact ⟨b1, by rw [countL]; omega, a3, b3⟩
end
/-- What holds of nodes that are not large. -/
theorem large_false {l : List NodeT} {r : Int} {d : Nat} (h : (largeL l r d).1 = false) : (countL l : Int) ≤ r ∧ okL l := by
  unfold largeL at h
  split at h
  · cases h
  · obtain ⟨a, b, c⟩ := largeGo_false l r d h
    exact ⟨by omega, c⟩
theorem largeN_le (n : NodeT) (r : Int) (d : Nat) (h : (largeN n r d).1 = false) : 0 ≤ (largeN n r d).2 ∧ (largeN n r d).2 ≤ r := by
  obtain ⟨a, b, -⟩ := largeN_false n r d h
  exact ⟨a, by omega⟩
theorem any_drop (l : List AttrT) (j : Nat) (h : j < l.length) : (l.drop j).any attrBig = (attrBig (l.getD j ([], [])) || (l.drop (j + 1)).any attrBig) := by
  rw [List.drop_eq_getElem_cons h, List.any_cons, List.getD, List.getElem?_eq_getElem h]; rfl
def RoomAt (w : World) (b : Nat) (r : Int) : Prop := w.heap[b]? = some (.cells #[.int .i64 r] 53 (0, 0))
set_option maxRecDepth 100000 in
set_option maxHeartbeats 8000000 in
theorem rlarge_calls (w0 : World) (b : Nat) (hb0 : w0.heap.size ≤ b) : ∀ (N : Nat) (l : List NodeT), countL l ≤ N → ∀ (w : World) (K : Option Addr) (c d : Nat) (r : Int), NodesIn w0 K 0 l → Below w0.heap.size w0 w → RoomAt w b r → -1000 ≤ r → r ≤ 1000 → d ≤ 100 →
    Calls Try.prog 18 #[.slice K l.length c, .pointer (some ⟨b, 0, none⟩), .int .i64 d] w fun e w' => e = .returned (.bool (largeL l r d).1) ∧ Below w0.heap.size w0 w' ∧ RoomAt w' b (largeL l r d).2 := by
  intro N
  induction N with
  | zero =>
    intro l hN w K c d r hl hB hR hr0 hr1 hd
    have hnil : l = [] := by
      cases l with
      | nil => rfl
      | cons n l => rw [countL, count_kids] at hN; omega
    subst hnil
    have HB := Lib.hid hB
    have HRM := Lib.hid hR
    unfold RoomAt at hR
    have c0 := blk_cell hR 0
    have lb := blk_lt hR
    by_cases h60 : 60 < d
    · have hq : largeL [] r d = (true, r) := by rw [largeL, if_pos (.inl h60)]
      rw [hq]
      have g1 : (60 : Int) < d := by omega
      clear hN hl hB hR hq
      go_enter Try.func18, Try.ntmps18
      go_wp2
      go_ret
      exact ⟨rfl, HB.out, HRM.out⟩
    · have hq : largeL [] r d = (decide (r < 0), r) := by rw [largeL, if_neg (by simp; omega), largeGo]
      rw [hq]
      have g1 : ¬ (60 : Int) < d := by omega
      clear hN hl hB hR hq
      go_enter Try.func18, Try.ntmps18
      go_wp2
      go_loopw [20] (fun i wr => i = .int .i64 0 ∧ w = wr) (fun i _ => 0)
      case atStart => exact ⟨rfl, rfl⟩
      case round =>
        obtain ⟨rfl, rfl⟩ := hrel
        go_wp2
        go_ret
        exact ⟨rfl, HB.out, HRM.out⟩
  | succ N ih =>
    intro l hN w K c d r hl hB hR hr0 hr1 hd
    have IH := Lib.hid ih
    have HL := Lib.hid hl
    have HB := Lib.hid hB
    have HRM := Lib.hid hR
    unfold RoomAt at hR
    obtain ⟨rv, hrv⟩ : ∃ rv, largeL l r d = rv := ⟨_, rfl⟩
    rw [hrv]
    unfold largeL at hrv
    have HRV := Lib.hid hrv
    clear ih hl hB hrv
    by_cases h1 : 60 < d ∨ 500 < l.length
    · have hq : rv = (true, r) := by rw [← HRV.out, if_pos h1]
      subst hq
      clear HRV
      by_cases h60 : 60 < d
      · have g1 : (60 : Int) < d := by omega
        clear h1 hR
        go_enter Try.func18, Try.ntmps18
        go_wp2
        go_ret
        exact ⟨rfl, HB.out, HRM.out⟩
      · have g1 : ¬ (60 : Int) < d := by omega
        have g2 : (500 : Int) < l.length := by omega
        clear h1 hR
        go_enter Try.func18, Try.ntmps18
        go_wp2
        go_ret
        exact ⟨rfl, HB.out, HRM.out⟩
    · have g1 : ¬ (60 : Int) < d := by omega
      have g2 : ¬ (500 : Int) < l.length := by omega
      have HGO : Hid (rv = largeGo l r d) := Lib.hid (by rw [← HRV.out, if_neg h1])
      clear h1 HRV hR
      go_enter Try.func18, Try.ntmps18
      go_wp2
      go_loopw [20] (fun i wr => ∃ (k : Nat) (q : Int), k ≤ l.length ∧ i = .int .i64 k ∧ -1000 ≤ q ∧ q ≤ 1000 ∧ Below w0.heap.size w0 wr ∧ RoomAt wr b q ∧ Hid (rv = largeGo (l.drop k) q d)) (fun i _ => l.length - (RowKit.intOf i).toNat)
      case atStart => exact ⟨0, r, by omega, rfl, hr0, hr1, HB.out, HRM.out, HGO⟩
      case round =>
        obtain ⟨k, q, hk, rfl, hq0, hq1, hBr, hRr, HI⟩ := hrel
        clear HGO HRM HB
        by_cases hlt : k < l.length
        · have hcn : ∃ n, l[k]? = some n := ⟨_, List.getElem?_eq_getElem hlt⟩
          obtain ⟨n, hn⟩ := hcn
          have hcn := count_mem l k n hn
          obtain ⟨ad, A, c1, K1, d1, rfl, hv, e0, e1, e2, e3, e4, e5⟩ := HL.out.at_ hn
          have keep : ∀ {a : Addr} {u : Value}, w0.cell? a = some u → wr.cell? a = some u := fun {a u} h => (hBr.cell (World.block_lt_of_cell? w0 _ h)).trans h
          replace e0 := keep e0
          replace e1 := keep e1
          replace e2 := keep e2
          replace e3 := keep e3
          replace e4 := keep e4
          replace e5 := keep e5
          have hstep : rv = if (largeN n q d).1 = true then (true, (largeN n q d).2) else largeGo (l.drop (k + 1)) (largeN n q d).2 d := by
            obtain ⟨h1, h2⟩ := List.getElem?_eq_some_iff.1 hn
            rw [HI.out, List.drop_eq_getElem_cons h1, h2, largeGo]
          have hne := largeN_eq n q d
          have HST := Lib.hid hstep
          have HNE := Lib.hid hne
          have HV := Lib.hid hv
          have hR1 := blk_alloc hRr (.cells #[.int .i64 n.kind, .int .i64 n.space, .string (mkS n.name), .slice A n.attrs.length c1, .string (mkS n.text), .slice K1 n.kids.length d1] 44)
          have hX1 := blk_new wr #[.int .i64 n.kind, .int .i64 n.space, .string (mkS n.name), .slice A n.attrs.length c1, .string (mkS n.text), .slice K1 n.kids.length d1] 44
          have hB1 := hBr.alloc hBr.size (.cells #[.int .i64 n.kind, .int .i64 n.space, .string (mkS n.name), .slice A n.attrs.length c1, .string (mkS n.text), .slice K1 n.kids.length d1] 44)
          have hbX := blk_lt hRr
          clear keep hstep hne hv hn HI hRr hBr
          go_upto_region 6 with fail
          generalize wr.alloc (.cells #[.int .i64 n.kind, .int .i64 n.space, .string (mkS n.name), .slice A n.attrs.length c1, .string (mkS n.text), .slice K1 n.kids.length d1] 44) = w1 at *
          generalize wr.heap.size = X at *
          have r0 := blk_cell hR1 0
          have rf := blk_frozen hR1 0
          have rl := blk_lt hR1
          clear e0 e1 e2 e3 e4 e5
          go_upto_region 7 with fail
          have hR2 := blk_set hR1 0 (.int .i64 (q - 1))
          have hX2 := blk_far (p := ⟨b, 0, none⟩) hX1 (by dsimp only; omega) (.int .i64 (q - 1))
          have hB2 := hB1.setCell (p := ⟨b, 0, none⟩) hb0 (.int .i64 (q - 1))
          generalize w1.setCell ⟨b, 0, none⟩ (.int .i64 (q - 1)) = w2 at *
          clear hR1 hX1 hB1 r0 rf rl
          have hR2 : RoomAt w2 b (q - 1) := hR2
          have HR2 := Lib.hid hR2
          have HX2 := Lib.hid hX2
          have HB2 := Lib.hid hB2
          unfold RoomAt at hR2
          have r0 := blk_cell hR2 0
          have rf := blk_frozen hR2 0
          have rl := blk_lt hR2
          have x2 := blk_cell hX2 2
          have x3 := blk_cell hX2 3
          have x4 := blk_cell hX2 4
          have x5 := blk_cell hX2 5
          have xl := blk_lt hX2
          have z2 : (mkS n.name).size = n.name.length := size_mkS _
          have z4 : (mkS n.text).size = n.text.length := size_mkS _
          clear hR2 hX2 hB2
          by_cases hp : q - 1 < 0 ∨ 40 < n.attrs.length ∨ 5000 < n.text.length ∨ 100 < n.name.length
          · have hq : rv = (true, q - 1) := by rw [HST.out, HNE.out, if_pos hp]; rfl
            subst hq
            have hways : q - 1 < 0 ∨ (¬ q - 1 < 0 ∧ (40 : Int) < n.attrs.length) ∨ (¬ q - 1 < 0 ∧ ¬ (40 : Int) < n.attrs.length ∧ (5000 : Int) < n.text.length) ∨ (¬ q - 1 < 0 ∧ ¬ (40 : Int) < n.attrs.length ∧ ¬ (5000 : Int) < n.text.length ∧ (100 : Int) < n.name.length) := by omega
            clear hp HST HNE
            rcases hways with p1 | ⟨p1, p2⟩ | ⟨p1, p2, p3⟩ | ⟨p1, p2, p3, p4⟩
            all_goals
              go_wp2
              go_ret
              exact ⟨rfl, HB2.out, HR2.out⟩
          · have hne := HNE.out
            rw [if_neg hp] at hne
            have p1 : ¬ q - 1 < 0 := by omega
            have p2 : ¬ (40 : Int) < n.attrs.length := by omega
            have p3 : ¬ (5000 : Int) < n.text.length := by omega
            have p4 : ¬ (100 : Int) < n.name.length := by omega
            obtain ⟨q2, hq2⟩ : ∃ q2, q - 1 - (n.text.length : Int) / 16 - (n.attrs.length : Int) = q2 := ⟨_, rfl⟩
            rw [show q - 1 - ((n.text.length / 16 : Nat) : Int) - (n.attrs.length : Int) = q2 by omega] at hne
            have HN2 := Lib.hid hne
            have hqq : -1000 ≤ q2 ∧ q2 ≤ 1000 := by omega
            clear hp hne HNE
            go_upto_region 9 with fail
            refine region_tail 16 (by kernel_rfl) (by kernel_rfl) ?_
            simp only [List.take_succ_cons, List.take_zero, List.drop_succ_cons, List.drop_zero]
            repeat (go_big_quiet_step (fail))
            refine wpQuiet_nil ?_
            have hR3 := (show (w2.setCell ⟨b, 0, none⟩ (.int .i64 q2)).drew.heap[b]? = _ from blk_set (HR2.out) 0 (.int .i64 q2))
            have hX3 := (show (w2.setCell ⟨b, 0, none⟩ (.int .i64 q2)).drew.heap[X]? = _ from blk_far (p := ⟨b, 0, none⟩) HX2.out (by dsimp only; omega) (.int .i64 q2))
            have hB3 := below_drew1 (HB2.out.setCell (p := ⟨b, 0, none⟩) hb0 (.int .i64 q2))
            go_upto_region 10 with fail
            generalize hw3 : (w2.setCell ⟨b, 0, none⟩ (.int .i64 q2)).drew = w3 at *
            clear hw3 r0 rf rl x2 x3 x4 x5 xl HR2 HX2 HB2
            have HR3 : Hid (RoomAt w3 b q2) := Lib.hid hR3
            have HX3 := Lib.hid hX3
            have HB3 := Lib.hid hB3
            have x3 := blk_cell hX3 3
            have x5 := blk_cell hX3 5
            have xl := blk_lt hX3
            clear hR3 hX3 hB3 hq2 z2 z4
            have HA0 : Hid (AttrsAt w0 A n.attrs) := Lib.hid HV.out.attrs
            have HK0 : Hid (NodesIn w0 K1 0 n.kids) := Lib.hid HV.out.kids
            go_wp2
            go_loopw [74] (fun i wz => ∃ j : Nat, j ≤ n.attrs.length ∧ i = .int .i64 j ∧ Below w0.heap.size w0 wz ∧ RoomAt wz b q2 ∧ wz.heap[X]? = some (.cells #[.int .i64 n.kind, .int .i64 n.space, .string (mkS n.name), .slice A n.attrs.length c1, .string (mkS n.text), .slice K1 n.kids.length d1] 44 (0, 0)) ∧ Hid (n.attrs.any attrBig = (n.attrs.drop j).any attrBig)) (fun i _ => n.attrs.length - (RowKit.intOf i).toNat)
            case atStart => exact ⟨0, by omega, rfl, HB3.out, HR3.out, HX3.out, Lib.hid rfl⟩
            case round =>
              obtain ⟨j, hj, rfl, hBz, hRz, hXz, HJ⟩ := hrel
              clear HB3 HR3 HX3 x3 x5 xl
              by_cases hjt : j < n.attrs.length
              · obtain ⟨aa, ea, g0, g1⟩ := HA0.out.at_ hjt
                have keep : ∀ {a : Addr} {u : Value}, w0.cell? a = some u → wr.cell? a = some u := fun {a u} h => (hBz.cell (World.block_lt_of_cell? w0 _ h)).trans h
                replace g0 := keep g0
                replace g1 := keep g1
                have hany := any_drop n.attrs j hjt
                obtain ⟨x, hx⟩ : ∃ x, n.attrs.getD j ([], []) = x := ⟨_, rfl⟩
                rw [hx] at g0 g1 hany
                subst ea
                have HAN := Lib.hid hany
                have HBz := Lib.hid hBz
                have HRz := Lib.hid hRz
                have HXz := Lib.hid hXz
                have y1 : (mkS x.1).size = x.1.length := size_mkS _
                have y2 : (mkS x.2).size = x.2.length := size_mkS _
                clear keep hany hx hBz hRz hXz
                have key : ∀ o, Below w0.heap.size w0 (wr.alloc o) := fun o => HBz.out.alloc HBz.out.size o
                have HKEY := Lib.hid key
                clear key
                by_cases hbig : attrBig x = true
                · have hq : rv = (true, q2) := by
                    have h := HN2.out
                    rw [if_pos (by rw [HJ.out, HAN.out, hbig]; rfl)] at h
                    rw [HST.out, h]; rfl
                  subst hq
                  have hw2 : (100 : Int) < x.1.length ∨ (¬ (100 : Int) < x.1.length ∧ (2000 : Int) < x.2.length) := by
                    simp only [attrBig, Bool.or_eq_true, decide_eq_true_eq] at hbig; omega
                  clear hbig HAN HJ HST HN2
                  rcases hw2 with b1 | ⟨b1, b2⟩
                  all_goals
                    go_wp2
                    go_ret
                    exact ⟨rfl, HKEY.out _, blk_alloc HRz.out _⟩
                · have hb1 : attrBig x = false := by simpa using hbig
                  have b1 : ¬ (100 : Int) < x.1.length := by
                    simp only [attrBig, Bool.or_eq_false_iff, decide_eq_false_iff_not] at hb1; omega
                  have b2 : ¬ (2000 : Int) < x.2.length := by
                    simp only [attrBig, Bool.or_eq_false_iff, decide_eq_false_iff_not] at hb1; omega
                  have HJ2 := Lib.hid (show n.attrs.any attrBig = (n.attrs.drop (j + 1)).any attrBig by rw [HJ.out, HAN.out, hb1, Bool.false_or])
                  clear hbig hb1
                  go_wp2
                  go_roundw
                  case rel => exact ⟨j + 1, by omega, by go_num, HKEY.out _, blk_alloc HRz.out _, blk_alloc HXz.out _, HJ2⟩
                  case measure => simp [RowKit.intOf]; omega
              · obtain rfl : j = n.attrs.length := by omega
                have hne := HN2.out
                rw [HJ.out, List.drop_length] at hne
                rw [if_neg (by simp)] at hne
                have CK : Hid (∀ W, Below w0.heap.size w0 W → RoomAt W b q2 → Calls Try.prog 18 #[.slice K1 n.kids.length d1, .pointer (some ⟨b, 0, none⟩), .int .i64 ((d : Int) + 1)] W fun e w' => e = .returned (.bool (largeL n.kids q2 (d + 1)).1) ∧ Below w0.heap.size w0 w' ∧ RoomAt w' b (largeL n.kids q2 (d + 1)).2) := Lib.hid (fun W h1 h2 => by
                  have := IH.out n.kids (by omega) W K1 d1 (d + 1) q2 HK0.out h1 h2 hqq.1 hqq.2 (by omega)
                  rwa [show (((d + 1 : Nat)) : Int) = (d : Int) + 1 by omega] at this)
                have hlf := largeN_le n q d
                obtain ⟨z, hz⟩ : ∃ z, largeL n.kids q2 (d + 1) = z := ⟨_, rfl⟩
                rw [hz] at hne CK
                rw [hne] at hlf
                have HST2 := Lib.hid (HST.out.trans (by rw [hne]))
                obtain ⟨zb, zq⟩ := z
                simp only at HST2 CK hlf
                have HBz := Lib.hid hBz
                have HRz := Lib.hid hRz
                have x5 := blk_cell hXz 5
                have xl := blk_lt hXz
                clear hne hz hjt HJ HN2 HST hXz hBz hRz
                cases zb with
                | true =>
                  have hq : rv = (true, zq) := HST2.out
                  subst hq
                  clear hlf
                  go_wp2_with (go_at_call 18; (with_reducible refine (CK.out _ HBz.out HRz.out).mono ?_); rintro e w5 ⟨rfl, h5, h6⟩)
                  go_ret
                  exact ⟨rfl, h5, h6⟩
                | false =>
                  have hz2 := hlf rfl
                  have HGO2 : Hid (rv = largeGo (l.drop (k + 1)) zq d) := HST2
                  clear hlf HST2
                  go_wp2_with (go_at_call 18; (with_reducible refine (CK.out _ HBz.out HRz.out).mono ?_); rintro e w5 ⟨rfl, h5, h6⟩)
                  go_roundw
                  case rel => exact ⟨k + 1, zq, by omega, by go_num, by omega, by omega, h5, h6, HGO2⟩
                  case measure => simp [RowKit.intOf]; omega
        · obtain rfl : k = l.length := by omega
          have hq : rv = (decide (q < 0), q) := by rw [HI.out, List.drop_length, largeGo]
          subst hq
          have HR2 := Lib.hid hRr
          unfold RoomAt at hRr
          have c0 := blk_cell hRr 0
          have lb := blk_lt hRr
          clear hlt hRr
          go_wp2
          go_ret
          exact ⟨rfl, hBr, HR2.out⟩

set_option maxRecDepth 100000 in
set_option maxHeartbeats 2000000 in
theorem large_calls (w : World) (K : Option Addr) (c : Nat) (l : List NodeT) (hl : NodesIn w K 0 l) :
    Calls Try.prog 6 #[.slice K l.length c] w fun e w' => e = .returned (.bool (largeL l 250 1).1) ∧ Below w.heap.size w w' := by
  have hb0 : Below w.heap.size w (w.alloc (.cells #[.int .i64 250] 53)) := (Below.refl _ _).alloc (Nat.le_refl _) _
  have hR : RoomAt (w.alloc (.cells #[.int .i64 250] 53)) w.heap.size 250 := blk_new w #[.int .i64 250] 53
  have LC := Lib.hid (rlarge_calls w w.heap.size (Nat.le_refl _) (countL l) l (Nat.le_refl _) _ K c 1 250 hl hb0 hR (by omega) (by omega) (by omega))
  clear hl hR
  go_enter Try.func6, Try.ntmps6
  go_wp2_with (go_at_call 18; refine LC.out.mono ?_; rintro e w1 ⟨rfl, hb1, _⟩)
  go_ret
  exact ⟨rfl, hb1⟩

end Go.Proofs.Ytdlenbkkcpcbmaa
