/- Equal lists of attributes, equal tokens (rectoplain.Attrs, rectolaw05.same): contracts. -/
import Derived.Test.YthfkldheflmlmaaGreatDoorAdd
import Derived.Test.YthfkldheflmlmaaGreatDoorAll
namespace Go.Proofs.YthfkldheflmlmaaGreatDoor
open Go.RowKit Go.Lib

def eqAt (l l' : List AttrT) (k : Nat) : Bool := ((l.getD k ([], [])).1 == (l'.getD k ([], [])).1) && ((l.getD k ([], [])).2 == (l'.getD k ([], [])).2)
theorem eq_of_at (l l' : List AttrT) (hl : l.length = l'.length) (h : ∀ j, j < l.length → eqAt l l' j = true) : l = l' := by
  apply List.ext_getElem hl
  intro j h1 h2
  have := h j h1
  rw [eqAt, List.getD, List.getD, List.getElem?_eq_getElem h1, List.getElem?_eq_getElem h2, Bool.and_eq_true, beq_iff_eq, beq_iff_eq] at this
  exact Prod.ext this.1 this.2
theorem at_of_eq (l : List AttrT) (j : Nat) : eqAt l l j = true := by simp [eqAt]
theorem AttrsAt.drewN {w : World} {A : Option Addr} {l : List AttrT} (h : AttrsAt w A l) (n : Nat) : AttrsAt (w.drewN n) A l := h
set_option maxRecDepth 100000 in
set_option maxHeartbeats 4000000 in
theorem rattrs_calls (w : World) (A B : Option Addr) (c c' : Nat) (l l' : List AttrT) (hl : AttrsAt w A l) (hl' : AttrsAt w B l') (hz : l.length ≤ 1000000) (_hz' : l'.length ≤ 1000000) :
    Calls Tryz.prog 14 #[.slice A l.length c, .slice B l'.length c'] w fun e w' =>
      e = .returned (.bool (decide (l = l'))) ∧ ∃ n, w' = w.drewN n := by
  have HL := Lib.hid hl
  have HL' := Lib.hid hl'
  obtain ⟨r, hr⟩ : ∃ r, decide (l = l') = r := ⟨_, rfl⟩
  rw [hr]
  have HRR := Lib.hid hr
  clear hl hl' hr
  go_enter Tryz.func14, Tryz.ntmps14
  go_wp2
  go_loopw [8] (fun i wr => ∃ k : Nat, k ≤ l.length ∧ i = .int .i64 k ∧ (∃ n, wr = w.drewN n) ∧ Hid (∀ j, j < k → j < l'.length ∧ eqAt l l' j = true)) (fun i _ => l.length - (RowKit.intOf i).toNat)
  case atStart => exact ⟨0, by omega, rfl, ⟨0, rfl⟩, Lib.hid (fun j hj => by omega)⟩
  case round =>
    obtain ⟨k, hk, rfl, ⟨n, rfl⟩, HN⟩ := hrel
    by_cases hlt : k < l.length
    · obtain ⟨ad, rfl, hc0, hc1⟩ := HL.out.at_ hlt
      by_cases hlt' : k < l'.length
      · obtain ⟨ad', rfl, hd0, hd1⟩ := HL'.out.at_ hlt'
        have hq1 : ((mkS (l.getD k ([], [])).1).toList == (mkS (l'.getD k ([], [])).1).toList) = ((l.getD k ([], [])).1 == (l'.getD k ([], [])).1) := by rw [ByteArray.toList_eq, ByteArray.toList_eq, of_mkS, of_mkS]
        have hq2 : ((mkS (l.getD k ([], [])).2).toList == (mkS (l'.getD k ([], [])).2).toList) = ((l.getD k ([], [])).2 == (l'.getD k ([], [])).2) := by rw [ByteArray.toList_eq, ByteArray.toList_eq, of_mkS, of_mkS]
        obtain ⟨x, hx⟩ : ∃ x, l.getD k ([], []) = x := ⟨_, rfl⟩
        obtain ⟨y, hy⟩ : ∃ y, l'.getD k ([], []) = y := ⟨_, rfl⟩
        have he : eqAt l l' k = ((x.1 == y.1) && (x.2 == y.2)) := by rw [eqAt, hx, hy]
        rw [hx] at hc0 hc1 hq1 hq2
        rw [hy] at hd0 hd1 hq1 hq2
        have HE := Lib.hid he
        clear hx hy he
        have hd1 : decide (l'.length ≤ k) = false := decide_eq_false (by omega)
        have i2 : (k : Int) < (l'.length : Int) := by omega
        have i3 : (k : Int) < (l.length : Int) := by omega
        cases e1 : x.1 == y.1 with
        | true =>
          rw [e1] at hq1
          cases e2 : x.2 == y.2 with
          | true =>
            rw [e2] at hq2
            have HQ := Lib.hid (show ∀ j, j < k + 1 → j < l'.length ∧ eqAt l l' j = true from fun j hj => by
              by_cases ej : j = k
              · subst ej; exact ⟨hlt', by rw [HE.out, e1, e2]; rfl⟩
              · exact HN.out j (by omega))
            clear e1 e2
            go_wp2
            go_quiet (fail)
            go_wp2
            go_roundw
            case rel => exact ⟨k + 1, by omega, by go_num, ⟨_, rfl⟩, HQ⟩
            case measure => simp [RowKit.intOf]; omega
          | false =>
            rw [e2] at hq2
            have HQ : Hid (r = false) := Lib.hid (by
              rw [← HRR.out, decide_eq_false]
              intro h
              have := at_of_eq l k
              rw [← h] at HE
              rw [HE.out, e2, Bool.and_false] at this
              cases this)
            clear e1 e2
            go_wp2
            go_quiet (fail)
            go_wp2
            go_ret
            exact ⟨by rw [HQ.out]; rfl, _, drewN_add w n nq⟩
        | false =>
          rw [e1] at hq1
          have HQ : Hid (r = false) := Lib.hid (by
            rw [← HRR.out, decide_eq_false]
            intro h
            have := at_of_eq l k
            rw [← h] at HE
            rw [HE.out, e1, Bool.false_and] at this
            cases this)
          clear e1
          cases e2 : x.2 == y.2
          all_goals
            rw [e2] at hq2
            clear e2
            go_wp2
            go_quiet (fail)
            go_wp2
            go_ret
            exact ⟨by rw [HQ.out]; rfl, _, drewN_add w n nq⟩
      · have hd1 : decide (l'.length ≤ k) = true := decide_eq_true (by omega)
        have HQ : Hid (r = false) := Lib.hid (by
          rw [← HRR.out, decide_eq_false]
          intro h
          rw [h] at hlt
          exact hlt' hlt)
        clear hc0 hc1
        go_wp2
        go_quiet (fail)
        go_wp2
        go_ret
        exact ⟨by rw [HQ.out]; rfl, _, drewN_add w n nq⟩
    · obtain rfl : k = l.length := by omega
      have HQ : Hid (r = decide (l.length = l'.length)) := Lib.hid (by
        rw [← HRR.out, decide_eq_decide]
        constructor
        · intro h; rw [h]
        · intro h; exact eq_of_at l l' h (fun j hj => (HN.out j hj).2))
      by_cases h : l.length = l'.length
      · have hh : ((l.length : Int) == (l'.length : Int)) = true := by rw [h]; simp
        have HR : Hid (r = true) := Lib.hid (by rw [HQ.out, decide_eq_true h])
        clear h hlt
        go_wp2
        go_ret
        exact ⟨by rw [HR.out]; rfl, _, rfl⟩
      · have hh : ((l.length : Int) == (l'.length : Int)) = false := beq_eq_false_iff_ne.2 (by omega)
        have HR : Hid (r = false) := Lib.hid (by rw [HQ.out, decide_eq_false h])
        clear h hlt
        go_wp2
        go_ret
        exact ⟨by rw [HR.out]; rfl, _, rfl⟩

/-- Equal tokens? -/
def sameT (a b : TokM) : Bool := (a.k == b.k) && ((a.name == b.name) && ((a.self == b.self) && ((a.text == b.text) && decide (a.attrs = b.attrs))))
theorem sameT_refl (a : TokM) : sameT a a = true := by simp [sameT]
theorem sameT_eq {a b : TokM} (h : sameT a b = true) : a = b := by
  obtain ⟨k, n, l, f, x⟩ := a
  obtain ⟨k', n', l', f', x'⟩ := b
  simp only [sameT, Bool.and_eq_true, beq_iff_eq, decide_eq_true_eq] at h
  obtain ⟨rfl, rfl, rfl, rfl, rfl⟩ := h
  rfl
set_option maxRecDepth 100000 in
set_option maxHeartbeats 8000000 in
theorem same_calls (w : World) (a b : TokM) (A B : Option Addr) (c c' : Nat) (hl : AttrsAt w A a.attrs) (hl' : AttrsAt w B b.attrs) (hz : a.attrs.length ≤ 1000000) (hz' : b.attrs.length ≤ 1000000) :
    Calls Tryz.prog 8 #[.agg #[.int .i64 a.k, .string (mkS a.name), .slice A a.attrs.length c, .bool a.self, .string (mkS a.text)], .agg #[.int .i64 b.k, .string (mkS b.name), .slice B b.attrs.length c', .bool b.self, .string (mkS b.text)]] w fun e w' =>
      e = .returned (.bool (sameT a b)) ∧ Below w.heap.size w w' := by
  obtain ⟨r, hr⟩ : ∃ r, sameT a b = r := ⟨_, rfl⟩
  rw [hr]
  obtain ⟨k, n, l, f, x⟩ := a
  obtain ⟨k', n', l', f', x'⟩ := b
  rw [sameT] at hr
  simp only at hl hl' hz hz' hr ⊢
  have hb0 : Below w.heap.size w ((w.alloc (.cells #[.int .i64 k, .string (mkS n), .slice A l.length c, .bool f, .string (mkS x)] 30)).alloc (.cells #[.int .i64 k', .string (mkS n'), .slice B l'.length c', .bool f', .string (mkS x')] 31)) := ((Below.refl _ _).alloc (Nat.le_refl _) _).alloc (by simp) _
  have hP := blk_alloc (blk_new w #[.int .i64 k, .string (mkS n), .slice A l.length c, .bool f, .string (mkS x)] 30) (.cells #[.int .i64 k', .string (mkS n'), .slice B l'.length c', .bool f', .string (mkS x')] 31)
  have hQ := blk_new (w.alloc (.cells #[.int .i64 k, .string (mkS n), .slice A l.length c, .bool f, .string (mkS x)] 30)) #[.int .i64 k', .string (mkS n'), .slice B l'.length c', .bool f', .string (mkS x')] 31
  rw [show (w.alloc (.cells #[.int .i64 k, .string (mkS n), .slice A l.length c, .bool f, .string (mkS x)] 30)).heap.size = w.heap.size + 1 by simp] at hQ
  have hq1 : ((mkS n).toList == (mkS n').toList) = (n == n') := by rw [ByteArray.toList_eq, ByteArray.toList_eq, of_mkS, of_mkS]
  have hq2 : ((mkS x).toList == (mkS x').toList) = (x == x') := by rw [ByteArray.toList_eq, ByteArray.toList_eq, of_mkS, of_mkS]
  have AC := Lib.hid (fun W h h' => rattrs_calls W A B c c' l l' h h' hz hz')
  have HL := Lib.hid (hl.below hb0)
  have HL' := Lib.hid (hl'.below hb0)
  clear hl hl'
  go_enter Tryz.func8, Tryz.ntmps8
  go_upto_region 1 with fail
  generalize (w.alloc (.cells #[.int .i64 k, .string (mkS n), .slice A l.length c, .bool f, .string (mkS x)] 30)).alloc (.cells #[.int .i64 k', .string (mkS n'), .slice B l'.length c', .bool f', .string (mkS x')] 31) = w0 at *
  have p0 := blk_cell hP 0
  have p1 := blk_cell hP 1
  have p2 := blk_cell hP 2
  have p3 := blk_cell hP 3
  have p4 := blk_cell hP 4
  have q0 := blk_cell hQ 0
  have q1 := blk_cell hQ 1
  have q2 := blk_cell hQ 2
  have q3 := blk_cell hQ 3
  have q4 := blk_cell hQ 4
  have HB := Lib.hid hb0
  clear hP hQ hb0
  cases e1 : k == k' with
  | false =>
    rw [e1, Bool.false_and] at hr
    subst hr
    go_wp2
    go_ret
    exact ⟨rfl, HB.out⟩
  | true =>
  rw [e1, Bool.true_and] at hr
  cases e2 : n == n' with
  | false =>
    rw [e2, Bool.false_and] at hr
    rw [e2] at hq1
    subst hr
    clear e2
    go_wp2
    go_ret
    exact ⟨rfl, HB.out⟩
  | true =>
  rw [e2, Bool.true_and] at hr
  rw [e2] at hq1
  clear e2
  cases e3 : f == f' with
  | false =>
    rw [e3, Bool.false_and] at hr
    subst hr
    go_wp2
    go_ret
    exact ⟨rfl, HB.out⟩
  | true =>
  rw [e3, Bool.true_and] at hr
  cases e4 : x == x' with
  | false =>
    rw [e4, Bool.false_and] at hr
    rw [e4] at hq2
    subst hr
    clear e4
    go_wp2
    go_ret
    exact ⟨rfl, HB.out⟩
  | true =>
  rw [e4, Bool.true_and] at hr
  rw [e4] at hq2
  clear e4
  rw [hr] at AC
  clear hr
  go_wp2_with (go_at_call 14; (with_reducible refine (AC.out _ HL.out HL'.out).mono ?_); rintro v w1 ⟨rfl, n1, rfl⟩)
  go_ret
  exact ⟨rfl, below_drewN HB.out n1⟩

end Go.Proofs.YthfkldheflmlmaaGreatDoor
