/- A region that draws its order, with calls that make memory: its operations are walked in an order of our own: those that only read ahead of the calls that come up alone. What is known of a world holds in all worlds that only make memory from it on. -/
import Derived.Test.YtdlenbkkcpcbmaaRegT
namespace Go.Proofs.Ytdlenbkkcpcbmaa
open Go Go.RowKit Go.Sort

/-- Worlds in which what is here is as it is here, but for blocks of O. -/
def Fut (O : Nat → Prop) (w w' : World) : Prop := Ch O w w'
theorem Fut.refl (O : Nat → Prop) (w : World) : Fut O w w := Ch.refl O w
theorem Fut.trans {O : Nat → Prop} {w w1 w2 : World} (h : Fut O w w1) (k : Fut O w1 w2) : Fut O w w2 := Ch.same h k
/-- Such a world, as the walk of a region holds it. -/
structure FutW (O : Nat → Prop) (w : World) where
  val : World
  ok : Ch O w val
instance {O : Nat → Prop} {w : World} : Inhabited (FutW O w) := ⟨⟨w, Ch.refl O w⟩⟩
theorem Fut.cell {O : Nat → Prop} {w : World} {b j : Nat} {v : Value} (h : w.cell? ⟨b, j, none⟩ = some v) (hO : ¬ O b) (x : FutW O w) : x.val.cell? ⟨b, j, none⟩ = some v :=
  (World.cell?_of_block (x.ok.block b (World.block_lt_of_cell? w _ h) hO)).trans h
theorem Fut.cellB {w : World} {a : Addr} {v : Value} (h : w.cell? a = some v) (x : FutW (fun _ => False) w) : x.val.cell? a = some v :=
  (World.cell?_of_block (x.ok.block a.block (World.block_lt_of_cell? w _ h) id)).trans h
/-- Operations that leave every world as it is. -/
def plainOp : Op → Bool
  | .move _ | .assign _ | .pick .. | .build .. | .load .. | .binOp .. | .unOp .. | .fieldAddr .. | .field .. | .indexAddr .. | .index .. | .extract .. | .nilCheck _ => true
  | _ => false
/-- A computation that ends in a value, if it ends well. -/
def OnlyV (s : Sem Next) : Prop := ∀ (P : Program) (w : World) (n : Next) (w' : World), s.run P w = .ok n w' → ∃ v, n = .value v
theorem only_bind {α : Type} (f : α → Sem Next) (hf : ∀ x, OnlyV (f x)) (s : Sem α) : OnlyV (s.bind f) := by
  induction s with
  | pure a => exact hf a
  | load m a k ih =>
    intro P w n w' h
    simp only [Sem.bind, Sem.run] at h
    split at h
    · exact ih _ P w n w' h
    · split at h
      · exact ih _ P w n w' h
      · cases h
  | store m a v k ih =>
    intro P w n w' h
    cases v <;> simp only [Sem.bind, Sem.run] at h <;> first
      | (cases h; done)
      | (split at h
         · split at h
           · cases h
           · exact ih P _ n w' h
         · split at h
           · exact ih P _ n w' h
           · cases h)
  | new o k ih => intro P w n w' h; exact ih _ P _ n w' h
  | shape r k ih => intro P w n w' h; exact ih _ P _ n w' h
  | freeze a m k ih => intro P w n w' h; exact ih P _ n w' h
  | frozen a k ih => intro P w n w' h; exact ih _ P _ n w' h
  | getObj r k ih =>
    intro P w n w' h
    simp only [Sem.bind, Sem.run] at h
    split at h
    · cases h
    · exact ih _ P w n w' h
    · cases h
  | setObj r o k ih =>
    intro P w n w' h
    simp only [Sem.bind, Sem.run] at h
    split at h
    · cases h
    · exact ih P _ n w' h
    · cases h
  | choose q k ih =>
    intro P w n w' h
    simp only [Sem.bind, Sem.run] at h
    split at h
    · exact ih _ P _ n w' h
    · exact ih _ P _ n w' h
  | sys c k ih => intro P w n w' h; exact ih _ P _ n w' h
  | program k ih => intro P w n w' h; exact ih _ P _ n w' h
  | mark m k ih => intro P w n w' h; exact ih P _ n w' h
  | halt x => intro P w n w' h; cases h
theorem only_value (v : Value) : OnlyV (Sem.pure (Next.value v)) := fun P w n w' h => by
  simp only [Sem.run] at h
  injection h with h1 _
  exact ⟨v, h1.symm⟩
theorem only_halt (x : Halt) : OnlyV (Sem.halt x) := fun P w n w' h => by cases h
theorem only_plain {o : Oper} {ρ : Operand → Value} (hp : plainOp o.op = true) : OnlyV (execOp ρ o) := by
  obtain ⟨dst, op, ty, pos, af, g⟩ := o
  cases op <;> simp only [plainOp] at hp <;> first
    | (cases hp; done)
    | exact only_bind _ (fun x => only_value x) _
    | skip
  case move x => exact only_value _
  case assign x => exact only_value _
  case pick c a b => exact only_bind _ (fun x => only_value _) _
  case nilCheck x =>
    have hh : OnlyV (runtimePanic RuntimeError.nilDeref) := by
      intro P w n w' h
      cases h
    simp only [execOp]
    split
    · exact hh
    · exact hh
    · exact hh
    · split
      · exact hh
      · refine only_bind _ (fun p => ?_) _
        refine only_bind _ (fun p => ?_) _
        split
        · exact only_bind _ (fun p => only_value _) _
        · exact only_value _
      · exact only_value _
    · exact only_value _

section
variable {P : Program} {ops : Array Oper} {Q : Exit → Act → World → Prop} {fin : Nat} {O : Nat → Prop}
theorem wpOp_hold {j : Nat} {oi oj : Oper} {v : Value} (hj : ops[j]? = some oj) (hap : oi.apart ops oj = true) (hsj : ∀ cs b, oj.op ≠ .select cs b)
    (hQ : ∀ c a w, Q (.panic c) (a.put oi.dst v) w → Q (.panic c) a w) {R : Act → Prop} (hR : ∀ a u, R a → R (a.put oj.dst u)) (hD : ∀ a d, R a → R { a with defers := d :: a.defers })
    {K : Act → World → Prop} {a : Act} {w : World} (hRa : R a) (h : wpOp P ops Q j K (a.put oi.dst v) w) : wpOp P ops Q j (fun a' w' => R a' ∧ K (a'.put oi.dst v) w') a w := by
  obtain ⟨h1, h2, -⟩ := Oper.apart_spec hap
  have back : ∀ (b : Act) (u : Value) (w' : World), R b → K ((b.put oi.dst v).put oj.dst u) w' → R (b.put oj.dst u) ∧ K ((b.put oj.dst u).put oi.dst v) w' := fun b u w' hb hk => ⟨hR b u hb, by rw [← Act.put_comm b v u h2]; exact hk⟩
  unfold wpOp at *
  rw [hj] at h ⊢
  simp only at h ⊢
  rw [wanted_put oj a oi.dst v h1] at h
  by_cases hw : Region.wanted oj (yielded ops a.tmps) = true
  · rw [if_pos hw] at h ⊢
    rcases h with h | ⟨hasks, hlets⟩
    · left
      unfold Oper.wp at *
      rw [execOp_put oj hsj a oi.dst v h1] at h
      generalize (execOp a.eval oj).run P w = r at *
      cases r with
      | ok n w' =>
        cases n <;> simp only [Oper.upon] at h ⊢
        case value u => exact back a u w' hRa h
        case skip => exact back a undef w' hRa h
        case defer d =>
          refine ⟨hR _ _ (hD a d hRa), ?_⟩
          rw [← Act.put_comm _ v undef h2, ← Act.put_defers]
          exact h
        case enter f args =>
          refine Calls.mono h fun e w'' he => ?_
          cases e with
          | returned u => exact back a u w'' hRa he
          | panicked c => exact hQ _ _ _ he
          | outgrown => exact he
        case row row args => exact Rows.mono h fun u w'' he => back a u w'' hRa he
      | halt x w' =>
        cases x <;> simp only [Oper.upon] at h ⊢
        case panic u => exact hQ _ _ _ h
    · right
      exact ⟨by unfold Oper.asks at *; rw [execOp_put oj hsj a oi.dst v h1] at hasks; exact hasks, hlets⟩
  · rw [if_neg hw] at h ⊢
    exact back a undef w hRa h
def wpF (O : Nat → Prop) (P : Program) (ops : Array Oper) (Q : Exit → Act → World → Prop) (fin : Nat) : Nat → Array Bool → Act → World → Prop
  | 0, listed, a, w => Region.ready .any ops listed = [] ∧ Q .normal a w
  | f + 1, listed, a, w => (Region.ready .any ops listed = [] → Q .normal a w) ∧
      ∀ i ∈ Region.ready .any ops listed, wpOp P ops Q i (fun a' w'' => if i = fin then Q .normal a' w'' else Fut O w w'' ∧ wpF O P ops Q fin f (listed.setIfInBounds i true) a' w'') a w
/-- The last operation, if it may do more than make memory, waits for all others. -/
def FinOk (ops : Array Oper) (fin : Nat) : Prop := fin = ops.size ∨ (fin + 1 = ops.size ∧ Region.sinkB .any ops fin = true)
theorem chain_last (h : fin + 1 = ops.size) : Region.chainB .any ops fin = true := by
  unfold Region.chainB
  exact List.all_eq_true.2 fun t ht => by
    have := List.mem_range.1 ht
    simp; left; omega
theorem not_fin (hf : FinOk ops fin) {listed : Array Bool} (inv : HeadInv .any ops fin listed) {i : Nat} (hi : i < fin) (hun : listed.getD i true = false) : fin ∉ Region.ready .any ops listed := by
  rcases hf with h | ⟨h, hs⟩
  · intro hr
    obtain ⟨_, x, hx, _⟩ := mem_ready.1 hr
    have := (Array.getElem?_eq_some_iff.1 hx).1
    omega
  · exact tail_waits hs (chain_last h) (by omega) inv _ i rfl hi hun fin (Nat.le_refl _)
theorem lt_fin (hf : FinOk ops fin) {listed : Array Bool} {i : Nat} (hi : i ∈ Region.ready .any ops listed) (hne : i ≠ fin) : i < fin := by
  obtain ⟨_, x, hx, _⟩ := mem_ready.1 hi
  have := (Array.getElem?_eq_some_iff.1 hx).1
  rcases hf with h | ⟨h, _⟩ <;> omega
theorem wpAny_of_F (hf : FinOk ops fin) : ∀ (f : Nat) (listed : Array Bool) (a : Act) (w : World), HeadInv .any ops fin listed → wpF O P ops Q fin f listed a w → wpAny P .any ops Q f listed a w := by
  intro f
  induction f with
  | zero => intro listed a w _ h; exact h
  | succ f ih =>
    intro listed a w inv h
    obtain ⟨h1, h2⟩ := h
    refine ⟨h1, fun i hi => wpOp_mono (fun a' w' hk => ?_) (h2 i hi)⟩
    by_cases he : i = fin
    · rw [if_pos he] at hk
      subst he
      have hnone : Region.ready .any ops (listed.setIfInBounds i true) = [] := by
        refine List.eq_nil_iff_forall_not_mem.2 fun j hj => ?_
        obtain ⟨hu, x, hx, _⟩ := mem_ready.1 hj
        have hjl := (Array.getElem?_eq_some_iff.1 hx).1
        have hil : i < ops.size := by
          obtain ⟨_, y, hy, _⟩ := mem_ready.1 hi
          exact (Array.getElem?_eq_some_iff.1 hy).1
        by_cases hji : j = i
        · subst hji
          have hsz : j < listed.size := by rw [inv.size]; omega
          simp [hsz] at hu
        · rw [getD_set_ne true (fun e => hji e.symm)] at hu
          have hlt : j < i := by rcases hf with h | ⟨h, _⟩ <;> omega
          exact not_fin hf inv hlt hu hi
      cases f with
      | zero => exact ⟨hnone, hk⟩
      | succ f => exact ⟨fun _ => hk, fun j hj => by rw [hnone] at hj; cases hj⟩
    · rw [if_neg he] at hk
      exact ih _ _ _ (inv.set hi (lt_fin hf hi he)) hk.2
def StillF (O : Nat → Prop) (P : Program) (ops : Array Oper) (w : World) (o : Oper) (v : Value) (a : Act) : Prop :=
  (Region.wanted o (yielded ops a.tmps) = true ∧ ∀ w', Fut O w w' → (execOp a.eval o).run P w' = .ok (.value v) w') ∨ (Region.wanted o (yielded ops a.tmps) = false ∧ v = undef)
theorem StillF.fut {w w' : World} {o : Oper} {v : Value} {a : Act} (h : StillF O P ops w o v a) (hw : Fut O w w') : StillF O P ops w' o v a :=
  h.imp (fun h => ⟨h.1, fun w1 h1 => h.2 w1 (hw.trans h1)⟩) id
theorem StillF.same {w : World} {o : Oper} {v : Value} {a a' : Act} (h : StillF O P ops w o v a) (he : execOp a'.eval o = execOp a.eval o) (hw : Region.wanted o (yielded ops a'.tmps) = Region.wanted o (yielded ops a.tmps)) : StillF O P ops w o v a' := by
  unfold StillF at *
  rw [he, hw]; exact h
theorem wpF_first (hf : FinOk ops fin) {i : Nat} {oi : Oper} {v : Value} (hi : ops[i]? = some oi) (hif : i < fin) (hsel : ∀ (j : Nat) (o : Oper) cs b, ops[j]? = some o → o.op ≠ .select cs b)
    (hQ : ∀ c (a : Act) d u w, Q (.panic c) (a.put d u) w → Q (.panic c) a w) : ∀ (f : Nat) (listed : Array Bool) (a : Act) (w : World), HeadInv .any ops fin listed →
      (∀ j oj, ops[j]? = some oj → j ≠ i → listed.getD j true = false → (∀ e ∈ oj.after, Region.binds .any e = true → e.on ≠ i) → oi.apart ops oj = true) →
      i ∈ Region.ready .any ops listed → StillF O P ops w oi v a → wpF O P ops Q fin f (listed.setIfInBounds i true) (a.put oi.dst v) w → wpF O P ops Q fin (f + 1) listed a w := by
  intro f
  induction f with
  | zero =>
    intro listed a w inv hfree hr hy H
    refine ⟨fun h => (by rw [h] at hr; cases hr), fun j hj => ?_⟩
    by_cases hji : j = i
    · subst hji
      unfold wpOp
      rw [hi]
      simp only
      rcases hy with ⟨hw, hv⟩ | ⟨hw, rfl⟩
      · rw [if_pos hw]
        left
        unfold Oper.wp
        rw [hv w (Fut.refl O w), Oper.upon_value, if_neg (by omega)]
        exact ⟨Fut.refl O _, H⟩
      · rw [if_neg (by rw [hw]; decide), if_neg (by omega)]
        exact ⟨Fut.refl O _, H⟩
    · have := ready_mono hj hji
      rw [H.1] at this
      cases this
  | succ f ih =>
    intro listed a w inv hfree hr hy H
    refine ⟨fun h => (by rw [h] at hr; cases hr), fun j hj => ?_⟩
    by_cases hji : j = i
    · subst hji
      unfold wpOp
      rw [hi]
      simp only
      rcases hy with ⟨hw, hv⟩ | ⟨hw, rfl⟩
      · rw [if_pos hw]
        left
        unfold Oper.wp
        rw [hv w (Fut.refl O w), Oper.upon_value, if_neg (by omega)]
        exact ⟨Fut.refl O _, H⟩
      · rw [if_neg (by rw [hw]; decide), if_neg (by omega)]
        exact ⟨Fut.refl O _, H⟩
    · have h1 := H.2 j (ready_mono hj hji)
      have hun := (mem_ready.1 hr).1
      have hjf : j ≠ fin := fun e => not_fin hf inv hif hun (e ▸ hj)
      obtain ⟨hjun, oj, hoj, hall⟩ := mem_ready.1 hj
      have hnot : ∀ e ∈ oj.after, Region.binds .any e = true → e.on ≠ i := fun e he hb heq => by
        have h1 := hall e he hb
        rw [heq, getD_both hun] at h1
        cases h1
      have hap := hfree j oj hoj hji hjun hnot
      obtain ⟨-, -, h3⟩ := Oper.apart_spec hap
      have h2 := wpOp_hold (R := fun a' => execOp a'.eval oi = execOp a.eval oi ∧ Region.wanted oi (yielded ops a'.tmps) = Region.wanted oi (yielded ops a.tmps)) hoj hap (fun cs b => hsel j oj cs b hoj) (fun c a w h => hQ c a _ _ w h)
        (fun b u hb => ⟨(execOp_put oi (fun cs b => hsel i oi cs b hi) b oj.dst u h3).trans hb.1, (wanted_put oi b oj.dst u h3).trans hb.2⟩) (fun b d hb => hb) ⟨rfl, rfl⟩ h1
      have hfree' : ∀ k ok, ops[k]? = some ok → k ≠ i → (listed.setIfInBounds j true).getD k true = false →
          (∀ e ∈ ok.after, Region.binds .any e = true → e.on ≠ i) → oi.apart ops ok = true := fun k ok hk hki hun' hno => by
        refine hfree k ok hk hki ?_ hno
        by_cases hjk : j = k
        · subst hjk; exact hjun
        · rw [getD_set_ne true hjk] at hun'; exact hun'
      refine wpOp_mono (fun a' w'' hk => ?_) h2
      obtain ⟨⟨r1, r2⟩, hk⟩ := hk
      rw [if_neg hjf] at hk ⊢
      refine ⟨hk.1, ih (listed.setIfInBounds j true) a' w'' (inv.set hj (lt_fin hf hj hjf)) hfree' (ready_mono hr (Ne.symm hji)) ((hy.same r1 r2).fut hk.1) ?_⟩
      rw [Array.setIfInBounds_comm _ _ hji]
      exact hk.2
/-- The walk: operations that leave the world as it is (true), and such as come up alone (false). -/
def wpS (O : Nat → Prop) (P : Program) (ops : Array Oper) (Q : Exit → Act → World → Prop) (fin : Nat) : List (Nat × Bool) → Act → World → Prop
  | [], a, w => Q .normal a w
  | (k, true) :: r, a, w => ∃ o v, ops[k]? = some o ∧ StillF O P ops w o v a ∧ wpS O P ops Q fin r (a.put o.dst v) w
  | (k, false) :: r, a, w => wpOp P ops Q k (fun a' w'' => if k = fin then Q .normal a' w'' else Fut O w w'' ∧ wpS O P ops Q fin r a' w'') a w
def schedB (ops : Array Oper) (fin : Nat) : List (Nat × Bool) → Array Bool → Bool
  | [], listed => (Region.ready .any ops listed).isEmpty
  | (k, true) :: r, listed => decide (k < fin) && (Region.ready .any ops listed).contains k && Region.free .any ops listed k && schedB ops fin r (listed.setIfInBounds k true)
  | (k, false) :: r, listed => decide (Region.ready .any ops listed = [k]) && schedB ops fin r (listed.setIfInBounds k true)
theorem wpF_of_S (hf : FinOk ops fin) (hsel : Region.noSelect ops = true) (hQ : ∀ c (a : Act) d u w, Q (.panic c) (a.put d u) w → Q (.panic c) a w) : ∀ (s : List (Nat × Bool)) (listed : Array Bool) (a : Act) (w : World), HeadInv .any ops fin listed → schedB ops fin s listed = true → wpS O P ops Q fin s a w → wpF O P ops Q fin s.length listed a w
  | [], listed, a, w, _, hB, h => ⟨by simpa [schedB] using hB, h⟩
  | (k, true) :: r, listed, a, w, inv, hB, h => by
    simp only [schedB, Bool.and_eq_true, decide_eq_true_eq] at hB
    obtain ⟨⟨⟨h1, h2⟩, h3⟩, h4⟩ := hB
    obtain ⟨o, v, ho, hy, hr⟩ := h
    have hmem : k ∈ Region.ready .any ops listed := by simpa using h2
    exact wpF_first hf ho h1 (Region.noSelect_spec hsel) hQ r.length listed a w inv (Region.free_spec ho h3) hmem hy (wpF_of_S hf hsel hQ r _ _ _ (inv.set hmem h1) h4 hr)
  | (k, false) :: r, listed, a, w, inv, hB, h => by
    simp only [schedB, Bool.and_eq_true, decide_eq_true_eq] at hB
    obtain ⟨h1, h2⟩ := hB
    refine ⟨fun h0 => (by rw [h1] at h0; cases h0), fun i hi => ?_⟩
    have hik : i = k := by rw [h1] at hi; exact List.mem_singleton.1 hi
    subst hik
    refine wpOp_mono (fun a' w'' hk => ?_) h
    by_cases he : i = fin
    · rw [if_pos he] at hk ⊢; exact hk
    · rw [if_neg he] at hk ⊢
      exact ⟨hk.1, wpF_of_S hf hsel hQ r _ _ _ (inv.set hi (lt_fin hf hi he)) h2 hk.2⟩
def schedOk (ops : Array Oper) (fin : Nat) (s : List (Nat × Bool)) : Bool :=
  Region.noSelect ops && decide (s.length = ops.size) && (decide (fin = ops.size) || (decide (fin + 1 = ops.size) && Region.sinkB .any ops fin)) && schedB ops fin s (Array.replicate ops.size false)
theorem region_sched (O : Nat → Prop) (fin : Nat) (s : List (Nat × Bool)) {id : Nat} {a : Act} {w : World} (hm : P.follows .mixedOrders = true) (hB : schedOk ops fin s = true) (hQ : ∀ c (a : Act) d u w, Q (.panic c) (a.put d u) w → Q (.panic c) a w)
    (h : wpS O P ops Q fin s a w.drew) : (Code.region id ops true).wp P Q a w := by
  simp only [schedOk, Bool.and_eq_true, Bool.or_eq_true, decide_eq_true_eq] at hB
  obtain ⟨⟨⟨h1, h2⟩, h3⟩, h4⟩ := hB
  refine wp_region_any hm ?_
  rw [← h2]
  have hsz : s.length = ops.size := h2
  refine wpAny_of_F (O := O) (fin := fin) h3 _ _ _ _ ⟨by simp [hsz], fun j oj _ hl => (by rw [getD_replicate_false] at hl; cases hl), fun t _ ht => getD_in (by simpa [hsz] using ht) (getD_replicate_false _ _)⟩ ?_
  rw [hsz]
  have := wpF_of_S (O := O) (P := P) (Q := Q) h3 h1 hQ s (Array.replicate ops.size false) a w.drew ⟨by simp, fun j oj _ hl => (by rw [getD_replicate_false] at hl; cases hl), fun t _ ht => getD_in (by simpa using ht) (getD_replicate_false _ _)⟩ h4 h
  rw [hsz] at this
  exact this
theorem still_of_quietF {w : World} {o : Oper} {v : Value} {a : Act} (hp : plainOp o.op = true) (h : ∀ w', (∃ x : FutW O w, w' = x.val) → o.quietAt P a (fun w' => ∃ x : FutW O w, w' = x.val) w' v) : ∀ w', Fut O w w' → (execOp a.eval o).run P w' = .ok (.value v) w' := fun w' hw' => by
  have h1 := h w' ⟨⟨w', hw'⟩, rfl⟩
  unfold Oper.quietAt at h1
  have h2 := only_plain (ρ := a.eval) hp P w'
  generalize (execOp a.eval o).run P w' = r at *
  cases r with
  | ok n w'' =>
    obtain ⟨u, rfl⟩ := h2 n w'' rfl
    obtain ⟨e1, e2⟩ := h1
    rw [e1, e2]
  | halt x w'' => exact h1.elim
/-- Some operations that leave the world as it is. -/
theorem sched_quiet {r : List (Nat × Bool)} {w : World} : ∀ (ks : List Nat) (l : List Oper) (a : Act), ks.map (fun k => ops[k]?) = l.map some → l.all (fun o => plainOp o.op) = true →
    wpQuiet P ops (fun w' => ∃ x : FutW O w, w' = x.val) (fun a' => wpS O P ops Q fin r a' w) l a → wpS O P ops Q fin (ks.map (fun k => (k, true)) ++ r) a w
  | [], [], _, _, _, h => h
  | [], _ :: _, _, h, _, _ => by simp at h
  | _ :: _, [], _, h, _, _ => by simp at h
  | k :: ks, o :: l, a, hl, hp, h => by
    simp only [List.map_cons, List.cons.injEq] at hl
    simp only [List.all_cons, Bool.and_eq_true] at hp
    rw [List.map_cons, List.cons_append]
    unfold wpQuiet at h
    by_cases hw : Region.wanted o (yielded ops a.tmps) = true
    · rw [if_pos hw] at h
      obtain ⟨v, h1, h2⟩ := h
      exact ⟨o, v, hl.1, .inl ⟨hw, still_of_quietF hp.1 h1⟩, sched_quiet ks l _ hl.2 hp.2 h2⟩
    · rw [if_neg hw] at h
      exact ⟨o, undef, hl.1, .inr ⟨by simpa using hw, rfl⟩, sched_quiet ks l _ hl.2 hp.2 h⟩
theorem wpOp_of_list {k : Nat} {o : Oper} {K : Act → World → Prop} {a : Act} {w : World} (ho : ops[k]? = some o) (h : wpList P ops (Exit.then K Q) [o] a w) : wpOp P ops Q k K a w := by
  unfold wpList at h
  unfold wpOp
  rw [ho]
  simp only
  split
  · rename_i hw
    rw [if_pos hw] at h
    rcases h with h | ⟨h1, a', w', h2⟩
    · left
      unfold Oper.wp at *
      generalize (execOp a.eval o).run P w = r at *
      cases r with
      | ok n w' =>
        cases n <;> simp only [Oper.upon] at h ⊢
        case value u => exact h
        case skip => exact h
        case defer d => exact h
        case enter f args => exact Calls.mono h fun e w'' he => by cases e <;> exact he
        case row row args => exact h
      | halt x w' =>
        cases x <;> simp only [Oper.upon] at h ⊢
        case panic u => exact h
    · exact .inr ⟨h1, a', w', h2⟩
  · rename_i hw
    rw [if_neg hw] at h
    exact h
/-- An operation that comes up alone. -/
theorem sched_sole {r : List (Nat × Bool)} {k : Nat} {o : Oper} {a : Act} {w : World} (ho : ops[k]? = some o) (hk : k ≠ fin)
    (h : ∀ (K : Act → World → Prop), (∀ a' w'', Fut O w w'' → wpS O P ops Q fin r a' w'' → K a' w'') → wpList P ops (Exit.then K Q) [o] a w) : wpS O P ops Q fin ((k, false) :: r) a w := by
  refine wpOp_of_list ho (h _ fun a' w'' h1 h2 => ?_)
  rw [if_neg hk]
  exact ⟨h1, h2⟩
theorem sched_last {r : List (Nat × Bool)} {k : Nat} {o : Oper} {a : Act} {w : World} (ho : ops[k]? = some o) (hk : k = fin) (h : wpList P ops Q [o] a w) : wpS O P ops Q fin ((k, false) :: r) a w := by
  have := h
  refine wpOp_mono (K := Q .normal) (fun a' w'' h1 => by rw [if_pos hk]; exact h1) (wpOp_of_list ho ?_)
  have e : Exit.then (Q .normal) Q = Q := by funext e a w; cases e <;> rfl
  rw [e]; exact this
end

end Go.Proofs.Ytdlenbkkcpcbmaa
