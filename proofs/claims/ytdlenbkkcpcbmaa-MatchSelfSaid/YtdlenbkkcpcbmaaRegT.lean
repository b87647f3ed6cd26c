/- A region that draws its order, whose operations but the last only read or make memory, and whose last one waits for all of them: one walk of the lexical order serves every order. -/
import Derived.Test.YtdlenbkkcpcbmaaMBase
namespace Go.Proofs.Ytdlenbkkcpcbmaa
open Go Go.RowKit Go.Sort

/-- An operation that does nothing, at the place of another. -/
def idle (o : Oper) : Oper := { o with dst := none, op := .move (.const undef), guard := none }
section
variable {P : Program} {C : World → Prop} {l : List Oper} {o : Oper}
def withIdle (l : List Oper) (o : Oper) : Array Oper := (l ++ [idle o]).toArray
def withLast (l : List Oper) (o : Oper) : Array Oper := (l ++ [o]).toArray
/-- All edges lead back, and no guard is the last operation's. -/
def backB (l : List Oper) (o : Oper) : Bool :=
  ((l ++ [o]).zipIdx.all fun x => x.1.after.all fun e => !Region.binds .any e || decide (e.on < x.2)) && l.all fun x => match x.guard with | some (j, _) => decide (j < l.length) | none => true
theorem last_size : (withLast l o).size = l.length + 1 := by simp [withLast]
theorem idle_size : (withIdle l o).size = l.length + 1 := by simp [withIdle]
theorem idle_at {i : Nat} (h : i < l.length) : (withIdle l o)[i]? = (withLast l o)[i]? := by
  simp [withIdle, withLast, List.getElem?_append_left h]
theorem last_at : (withLast l o)[l.length]? = some o := by simp [withLast]
theorem idle_last : (withIdle l o)[l.length]? = some (idle o) := by simp [withIdle]
theorem idle_after (i : Nat) : ((withIdle l o)[i]?).map (·.after) = ((withLast l o)[i]?).map (·.after) := by
  rcases Nat.lt_trichotomy i l.length with h | h | h
  · rw [idle_at h]
  · subst h; rw [idle_last, last_at]; rfl
  · rw [Array.getElem?_eq_none (by rw [idle_size]; omega), Array.getElem?_eq_none (by rw [last_size]; omega)]
theorem idle_ready (listed : Array Bool) : Region.ready .any (withIdle l o) listed = Region.ready .any (withLast l o) listed := by
  unfold Region.ready
  rw [idle_size, last_size]
  congr 1
  funext i
  have h := idle_after (l := l) (o := o) i
  cases h1 : (withIdle l o)[i]? <;> cases h2 : (withLast l o)[i]? <;> rw [h1, h2] at h <;> simp_all
theorem idle_wanted {i : Nat} {x : Oper} (hb : backB l o = true) (hi : i < l.length) (hx : (withLast l o)[i]? = some x) (tmps : Array Value) :
    Region.wanted x (yielded (withIdle l o) tmps) = Region.wanted x (yielded (withLast l o) tmps) := by
  have hm : x ∈ l := by
    have := hx
    simp only [withLast, List.getElem?_toArray, List.getElem?_append_left hi] at this
    exact List.mem_of_getElem? this
  simp only [backB, Bool.and_eq_true] at hb
  have h := List.all_eq_true.1 hb.2 x hm
  unfold Region.wanted
  cases hg : x.guard with
  | none => rfl
  | some g =>
    obtain ⟨j, want⟩ := g
    rw [hg] at h
    have hj : j < l.length := by simpa using h
    show (yielded (withIdle l o) tmps j == some want) = (yielded (withLast l o) tmps j == some want)
    unfold yielded
    rw [idle_at hj]
theorem idle_op {i : Nat} {K : Act → World → Prop} {Q' : Exit → Act → World → Prop} {a : Act} {w : World} (hb : backB l o = true) (hi : i < l.length)
    (h : wpOp P (withIdle l o) Q' i K a w) : wpOp P (withLast l o) Q' i K a w := by
  unfold wpOp at *
  rw [idle_at hi] at h
  cases hx : (withLast l o)[i]? with
  | none => rw [hx] at h; exact h
  | some x =>
    rw [hx] at h
    simp only at h ⊢
    rw [idle_wanted hb hi hx] at h
    exact h
theorem some_ready (hb : backB l o = true) {listed : Array Bool} (hs : listed.size = l.length + 1) : ∀ d i, i = d → i ≤ l.length → listed.getD i true = false → Region.ready .any (withLast l o) listed ≠ [] := by
  intro d
  induction d using Nat.strongRecOn with
  | _ d ih =>
    intro i hd hi hun hr
    subst hd
    obtain ⟨x, hx⟩ : ∃ x, (withLast l o)[i]? = some x := ⟨_, Array.getElem?_eq_getElem (by rw [last_size]; omega)⟩
    by_cases hall : ∀ e ∈ x.after, Region.binds .any e = true → listed.getD e.on false = true
    · have : i ∈ Region.ready .any (withLast l o) listed := mem_ready.2 ⟨hun, x, hx, hall⟩
      rw [hr] at this
      cases this
    · have ⟨e, he⟩ := Classical.not_forall.1 hall
      have ⟨he1, he2⟩ := Classical.not_imp.1 he
      have ⟨he3, he4⟩ := Classical.not_imp.1 he2
      have hlt : e.on < i := by
        simp only [backB, Bool.and_eq_true] at hb
        have hx' : (x, i) ∈ (l ++ [o]).zipIdx := by
          rw [List.mem_zipIdx_iff_getElem?]
          simpa [withLast] using hx
        have h1 := List.all_eq_true.1 hb.1 _ hx'
        have h2 := Array.all_eq_true_iff_forall_mem.1 h1 e he1
        simpa [he3] using h2
      exact ih e.on hlt e.on rfl (by omega) (getD_in (by omega) (by simpa using he4)) hr
theorem wpAny_then {Q' : Exit → Act → World → Prop} {Qq : Act → Prop} (hb : backB l o = true) (hs : Region.sinkB .any (withLast l o) l.length = true) (hc : Region.chainB .any (withLast l o) l.length = true)
    (tail : ∀ a w, C w → Qq a → wpOp P (withLast l o) Q' l.length (fun a' w' => Q' .normal a' w') a w) :
    ∀ (fuel : Nat) (listed : Array Bool) (a : Act) (w : World), C w → HeadInv .any (withLast l o) l.length listed → wpAnyQ P .any (withIdle l o) C Qq fuel listed a → wpAny P .any (withLast l o) Q' fuel listed a w := by
  intro fuel
  induction fuel with
  | zero =>
    intro listed a w _ inv h
    exact absurd (by rw [← idle_ready]; exact h.1) (some_ready hb (by rw [inv.size, last_size]) _ l.length rfl (Nat.le_refl _) (inv.tail l.length (Nat.le_refl _) (by rw [last_size]; omega)))
  | succ fuel ih =>
    intro listed a w hw inv h
    refine ⟨fun h0 => absurd h0 (some_ready hb (by rw [inv.size, last_size]) _ l.length rfl (Nat.le_refl _) (inv.tail l.length (Nat.le_refl _) (by rw [last_size]; omega))), fun i hi => ?_⟩
    have h1 := h.2 i (by rw [idle_ready]; exact hi)
    have hlt : i < l.length + 1 := by
      obtain ⟨_, x, hx, _⟩ := mem_ready.1 hi
      have := (Array.getElem?_eq_some_iff.1 hx).1
      rwa [last_size] at this
    by_cases hil : i < l.length
    · exact idle_op hb hil (wpOp_of_qOp hw (fun a' w' hw' h' => ih _ a' w' hw' (inv.set hi hil) h') h1)
    · obtain rfl : i = l.length := by omega
      have hall : ∀ j, j < l.length → listed.getD j true = true := fun j hj => by
        cases hu : listed.getD j true with
        | true => rfl
        | false => exact absurd hi (tail_waits hs hc (by rw [last_size]; omega) inv _ j rfl hj hu l.length (Nat.le_refl _))
      have hnone : Region.ready .any (withLast l o) (listed.setIfInBounds l.length true) = [] := by
        refine List.eq_nil_iff_forall_not_mem.2 fun j hj => ?_
        obtain ⟨hu, x, hx, _⟩ := mem_ready.1 hj
        have hjl := (Array.getElem?_eq_some_iff.1 hx).1
        rw [last_size] at hjl
        by_cases hjn : j = l.length
        · subst hjn
          have hsz : l.length < listed.size := by rw [inv.size, last_size]; omega
          simp [hsz] at hu
        · rw [getD_set_ne true (fun e => hjn e.symm), hall j (by omega)] at hu
          cases hu
      have hQ : Qq a := by
        unfold qOp at h1
        rw [idle_last] at h1
        have hwt : Region.wanted (idle o) (yielded (withIdle l o) a.tmps) = true := rfl
        simp only [hwt, if_true] at h1
        obtain ⟨v, _, h2⟩ := h1
        have h3 : wpAnyQ P .any (withIdle l o) C Qq fuel (listed.setIfInBounds l.length true) a := h2
        cases fuel with
        | zero => exact h3.2
        | succ f => exact h3.1 (by rw [idle_ready]; exact hnone)
      refine wpOp_mono (fun a' w' hq => ?_) (tail a w hw hQ)
      cases fuel with
      | zero => exact ⟨hnone, hq⟩
      | succ f => exact ⟨fun _ => hq, fun j hj => by rw [hnone] at hj; cases hj⟩
theorem wpQuiet_append {ops : Array Oper} {Q : Act → Prop} (m : List Oper) : ∀ (k : List Oper) (a : Act), wpQuiet P ops C (wpQuiet P ops C Q m) k a → wpQuiet P ops C Q (k ++ m) a
  | [], _, h => h
  | x :: k, a, h => by
    unfold wpQuiet at h
    rw [List.cons_append]
    unfold wpQuiet
    split
    · rename_i hw
      rw [if_pos hw] at h
      exact Oper.quiet_mono (fun a' h' => wpQuiet_append m k a' h') h
    · rename_i hw
      rw [if_neg hw] at h
      exact wpQuiet_append m k _ h
/-- What is asked behind the head is asked behind the idle operation too. -/
theorem wpQuiet_idle {ops : Array Oper} {Q : Act → Prop} : ∀ (k : List Oper) (a : Act), wpQuiet P ops C Q k a → wpQuiet P ops C (wpQuiet P ops C Q [idle o]) k a
  | [], a, h => by
    show wpQuiet P ops C Q [idle o] a
    unfold wpQuiet
    have hwt : Region.wanted (idle o) (yielded ops a.tmps) = true := rfl
    rw [if_pos hwt]
    exact ⟨undef, fun w _ => ⟨rfl, rfl⟩, h⟩
  | x :: k, a, h => by
    unfold wpQuiet at h ⊢
    split
    · rename_i hw
      rw [if_pos hw] at h
      exact Oper.quiet_mono (fun a' h' => wpQuiet_idle k a' h') h
    · rename_i hw
      rw [if_neg hw] at h
      exact wpQuiet_idle k _ h
theorem wp_region_then {id : Nat} {Q : Exit → Act → World → Prop} {a : Act} {w : World} (hm : P.follows .mixedOrders = true) (hB : Region.lexB .any (withIdle l o) = true) (hb : backB l o = true)
    (hs : Region.sinkB .any (withLast l o) l.length = true) (hC : C w.drew)
    (h : wpQuiet P (withIdle l o) C (fun a' => ∀ w', C w' → wpList P (withLast l o) Q [o] a' w') l a) : (Code.region id (withLast l o) true).wp P Q a w := by
  have hc : Region.chainB .any (withLast l o) l.length = true := by
    unfold Region.chainB
    rw [last_size]
    exact List.all_eq_true.2 fun t ht => by
      have := List.mem_range.1 ht
      simp; left; omega
  simp only [Region.lexB, Bool.and_eq_true] at hB
  refine wp_region_any hm ?_
  have H := wpAnyQ_lex (P := P) (C := C) (md := .any) (Q := fun a' => ∀ w', C w' → wpList P (withLast l o) Q [o] a' w') hB.1 (l ++ [idle o]) 0 (Array.replicate (withIdle l o).size false) a (by simp [withIdle]) (by simpa [withIdle] using hB.2)
    (wpQuiet_append _ _ _ (wpQuiet_idle _ _ h))
  refine wpAny_then (Qq := fun a' => ∀ w', C w' → wpList P (withLast l o) Q [o] a' w') hb hs hc (fun a' w' hw' hq => ?_) _ _ _ _ hC ⟨by simp, fun j oj _ hl => (by rw [getD_replicate_false] at hl; cases hl), fun t _ ht => getD_in (by simpa using ht) (getD_replicate_false _ _)⟩ ?_
  · have := hq w' hw'
    unfold wpOp
    rw [last_at]
    exact this
  · simpa [withIdle, withLast] using H
theorem wpQuiet_ops {Q : Act → Prop} (hb : backB l o = true) : ∀ (k : List Oper) (a : Act), (∀ x ∈ k, x ∈ l) → wpQuiet P (withLast l o) C Q k a → wpQuiet P (withIdle l o) C Q k a
  | [], _, _, h => h
  | x :: k, a, hk, h => by
    obtain ⟨i, hi, hx⟩ := List.mem_iff_getElem.1 (hk x (.head _))
    have hx' : (withLast l o)[i]? = some x := by rw [← idle_at hi]; simp only [withIdle, List.getElem?_toArray, List.getElem?_append_left hi]; exact List.getElem?_eq_some_iff.2 ⟨hi, hx⟩
    unfold wpQuiet at h ⊢
    rw [idle_wanted hb hi hx' a.tmps]
    split
    · rename_i hw
      rw [if_pos hw] at h
      exact Oper.quiet_mono (fun a' h' => wpQuiet_ops hb k a' (fun y hy => hk y (.tail _ hy)) h') h
    · rename_i hw
      rw [if_neg hw] at h
      exact wpQuiet_ops hb k _ (fun y hy => hk y (.tail _ hy)) h
end
def thenB (L : List Oper) (n : Nat) : Bool :=
  decide (L.length = n + 1) && Region.lexB .any (withIdle (L.take n) (L.getD n default)) && backB (L.take n) (L.getD n default) && Region.sinkB .any L.toArray n
/-- A region of n operations that make memory at most, and a last one that waits for them. -/
theorem region_then {P : Program} {id : Nat} {Q : Exit → Act → World → Prop} {a : Act} {w : World} {L : List Oper} (n : Nat) (hm : P.follows .mixedOrders = true) (hB : thenB L n = true)
    (h : wpQuiet P L.toArray (fun w' => ∃ p : Regrown, w' = grow (redrawn w p.d) p.os) (fun a' => ∀ w', (∃ p : Regrown, w' = grow (redrawn w p.d) p.os) → wpList P L.toArray Q (L.drop n) a' w') (L.take n) a) :
    (Code.region id L.toArray true).wp P Q a w := by
  simp only [thenB, Bool.and_eq_true, decide_eq_true_eq] at hB
  obtain ⟨⟨⟨h1, h2⟩, h3⟩, h4⟩ := hB
  have hd : L.drop n = [L.getD n default] := by
    rw [List.drop_eq_getElem_cons (by omega), List.drop_eq_nil_of_le (by omega)]
    simp [List.getD, List.getElem?_eq_getElem (show n < L.length by omega)]
  have hL : L.toArray = withLast (L.take n) (L.getD n default) := by
    rw [withLast, ← hd, List.take_append_drop]
  have hn : (L.take n).length = n := by simp; omega
  rw [hL]
  rw [hL, hd] at h
  rw [hL] at h4
  refine wp_region_then (C := fun w' => ∃ p : Regrown, w' = grow (redrawn w p.d) p.os) hm h2 h3 (by rw [hn]; exact h4) ⟨⟨w.drawn + 1, #[]⟩, by rw [grow_empty]; rfl⟩ (wpQuiet_ops h3 _ _ (fun x hx => hx) h)

end Go.Proofs.Ytdlenbkkcpcbmaa
