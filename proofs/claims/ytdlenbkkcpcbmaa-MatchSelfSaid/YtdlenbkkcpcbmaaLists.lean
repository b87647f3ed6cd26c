/- Which nodes of two lists are meant to be the same (match.Lists): its contract. -/
import Derived.Test.YtdlenbkkcpcbmaaKids
import Derived.Laws.AppendOwnNone
import Derived.RegionTactic
import Derived.ChangeAlike
namespace Go.Proofs.Ytdlenbkkcpcbmaa
open Go.RowKit Go.Lib Go.Sort Go.BigFrame

/-- append of a row of the call's own to another one. -/
theorem append_row {P : Program} (w : World) {ops : Array Oper} {rest : List Oper} {o : Oper} {a : Act} {Q : Exit → Act → World → Prop} (hgd : o.guard = none) (s x : Operand) (t : TypeId)
    (ho : o.op = .call { callee := .builtin .append, args := #[s, x], argTypes := #[t, t] })
    (base : Nat) (e : TypeId) (i : TypeInfo) (z : Value) (size bytes : Nat) (ht : P.underlying t = some (.slice e)) (hi : P.info? e = some i) (hz : i.zero = some z)
    (hsize : i.size = size) (hby : i.bytes = bytes) (hzs : z.cells.size = size) (hsz : 0 < size)
    (v : Value) (n : Nat) (xs : List Value) (hs : a.eval s = v) (hown : w.ownsRow base e size v n xs)
    (B' : Nat) (u : Value) (m : Nat) (news : List Value) (hx : a.eval x = u) (hsrc : w.ownsRow B' e size u m news) (h1 : ∀ u ∈ news, u.oneCell' = true)
    (h63 : n + m ≤ maxLen) (hbytes : (n + m) * bytes ≤ 140737488355328) (hbase : base ≤ w.heap.size)
    (h : ∀ v' w', w'.ownsRow base e size v' (n + m) (xs ++ news) → w.grownBy w' v.ownBlock → (v'.ownBlock = v.ownBlock ∨ v'.ownBlock = some w.heap.size) → wpList P ops Q rest (a.put o.dst v') w') : wpList P ops Q (o :: rest) a w := by
  have hsl := hsrc.1
  rcases hsrc.2 with ⟨h0, h2⟩ | ⟨g, cap, cur, h0, hb, hg, hle, hc, hcs, htk⟩
  · subst h0 h2
    have hnil : news = [] := List.length_eq_zero_iff.1 (by omega)
    subst hnil
    exact wpList_append_own_none hgd s x t ho base e i size ht hi v n xs hs hown hx (h v w (by simpa using hown) ⟨rfl, rfl, rfl, Nat.le_refl _, fun _ _ _ => rfl⟩ (.inl rfl))
  · subst h0
    exact wpList_append_own_at w hgd s x t ho base e i z size bytes ht hi hz hsize hby hzs hsz v n xs hs hown ⟨g, 0, none⟩ m cap news hx hsl (fun j y hy => by rw [add0]; exact (own_cell hsrc j y hy).1) h1 h63 hbytes hbase (fun v' w' p q _ r => h v' w' p q r)
theorem pair_one (l : List PairT) : ∀ u ∈ pairCells l, u.oneCell' = true := by
  intro u hu
  simp only [pairCells, List.mem_flatMap] at hu
  obtain ⟨p, _, hp⟩ := hu
  simp only [PairT.vals, List.mem_cons, List.not_mem_nil, or_false] at hp
  rcases hp with rfl | rfl | rfl <;> rfl
theorem Ch.cell {O : Nat → Prop} {w w' : World} {b j : Nat} {v : Value} (h : Ch O w w') (hc : w.cell? ⟨b, j, none⟩ = some v) (hO : ¬ O b) : w'.cell? ⟨b, j, none⟩ = some v := by
  have hlt := World.block_lt_of_cell? w _ hc
  exact (World.cell?_of_block (h.block b hlt hO)).trans hc
theorem StrsAt.ch {O : Nat → Prop} {w w' : World} {A : Option Addr} {l : List (List UInt8)} {B : Nat} (h : StrsAt w A l) (hB : w.heap.size = B) {w1 : World} (hb : Below B w w1) (hc : Ch O w1 w') (hO : ∀ k, k < B → ¬ O k) : StrsAt w' A l := fun hl => by
  obtain ⟨g, e, hcs⟩ := h hl
  refine ⟨g, e, fun j s hs => ?_⟩
  have h1 := hcs j s hs
  have h2 := World.block_lt_of_cell? w _ h1
  exact hc.cell ((hb.cell (p := ⟨g, j, none⟩) (by rw [← hB]; exact h2)).trans h1) (hO g (by rw [← hB]; exact h2))
/-- A slice of pairs that is read. -/
def PairsAt (w : World) (A : Option Addr) (l : List PairT) : Prop := 0 < l.length → ∃ g, A = some ⟨g, 0, none⟩ ∧ ∀ j u, (pairCells l)[j]? = some u → w.cell? ⟨g, j, none⟩ = some u
theorem PairsAt.below {w w' : World} {A : Option Addr} {l : List PairT} (h : PairsAt w A l) (hb : Below w.heap.size w w') : PairsAt w' A l := fun hl => by
  obtain ⟨ad, e, hc⟩ := h hl
  exact ⟨ad, e, fun j u hu => (hb.cell (World.block_lt_of_cell? w _ (hc j u hu))).trans (hc j u hu)⟩
theorem pairs_at {w : World} {g : Nat} {l : List PairT} (hc : ∀ j u, (pairCells l)[j]? = some u → w.cell? ⟨g, j, none⟩ = some u) {i : Nat} {x : PairT} (hi : l[i]? = some x) :
    w.cell? ⟨g, i * 3, none⟩ = some (.int .i64 (x.a : Nat)) ∧ w.cell? ⟨g, i * 3 + 1, none⟩ = some (.int .i64 (x.b : Nat)) ∧ w.cell? ⟨g, i * 3 + 2, none⟩ = some (.bool x.whole) :=
  ⟨hc _ _ (pairCells_at l i x hi 0 (by decide)), hc _ _ (pairCells_at l i x hi 1 (by decide)), hc _ _ (pairCells_at l i x hi 2 (by decide))⟩
/-- The program's loop: what is in each gap, and the pair behind it. -/
def loopL (s : Nat → Nat → Bool) : List PairT → Nat → Nat → List PairT
  | [], _, _ => []
  | p :: ws, i, j => gapI s i p.a j p.b ++ p :: loopL s ws (p.a + 1) (p.b + 1)
theorem loop_lists (s : Nat → Nat → Bool) (la lb : Nat) : ∀ (ws : List PairT) (i j : Nat), loopL s (ws ++ [⟨la, lb, true⟩]) i j = listsGo s la lb ws i j ++ [⟨la, lb, true⟩]
  | [], i, j => by simp [loopL, listsGo]
  | p :: ws, i, j => by rw [List.cons_append, loopL, listsGo, loop_lists s la lb ws]; simp
instance : DecidableEq NodeT := fun a b => decidable_of_iff (eqN a b = true) (eqN_iff a b)
def likeN (x y : NodeT) : Bool := decide (x.kind = y.kind) && decide (x.space = y.space) && decide (x.name = y.name)
def likeAt (a b : List NodeT) (i j : Nat) : Bool := match a[i]?, b[j]? with | some x, some y => likeN x y | _, _ => false
/-- The pairs of two lists of nodes. -/
def listsL (a b : List NodeT) : List PairT := listsGo (likeAt a b) a.length b.length (lineI a b 0 0) 0 0
theorem gap_congr {s t : Nat → Nat → Bool} {toA toB : Nat} (h : ∀ i j, i < toA → j < toB → s i j = t i j) : ∀ (N i j : Nat), toA - i ≤ N → gapI s i toA j toB = gapI t i toA j toB := by
  have hf : ∀ i, i < toA → ∀ (N j : Nat), toB - j ≤ N → firstJ (s i) j toB = firstJ (t i) j toB := by
    intro i hi N
    induction N with
    | zero => intro j hj; rw [first_out (by omega), first_out (by omega)]
    | succ N ih =>
      intro j hj
      by_cases h1 : j < toB
      · rw [first_in h1, first_in h1, h i j hi h1, ih (j + 1) (by omega)]
      · rw [first_out (by omega), first_out (by omega)]
  intro N
  induction N with
  | zero => intro i j hi; rw [gap_out (by omega), gap_out (by omega)]
  | succ N ih =>
    intro i j hi
    by_cases h1 : i < toA
    · rw [gap_in h1, gap_in h1, hf i h1 _ j (Nat.le_refl _)]
      cases firstJ (t i) j toB with
      | none => exact ih (i + 1) j (by omega)
      | some k => simp only; rw [ih (i + 1) (k + 1) (by omega)]
    · rw [gap_out (by omega), gap_out (by omega)]
theorem lists_congr {s t : Nat → Nat → Bool} {la lb : Nat} (h : ∀ i j, i < la → j < lb → s i j = t i j) : ∀ (ws : List PairT) (i j : Nat), (∀ p ∈ ws, p.a < la ∧ p.b < lb) → listsGo s la lb ws i j = listsGo t la lb ws i j
  | [], i, j, _ => gap_congr h _ i j (Nat.le_refl _)
  | p :: ws, i, j, hp => by
    have h0 := hp p (.head _)
    rw [listsGo, listsGo, gap_congr (fun x y hx hy => h x y (by omega) (by omega)) _ i j (Nat.le_refl _), lists_congr h ws _ _ (fun q hq => hp q (.tail _ hq))]
theorem lists_len (s : Nat → Nat → Bool) (la lb : Nat) : ∀ (ws : List PairT) (i j : Nat), Rises i j la lb ws → i ≤ la → (listsGo s la lb ws i j).length ≤ la - i
  | [], i, j, _, _ => gap_len s la lb _ i j (Nat.le_refl _)
  | p :: ws, i, j, h, hi => by
    have h0 := h.1
    have h1 := gap_len s p.a p.b _ i j (Nat.le_refl _)
    have h2 := lists_len s la lb ws (p.a + 1) (p.b + 1) h.2 (by omega)
    rw [listsGo, List.length_append, List.length_cons]
    omega
theorem in64_of_mem : ∀ {l : List NodeT}, in64L l → ∀ n ∈ l, n.in64
  | _ :: _, h, n, hn => by
    rcases List.mem_cons.1 hn with rfl | hn
    · exact h.1
    · exact in64_of_mem h.2 n hn
theorem ok_of_mem : ∀ {l : List NodeT}, okL l → ∀ n ∈ l, n.ok
  | _ :: _, h, n, hn => by
    rcases List.mem_cons.1 hn with rfl | hn
    · exact h.1
    · exact ok_of_mem h.2 n hn
/-- The program's texts stand for the nodes. -/
theorem keys_line (a b : List NodeT) (ha : in64L a) (hb : in64L b) (oa : okL a) (ob : okL b) : lineI (a.map keyN) (b.map keyN) 0 0 = lineI a b 0 0 :=
  line_map (fun x hx y hy h => (key_inj x y (in64_of_mem ha x hx) (in64_of_mem hb y hy) (ok_of_mem oa x hx) (ok_of_mem ob y hy)).1 h) _ 0 0 (Nat.le_refl _)
theorem NodeT.in64.parts {n : NodeT} (h : n.in64) : I64 n.kind ∧ I64 n.space := by cases n; exact ⟨h.1, h.2.1⟩
theorem label_same (a b : List NodeT) (ha : in64L a) (hb : in64L b) (i j : Nat) (hi : i < a.length) (hj : j < b.length) : sameS (a.map labelL) (b.map labelL) i j = likeAt a b i j := by
  unfold sameS likeAt
  rw [List.getElem?_map, List.getElem?_map, List.getElem?_eq_getElem hi, List.getElem?_eq_getElem hj]
  simp only [Option.map_some, Option.some.injEq, likeN]
  have h1 := (in64_of_mem ha _ (List.getElem_mem hi)).parts
  have h2 := (in64_of_mem hb _ (List.getElem_mem hj)).parts
  rw [Bool.eq_iff_iff]
  simp only [decide_eq_true_eq, Bool.and_eq_true]
  rw [label_inj _ _ h1.1 h1.2 h2.1 h2.2]
  constructor
  · rintro ⟨x, y, z⟩; exact ⟨⟨x, y⟩, z⟩
  · rintro ⟨⟨x, y⟩, z⟩; exact ⟨x, y, z⟩
/-- What the program's loop makes. -/
theorem loop_is (a b : List NodeT) (ha : in64L a) (hb : in64L b) (oa : okL a) (ob : okL b) :
    loopL (sameS (a.map labelL) (b.map labelL)) (lineI (a.map keyN) (b.map keyN) 0 0 ++ [⟨a.length, b.length, true⟩]) 0 0 = listsL a b ++ [⟨a.length, b.length, true⟩] := by
  rw [loop_lists, keys_line a b ha hb oa ob, listsL]
  congr 1
  exact lists_congr (fun i j hi hj => label_same a b ha hb i j hi hj) _ 0 0 (fun p hp => (rises_ge (line_rises a b _ 0 0 (Nat.le_refl _)) p hp).2.2)

end Go.Proofs.Ytdlenbkkcpcbmaa
