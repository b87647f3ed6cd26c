/- Plain: how lists are lined up, which nodes of two lists, and of two pages, are meant to be the same. -/
import Derived.Test.YtdlenbkkcpcbmaaItems
import Derived.Test.YtdlenbkkcpcbmaaKeyL
namespace Go.Proofs.Ytdlenbkkcpcbmaa

structure PairT where
  a : Nat
  b : Nat
  whole : Bool
instance : Inhabited PairT := ⟨⟨0, 0, false⟩⟩
instance : DecidableEq PairT := fun x y => if h : x.a = y.a ∧ x.b = y.b ∧ x.whole = y.whole then isTrue (by cases x; cases y; simp only at h; obtain ⟨rfl, rfl, rfl⟩ := h; rfl) else isFalse (fun e => h (by rw [e]; exact ⟨rfl, rfl, rfl⟩))
theorem map_at {α β : Type} {f : α → β} {a b : List α} (hf : ∀ x ∈ a, ∀ y ∈ b, f x = f y → x = y) {i j : Nat} (hi : i < a.length) (hj : j < b.length) : ((a.map f)[i]? = (b.map f)[j]?) ↔ a[i]? = b[j]? := by
  rw [List.getElem?_map, List.getElem?_map, List.getElem?_eq_getElem hi, List.getElem?_eq_getElem hj]
  simp only [Option.map_some, Option.some.injEq]
  exact ⟨fun h => hf _ (List.getElem_mem hi) _ (List.getElem_mem hj) h, fun h => by rw [h]⟩
/-- Pairs that rise in both, from two places on, ahead of two ends. -/
def Rises : Nat → Nat → Nat → Nat → List PairT → Prop
  | _, _, _, _, [] => True
  | i, j, la, lb, p :: ps => (i ≤ p.a ∧ j ≤ p.b ∧ p.a < la ∧ p.b < lb) ∧ Rises (p.a + 1) (p.b + 1) la lb ps
theorem Rises.lower : ∀ {ps : List PairT} {i j i' j' la lb : Nat}, Rises i j la lb ps → i' ≤ i → j' ≤ j → Rises i' j' la lb ps
  | [], _, _, _, _, _, _, _, _, _ => trivial
  | p :: ps, i, j, i', j', la, lb, h, h1, h2 => ⟨by have := h.1; omega, h.2⟩
section
variable {α : Type} [DecidableEq α]
/-- How many pairs can be had from two places on. -/
def cnt (a b : List α) (i j : Nat) : Nat :=
  if i < a.length ∧ j < b.length then (if a[i]? = b[j]? then 1 + cnt a b (i + 1) (j + 1) else max (cnt a b (i + 1) j) (cnt a b i (j + 1))) else 0
termination_by (a.length - i) + (b.length - j)
def lineI (a b : List α) (i j : Nat) : List PairT :=
  if i < a.length ∧ j < b.length then
    (if a[i]? = b[j]? then ⟨i, j, true⟩ :: lineI a b (i + 1) (j + 1) else if cnt a b i (j + 1) ≤ cnt a b (i + 1) j then lineI a b (i + 1) j else lineI a b i (j + 1)) else []
termination_by (a.length - i) + (b.length - j)
theorem cnt_in {a b : List α} {i j : Nat} (hi : i < a.length) (hj : j < b.length) : cnt a b i j = if a[i]? = b[j]? then 1 + cnt a b (i + 1) (j + 1) else max (cnt a b (i + 1) j) (cnt a b i (j + 1)) := by
  conv => lhs; rw [cnt]
  rw [if_pos ⟨hi, hj⟩]
theorem cnt_out {a b : List α} {i j : Nat} (h : a.length ≤ i ∨ b.length ≤ j) : cnt a b i j = 0 := by
  rw [cnt, if_neg (by omega)]
theorem line_in {a b : List α} {i j : Nat} (hi : i < a.length) (hj : j < b.length) : lineI a b i j = if a[i]? = b[j]? then ⟨i, j, true⟩ :: lineI a b (i + 1) (j + 1) else if cnt a b i (j + 1) ≤ cnt a b (i + 1) j then lineI a b (i + 1) j else lineI a b i (j + 1) := by
  conv => lhs; rw [lineI]
  rw [if_pos ⟨hi, hj⟩]
theorem line_out {a b : List α} {i j : Nat} (h : a.length ≤ i ∨ b.length ≤ j) : lineI a b i j = [] := by
  rw [lineI, if_neg (by omega)]
theorem cnt_laws (a b : List α) : ∀ (N i j : Nat), (a.length - i) + (b.length - j) ≤ N →
    cnt a b (i + 1) j ≤ cnt a b i j ∧ cnt a b i (j + 1) ≤ cnt a b i j ∧ cnt a b i j ≤ 1 + cnt a b (i + 1) j ∧ cnt a b i j ≤ 1 + cnt a b i (j + 1) := by
  intro N
  induction N with
  | zero =>
    intro i j h
    have h1 : a.length ≤ i ∨ b.length ≤ j := by omega
    rw [cnt_out h1, cnt_out (show a.length ≤ i + 1 ∨ b.length ≤ j by omega), cnt_out (show a.length ≤ i ∨ b.length ≤ j + 1 by omega)]
    omega
  | succ N ih =>
    intro i j h
    by_cases h1 : i < a.length ∧ j < b.length
    · obtain ⟨hi, hj⟩ := h1
      obtain ⟨p1, p2, p3, p4⟩ := ih (i + 1) j (by omega)
      obtain ⟨q1, q2, q3, q4⟩ := ih i (j + 1) (by omega)
      rw [cnt_in hi hj]
      split <;> omega
    · have h1 : a.length ≤ i ∨ b.length ≤ j := by omega
      rw [cnt_out h1, cnt_out (show a.length ≤ i + 1 ∨ b.length ≤ j by omega), cnt_out (show a.length ≤ i ∨ b.length ≤ j + 1 by omega)]
      omega
/-- The count as the reference has it. -/
theorem cnt_ref {a b : List α} {i j : Nat} (hi : i < a.length) (hj : j < b.length) :
    cnt a b i j = if a[i]? = b[j]? ∧ max (cnt a b i (j + 1)) (cnt a b (i + 1) j) < cnt a b (i + 1) (j + 1) + 1 then cnt a b (i + 1) (j + 1) + 1 else max (cnt a b i (j + 1)) (cnt a b (i + 1) j) := by
  have h1 := (cnt_laws a b _ i (j + 1) (Nat.le_refl _)).2.2.1
  have h2 := (cnt_laws a b _ (i + 1) j (Nat.le_refl _)).2.2.2
  rw [cnt_in hi hj]
  by_cases h : a[i]? = b[j]?
  · rw [if_pos h]
    split
    · omega
    · rename_i hn
      have : ¬ max (cnt a b i (j + 1)) (cnt a b (i + 1) j) < cnt a b (i + 1) (j + 1) + 1 := fun hh => hn ⟨h, hh⟩
      omega
  · rw [if_neg h, if_neg (fun hh => h hh.1)]
    omega
theorem cnt_le (a b : List α) : ∀ (N i j : Nat), a.length - i ≤ N → cnt a b i j ≤ N := by
  intro N
  induction N with
  | zero => intro i j h; rw [cnt_out (by omega)]; omega
  | succ N ih =>
    intro i j h
    have h1 := (cnt_laws a b _ i j (Nat.le_refl _)).2.2.1
    have h2 := ih (i + 1) j (by omega)
    omega
theorem cnt_map {β : Type} [DecidableEq β] {f : α → β} {a b : List α} (hf : ∀ x ∈ a, ∀ y ∈ b, f x = f y → x = y) : ∀ (N i j : Nat), (a.length - i) + (b.length - j) ≤ N → cnt (a.map f) (b.map f) i j = cnt a b i j := by
  intro N
  induction N with
  | zero =>
    intro i j h
    rw [cnt_out (a := a) (by omega), cnt_out (by simp only [List.length_map]; omega)]
  | succ N ih =>
    intro i j h
    by_cases h1 : i < a.length ∧ j < b.length
    · obtain ⟨hi, hj⟩ := h1
      rw [cnt_in (a := a) hi hj, cnt_in (by simpa using hi) (by simpa using hj), ih (i + 1) j (by omega), ih i (j + 1) (by omega), ih (i + 1) (j + 1) (by omega)]
      by_cases he : a[i]? = b[j]?
      · rw [if_pos he, if_pos ((map_at hf hi hj).2 he)]
      · rw [if_neg he, if_neg (fun h => he ((map_at hf hi hj).1 h))]
    · rw [cnt_out (a := a) (by omega), cnt_out (by simp only [List.length_map]; omega)]
theorem line_map {β : Type} [DecidableEq β] {f : α → β} {a b : List α} (hf : ∀ x ∈ a, ∀ y ∈ b, f x = f y → x = y) : ∀ (N i j : Nat), (a.length - i) + (b.length - j) ≤ N → lineI (a.map f) (b.map f) i j = lineI a b i j := by
  intro N
  induction N with
  | zero =>
    intro i j h
    rw [line_out (a := a) (by omega), line_out (by simp only [List.length_map]; omega)]
  | succ N ih =>
    intro i j h
    by_cases h1 : i < a.length ∧ j < b.length
    · obtain ⟨hi, hj⟩ := h1
      rw [line_in (a := a) hi hj, line_in (by simpa using hi) (by simpa using hj), ih (i + 1) j (by omega), ih i (j + 1) (by omega), ih (i + 1) (j + 1) (by omega), cnt_map hf _ _ _ (Nat.le_refl _), cnt_map hf _ _ _ (Nat.le_refl _)]
      by_cases he : a[i]? = b[j]?
      · rw [if_pos he, if_pos ((map_at hf hi hj).2 he)]
      · rw [if_neg he, if_neg (fun h => he ((map_at hf hi hj).1 h))]
    · rw [line_out (a := a) (by omega), line_out (by simp only [List.length_map]; omega)]
theorem line_rises (a b : List α) : ∀ (N i j : Nat), (a.length - i) + (b.length - j) ≤ N → Rises i j a.length b.length (lineI a b i j) := by
  intro N
  induction N with
  | zero => intro i j h; rw [line_out (by omega)]; trivial
  | succ N ih =>
    intro i j h
    by_cases h1 : i < a.length ∧ j < b.length
    · obtain ⟨hi, hj⟩ := h1
      rw [line_in hi hj]
      split
      · exact ⟨⟨Nat.le_refl _, Nat.le_refl _, hi, hj⟩, ih (i + 1) (j + 1) (by omega)⟩
      · split
        · exact (ih (i + 1) j (by omega)).lower (by omega) (by omega)
        · exact (ih i (j + 1) (by omega)).lower (by omega) (by omega)
    · rw [line_out (by omega)]; trivial
theorem line_same (a b : List α) : ∀ (N i j : Nat), (a.length - i) + (b.length - j) ≤ N → ∀ p ∈ lineI a b i j, p.whole = true ∧ a[p.a]? = b[p.b]? := by
  intro N
  induction N with
  | zero => intro i j h; rw [line_out (by omega)]; simp
  | succ N ih =>
    intro i j h
    by_cases h1 : i < a.length ∧ j < b.length
    · obtain ⟨hi, hj⟩ := h1
      rw [line_in hi hj]
      split
      · rename_i he
        intro p hp
        rcases List.mem_cons.1 hp with rfl | hp
        · exact ⟨rfl, he⟩
        · exact ih (i + 1) (j + 1) (by omega) p hp
      · split
        · exact ih (i + 1) j (by omega)
        · exact ih i (j + 1) (by omega)
    · rw [line_out (by omega)]; simp
/-- A list is lined up with itself place by place. -/
theorem line_self (a : List α) : ∀ (N i : Nat), a.length - i ≤ N → lineI a a i i = (List.range' i (a.length - i)).map fun k => ⟨k, k, true⟩ := by
  intro N
  induction N with
  | zero => intro i h; rw [line_out (by omega), show a.length - i = 0 by omega]; rfl
  | succ N ih =>
    intro i h
    by_cases hi : i < a.length
    · rw [line_in hi hi, if_pos rfl, ih (i + 1) (by omega), show a.length - i = (a.length - (i + 1)) + 1 by omega, List.range'_succ]
      rfl
    · rw [line_out (by omega), show a.length - i = 0 by omega]; rfl
end
/-- The first place of a stretch where something holds. -/
def firstJ (s : Nat → Bool) (j e : Nat) : Option Nat := if j < e then (if s j = true then some j else firstJ s (j + 1) e) else none
termination_by e - j
theorem first_in {s : Nat → Bool} {j e : Nat} (h : j < e) : firstJ s j e = if s j = true then some j else firstJ s (j + 1) e := by
  conv => lhs; rw [firstJ]
  rw [if_pos h]
theorem first_out {s : Nat → Bool} {j e : Nat} (h : e ≤ j) : firstJ s j e = none := by
  rw [firstJ, if_neg (by omega)]
theorem first_spec (s : Nat → Bool) (e : Nat) : ∀ (N j k : Nat), e - j ≤ N → firstJ s j e = some k → j ≤ k ∧ k < e ∧ s k = true := by
  intro N
  induction N with
  | zero => intro j k h he; rw [first_out (by omega)] at he; cases he
  | succ N ih =>
    intro j k h he
    by_cases h1 : j < e
    · rw [first_in h1] at he
      split at he
      · rename_i hs
        obtain rfl : j = k := by simpa using he
        exact ⟨Nat.le_refl _, h1, hs⟩
      · obtain ⟨a, b, c⟩ := ih (j + 1) k (by omega) he
        exact ⟨by omega, b, c⟩
    · rw [first_out (by omega)] at he; cases he
/-- The pairs in a gap. -/
def gapI (s : Nat → Nat → Bool) (i toA j toB : Nat) : List PairT :=
  if i < toA then (match firstJ (s i) j toB with
    | some k => ⟨i, k, false⟩ :: gapI s (i + 1) toA (k + 1) toB
    | none => gapI s (i + 1) toA j toB) else []
termination_by toA - i
theorem gap_in {s : Nat → Nat → Bool} {i toA j toB : Nat} (h : i < toA) : gapI s i toA j toB = match firstJ (s i) j toB with
    | some k => ⟨i, k, false⟩ :: gapI s (i + 1) toA (k + 1) toB
    | none => gapI s (i + 1) toA j toB := by
  conv => lhs; rw [gapI]
  rw [if_pos h]
theorem gap_out {s : Nat → Nat → Bool} {i toA j toB : Nat} (h : toA ≤ i) : gapI s i toA j toB = [] := by
  rw [gapI, if_neg (by omega)]
/-- The pairs of two lists, by the whole pairs from here on. -/
def listsGo (s : Nat → Nat → Bool) (la lb : Nat) : List PairT → Nat → Nat → List PairT
  | [], i, j => gapI s i la j lb
  | p :: ws, i, j => gapI s i p.a j p.b ++ p :: listsGo s la lb ws (p.a + 1) (p.b + 1)
/-- The reference's way. -/
def atL (ws : List PairT) (i : Nat) : Option PairT := ws.find? fun p => p.a == i
def toL' (ws : List PairT) (i lb : Nat) : Nat := ws.foldl (fun t q => if i < q.a ∧ q.b < t then q.b else t) lb
def refGo (s : Nat → Nat → Bool) (ws : List PairT) (la lb i j : Nat) : List PairT :=
  if i < la then (match atL ws i with
    | some p => p :: refGo s ws la lb (i + 1) (p.b + 1)
    | none => match firstJ (s i) j (toL' ws i lb) with
      | some k => ⟨i, k, false⟩ :: refGo s ws la lb (i + 1) (k + 1)
      | none => refGo s ws la lb (i + 1) j) else []
termination_by la - i
theorem ref_in {s : Nat → Nat → Bool} {ws : List PairT} {la lb i j : Nat} (h : i < la) : refGo s ws la lb i j = match atL ws i with
    | some p => p :: refGo s ws la lb (i + 1) (p.b + 1)
    | none => match firstJ (s i) j (toL' ws i lb) with
      | some k => ⟨i, k, false⟩ :: refGo s ws la lb (i + 1) (k + 1)
      | none => refGo s ws la lb (i + 1) j := by
  conv => lhs; rw [refGo]
  rw [if_pos h]
theorem ref_out {s : Nat → Nat → Bool} {ws : List PairT} {la lb i j : Nat} (h : la ≤ i) : refGo s ws la lb i j = [] := by
  rw [refGo, if_neg (by omega)]
theorem rises_ge : ∀ {ws : List PairT} {i j la lb : Nat}, Rises i j la lb ws → ∀ p ∈ ws, i ≤ p.a ∧ j ≤ p.b ∧ p.a < la ∧ p.b < lb
  | [], _, _, _, _, _, p, hp => by cases hp
  | q :: ws, i, j, la, lb, h, p, hp => by
    rcases List.mem_cons.1 hp with rfl | hp
    · exact h.1
    · have h1 := rises_ge h.2 p hp
      have h2 := h.1
      omega
theorem to_low {lb i : Nat} : ∀ (ws : List PairT) (t : Nat), (∀ q ∈ ws, ¬ (i < q.a ∧ q.b < t)) → ws.foldl (fun t q => if i < q.a ∧ q.b < t then q.b else t) t = t
  | [], t, _ => rfl
  | q :: ws, t, h => by
    rw [List.foldl_cons, if_neg (h q (.head _))]
    exact to_low (lb := lb) ws t (fun x hx => h x (.tail _ hx))
theorem at_done {ws done : List PairT} {i : Nat} (h : ∀ p ∈ done, p.a < i) : atL (done ++ ws) i = atL ws i := by
  unfold atL
  rw [List.find?_append, List.find?_eq_none.2 (fun p hp => by have := h p hp; simp; omega)]
  rfl
theorem ref_eq (s : Nat → Nat → Bool) (la lb : Nat) : ∀ (N i : Nat), la - i ≤ N → ∀ (ws done : List PairT) (j j' : Nat), Rises i j' la lb ws → (∀ p ∈ done, p.a < i) → refGo s (done ++ ws) la lb i j = listsGo s la lb ws i j := by
  intro N
  induction N with
  | zero =>
    intro i h ws done j j' hr hd
    rw [ref_out (by omega)]
    cases ws with
    | nil => rw [listsGo, gap_out (by omega)]
    | cons p ws => have := hr.1; omega
  | succ N ih =>
    intro i h ws done j j' hr hd
    have hd1 : ∀ p ∈ done, p.a < i + 1 := fun p hp => by have := hd p hp; omega
    by_cases hi : i < la
    · rw [ref_in hi, at_done hd]
      cases ws with
      | nil =>
        have ht : toL' (done ++ []) i lb = lb := by
          rw [List.append_nil]
          exact to_low (lb := lb) done lb (fun q hq => by have := hd q hq; omega)
        rw [ht]
        simp only [atL, List.find?_nil, listsGo]
        rw [gap_in hi]
        cases firstJ (s i) j lb with
        | none => simp only; rw [ih (i + 1) (by omega) [] done j 0 trivial hd1, listsGo]
        | some k => simp only; rw [ih (i + 1) (by omega) [] done (k + 1) 0 trivial hd1, listsGo]
      | cons p ws =>
        obtain ⟨⟨h1, h2, h3, h4⟩, h5⟩ := hr
        by_cases hp : i = p.a
        · have hat : atL (p :: ws) i = some p := by
            unfold atL
            rw [List.find?_cons_of_pos (by simp [hp])]
          rw [hat]
          simp only
          rw [listsGo, gap_out (by omega), List.nil_append, show done ++ p :: ws = (done ++ [p]) ++ ws by simp, hp]
          rw [ih (p.a + 1) (by omega) ws (done ++ [p]) (p.b + 1) (p.b + 1) h5 (fun q hq => by
            rcases List.mem_append.1 hq with hq | hq
            · have := hd q hq; omega
            · rw [List.mem_singleton.1 hq]; omega)]
        · have hat : atL (p :: ws) i = none := by
            unfold atL
            refine List.find?_eq_none.2 (fun q hq => ?_)
            rcases List.mem_cons.1 hq with rfl | hq
            · simp; omega
            · have := rises_ge h5 q hq; simp; omega
          have ht : toL' (done ++ p :: ws) i lb = p.b := by
            unfold toL'
            rw [List.foldl_append, to_low (lb := lb) done lb (fun q hq => by have := hd q hq; omega), List.foldl_cons, if_pos (by omega)]
            exact to_low (lb := lb) ws p.b (fun q hq => by have := rises_ge h5 q hq; omega)
          rw [hat, ht]
          simp only
          rw [listsGo, gap_in (by omega)]
          have hr' : Rises (i + 1) j' la lb (p :: ws) := ⟨⟨by omega, h2, h3, h4⟩, h5⟩
          cases firstJ (s i) j p.b with
          | none => simp only; rw [ih (i + 1) (by omega) (p :: ws) done j j' hr' hd1, listsGo]
          | some k => simp only; rw [ih (i + 1) (by omega) (p :: ws) done (k + 1) j' hr' hd1, listsGo, List.cons_append]
    · rw [ref_out (by omega)]
      cases ws with
      | nil => rw [listsGo, gap_out (by omega)]
      | cons p ws => have := hr.1; omega
theorem rises_append : ∀ {xs ys : List PairT} {i j m n la lb : Nat}, Rises i j m n xs → Rises m n la lb ys → m ≤ la → n ≤ lb → i ≤ m → j ≤ n → Rises i j la lb (xs ++ ys)
  | [], ys, i, j, m, n, la, lb, _, hy, _, _, h1, h2 => hy.lower h1 h2
  | p :: xs, ys, i, j, m, n, la, lb, hx, hy, h1, h2, _, _ => ⟨by have := hx.1; omega, rises_append hx.2 hy h1 h2 (by have := hx.1; omega) (by have := hx.1; omega)⟩
theorem gap_rises (s : Nat → Nat → Bool) (toA toB : Nat) : ∀ (N i j : Nat), toA - i ≤ N → Rises i j toA toB (gapI s i toA j toB) := by
  intro N
  induction N with
  | zero => intro i j h; rw [gap_out (by omega)]; trivial
  | succ N ih =>
    intro i j h
    by_cases hi : i < toA
    · rw [gap_in hi]
      cases hf : firstJ (s i) j toB with
      | none => exact (ih (i + 1) j (by omega)).lower (by omega) (Nat.le_refl _)
      | some k =>
        have := first_spec (s i) toB _ j k (Nat.le_refl _) hf
        exact ⟨⟨Nat.le_refl _, this.1, hi, this.2.1⟩, ih (i + 1) (k + 1) (by omega)⟩
    · rw [gap_out (by omega)]; trivial
theorem gap_same (s : Nat → Nat → Bool) (toA toB : Nat) : ∀ (N i j : Nat), toA - i ≤ N → ∀ p ∈ gapI s i toA j toB, p.whole = false ∧ s p.a p.b = true := by
  intro N
  induction N with
  | zero => intro i j h; rw [gap_out (by omega)]; simp
  | succ N ih =>
    intro i j h
    by_cases hi : i < toA
    · rw [gap_in hi]
      cases hf : firstJ (s i) j toB with
      | none => exact ih (i + 1) j (by omega)
      | some k =>
        have := first_spec (s i) toB _ j k (Nat.le_refl _) hf
        intro p hp
        rcases List.mem_cons.1 hp with rfl | hp
        · exact ⟨rfl, this.2.2⟩
        · exact ih (i + 1) (k + 1) (by omega) p hp
    · rw [gap_out (by omega)]; simp
theorem lists_rises (s : Nat → Nat → Bool) (la lb : Nat) : ∀ (ws : List PairT) (i j : Nat), Rises i j la lb ws → i ≤ la → j ≤ lb → Rises i j la lb (listsGo s la lb ws i j)
  | [], i, j, _, _, _ => gap_rises s la lb _ i j (Nat.le_refl _)
  | p :: ws, i, j, h, h1, h2 => by
    rw [listsGo]
    have h3 := h.1
    exact rises_append (gap_rises s p.a p.b _ i j (Nat.le_refl _)) ⟨⟨Nat.le_refl _, Nat.le_refl _, h3.2.2.1, h3.2.2.2⟩, lists_rises s la lb ws _ _ h.2 (by omega) (by omega)⟩ (by omega) (by omega) (by omega) (by omega)
theorem lists_same (s : Nat → Nat → Bool) (la lb : Nat) (Q : PairT → Prop) (hs : ∀ i j, s i j = true → Q ⟨i, j, false⟩) : ∀ (ws : List PairT) (i j : Nat), (∀ p ∈ ws, Q p) → ∀ p ∈ listsGo s la lb ws i j, Q p
  | [], i, j, _, p, hp => by
    obtain ⟨h1, h2⟩ := gap_same s la lb _ i j (Nat.le_refl _) p hp
    have := hs _ _ h2
    rw [← h1] at this
    exact this
  | q :: ws, i, j, h, p, hp => by
    rw [listsGo] at hp
    rcases List.mem_append.1 hp with hp | hp
    · obtain ⟨h1, h2⟩ := gap_same s q.a q.b _ i j (Nat.le_refl _) p hp
      have := hs _ _ h2
      rw [← h1] at this
      exact this
    · rcases List.mem_cons.1 hp with rfl | hp
      · exact h _ (.head _)
      · exact lists_same s la lb Q hs ws _ _ (fun x hx => h x (.tail _ hx)) p hp

end Go.Proofs.Ytdlenbkkcpcbmaa
