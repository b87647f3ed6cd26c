/- Plain: which nodes of two pages are meant to be the same; where a node's kids stand among a page's items. -/
import Derived.Test.YtdlenbkkcpcbmaaLists
import Derived.Test.YtdlenbkkcpcbmaaKids
namespace Go.Proofs.Ytdlenbkkcpcbmaa

def kidsAt (a : List NodeT) (i : Nat) : List NodeT := match a[i]? with | some n => n.kids | none => []
def runP (i j : Nat) : Nat → List PairT
  | 0 => []
  | n + 1 => ⟨i, j, true⟩ :: runP (i + 1) (j + 1) n
theorem runP_len (n : Nat) : ∀ i j, (runP i j n).length = n := by
  induction n with
  | zero => intro i j; rfl
  | succ n ih => intro i j; rw [runP, List.length_cons, ih]
theorem runP_snoc (n : Nat) : ∀ i j, runP i j (n + 1) = runP i j n ++ [⟨i + n, j + n, true⟩] := by
  induction n with
  | zero => intro i j; rfl
  | succ n ih =>
    intro i j
    rw [runP, ih, runP, List.cons_append, show i + 1 + n = i + (n + 1) by omega, show j + 1 + n = j + (n + 1) by omega]
theorem runP_rises (n : Nat) : ∀ i j, Rises i j (i + n) (j + n) (runP i j n) := by
  induction n with
  | zero => intro i j; trivial
  | succ n ih =>
    intro i j
    refine ⟨⟨Nat.le_refl _, Nat.le_refl _, by dsimp only; omega, by dsimp only; omega⟩, ?_⟩
    have := ih (i + 1) (j + 1)
    rwa [show i + 1 + n = i + (n + 1) by omega, show j + 1 + n = j + (n + 1) by omega] at this
/-- The pairs of a pair of nodes' place and below it. -/
def belowP (rec_ : List NodeT → List NodeT → Nat → Nat → List PairT) (a b : List NodeT) (fa fb : Nat) (p : PairT) : List PairT :=
  ⟨fa + countL (a.take p.a), fb + countL (b.take p.b), p.whole⟩ :: (if p.whole = true then runP (fa + countL (a.take p.a) + 1) (fb + countL (b.take p.b) + 1) (countL (kidsAt a p.a)) else rec_ (kidsAt a p.a) (kidsAt b p.b) (fa + countL (a.take p.a) + 1) (fb + countL (b.take p.b) + 1))
def pagesF : Nat → List NodeT → List NodeT → Nat → Nat → List PairT
  | 0, _, _, _, _ => []
  | N + 1, a, b, fa, fb => (listsL a b).flatMap (belowP (pagesF N) a b fa fb)
/-- The pairs of two pages. -/
def pagesL (a b : List NodeT) : List PairT := pagesF (countL a) a b 0 0
theorem kids_count {a : List NodeT} {i : Nat} (h : i < a.length) : countL (kidsAt a i) + 1 ≤ countL a := by
  obtain ⟨n, hn⟩ : ∃ n, a[i]? = some n := ⟨_, List.getElem?_eq_getElem h⟩
  have := count_mem a i n hn
  rw [kidsAt, hn]; simp only; omega
theorem lists_in (a b : List NodeT) : Rises 0 0 a.length b.length (listsL a b) := lists_rises _ _ _ _ 0 0 (line_rises a b _ 0 0 (Nat.le_refl _)) (Nat.zero_le _) (Nat.zero_le _)
theorem flatMap_congr' {α β : Type} {f g : α → List β} : ∀ {l : List α}, (∀ x ∈ l, f x = g x) → l.flatMap f = l.flatMap g
  | [], _ => rfl
  | x :: l, h => by
    rw [List.flatMap_cons, List.flatMap_cons, h x (.head _), flatMap_congr' (fun y hy => h y (.tail _ hy))]
theorem count_zero {a : List NodeT} (h : countL a = 0) : a = [] := by
  cases a with
  | nil => rfl
  | cons n l => rw [countL, count_kids] at h; omega
theorem pagesF_nil (N : Nat) (b : List NodeT) (fa fb : Nat) : pagesF N [] b fa fb = [] := by
  cases N with
  | zero => rfl
  | succ N =>
    have h := lists_in [] b
    cases hl : listsL [] b with
    | nil => rw [pagesF, hl]; rfl
    | cons p l => rw [hl] at h; have := h.1; simp at this
theorem pagesF_more : ∀ (N M : Nat) (a b : List NodeT) (fa fb : Nat), countL a ≤ N → countL a ≤ M → pagesF N a b fa fb = pagesF M a b fa fb := by
  intro N
  induction N with
  | zero => intro M a b fa fb h _; rw [count_zero (a := a) (by omega), pagesF_nil, pagesF_nil]
  | succ N ih =>
    intro M a b fa fb h1 h2
    cases M with
    | zero => rw [count_zero (a := a) (by omega), pagesF_nil, pagesF_nil]
    | succ M =>
      rw [pagesF, pagesF]
      refine flatMap_congr' fun p hp => ?_
      have hb := rises_ge (lists_in a b) p hp
      have hk := kids_count hb.2.2.1
      rw [belowP, belowP, ih M _ _ _ _ (by omega) (by omega)]
theorem take_count_le (a : List NodeT) {i j : Nat} (h : i ≤ j) : countL (a.take i) ≤ countL (a.take j) := by
  have := countL_take_le (a.take j) i
  rwa [List.take_take, Nat.min_eq_left h] at this
theorem take_step (a : List NodeT) (i : Nat) (h : i < a.length) : countL (a.take (i + 1)) = countL (a.take i) + (1 + countL (kidsAt a i)) := by
  obtain ⟨n, hn⟩ : ∃ n, a[i]? = some n := ⟨_, List.getElem?_eq_getElem h⟩
  rw [countL_take a i n hn, kidsAt, hn]
theorem below_rises (a b : List NodeT) (fa fb : Nat) (rec_ : List NodeT → List NodeT → Nat → Nat → List PairT) (la lb : Nat)
    (hrec : ∀ i j fa fb, i < a.length → j < b.length → Rises fa fb (fa + countL (kidsAt a i)) (fb + countL (kidsAt b j)) (rec_ (kidsAt a i) (kidsAt b j) fa fb)) :
    ∀ (l : List PairT) (i j : Nat), Rises i j a.length b.length l → (∀ p ∈ l, p.whole = true → a[p.a]? = b[p.b]?) → fa + countL a ≤ la → fb + countL b ≤ lb →
      Rises (fa + countL (a.take i)) (fb + countL (b.take j)) la lb (l.flatMap (belowP rec_ a b fa fb))
  | [], i, j, _, _, _, _ => trivial
  | p :: l, i, j, h, hw, h1, h2 => by
    obtain ⟨⟨q1, q2, q3, q4⟩, q5⟩ := h
    have sa := take_step a p.a q3
    have sb := take_step b p.b q4
    have ta := countL_take_le a (p.a + 1)
    have tb := countL_take_le b (p.b + 1)
    have ia := take_count_le a q1
    have ib := take_count_le b q2
    have ih := below_rises a b fa fb rec_ la lb hrec l (p.a + 1) (p.b + 1) q5 (fun x hx => hw x (.tail _ hx)) h1 h2
    have hhead : Rises (fa + countL (a.take p.a)) (fb + countL (b.take p.b)) (fa + countL (a.take (p.a + 1))) (fb + countL (b.take (p.b + 1))) (belowP rec_ a b fa fb p) := by
      refine ⟨⟨Nat.le_refl _, Nat.le_refl _, by dsimp only; omega, by dsimp only; omega⟩, ?_⟩
      split
      · rename_i hwh
        have hab := hw p (.head _) hwh
        have hk : countL (kidsAt a p.a) = countL (kidsAt b p.b) := by rw [kidsAt, kidsAt, hab]
        have := runP_rises (countL (kidsAt a p.a)) (fa + countL (a.take p.a) + 1) (fb + countL (b.take p.b) + 1)
        rw [show fa + countL (a.take (p.a + 1)) = fa + countL (a.take p.a) + 1 + countL (kidsAt a p.a) by omega, show fb + countL (b.take (p.b + 1)) = fb + countL (b.take p.b) + 1 + countL (kidsAt a p.a) by omega]
        exact this
      · have := hrec p.a p.b (fa + countL (a.take p.a) + 1) (fb + countL (b.take p.b) + 1) q3 q4
        rw [show fa + countL (a.take (p.a + 1)) = fa + countL (a.take p.a) + 1 + countL (kidsAt a p.a) by omega, show fb + countL (b.take (p.b + 1)) = fb + countL (b.take p.b) + 1 + countL (kidsAt b p.b) by omega]
        exact this
    rw [List.flatMap_cons]
    exact rises_append (hhead.lower (by omega) (by omega)) ih (by omega) (by omega) (by omega) (by omega)
theorem lists_whole (a b : List NodeT) : ∀ p ∈ listsL a b, (p.whole = true → a[p.a]? = b[p.b]?) ∧ (p.whole = false → likeAt a b p.a p.b = true) :=
  lists_same (likeAt a b) a.length b.length (fun p => (p.whole = true → a[p.a]? = b[p.b]?) ∧ (p.whole = false → likeAt a b p.a p.b = true)) (fun i j h => ⟨fun e => (by cases e), fun _ => h⟩) (lineI a b 0 0) 0 0
    (fun p hp => by have := line_same a b _ 0 0 (Nat.le_refl _) p hp; exact ⟨fun _ => this.2, fun e => (by rw [this.1] at e; cases e)⟩)
theorem pagesF_rises : ∀ (N : Nat) (a b : List NodeT) (fa fb : Nat), Rises fa fb (fa + countL a) (fb + countL b) (pagesF N a b fa fb) := by
  intro N
  induction N with
  | zero => intro a b fa fb; trivial
  | succ N ih =>
    intro a b fa fb
    rw [pagesF]
    have := below_rises a b fa fb (pagesF N) (fa + countL a) (fb + countL b) (fun i j fa fb _ _ => ih _ _ fa fb) (listsL a b) 0 0 (lists_in a b) (fun p hp => (lists_whole a b p hp).1) (Nat.le_refl _) (Nat.le_refl _)
    simpa [countL] using this
theorem pagesF_len : ∀ {l : List PairT} {i j la lb : Nat}, Rises i j la lb l → i ≤ la → l.length ≤ la - i
  | [], _, _, _, _, _, _ => by simp
  | p :: l, i, j, la, lb, h, hi => by
    have h1 := h.1
    have h2 := pagesF_len h.2 (by omega)
    rw [List.length_cons]; omega
/-- Where the items' parents lie. -/
theorem parents_in : ∀ (l : List NodeT) (q d : Int) (st pl : Nat), ∀ x ∈ itemsL l q d st pl, x.parent = q ∨ ((st : Int) ≤ x.parent ∧ x.parent < (st + countL l : Nat)) := by
  have key : ∀ (N : Nat) (l : List NodeT), countL l ≤ N → ∀ (q d : Int) (st pl : Nat), ∀ x ∈ itemsL l q d st pl, x.parent = q ∨ ((st : Int) ≤ x.parent ∧ x.parent < (st + countL l : Nat)) := by
    intro N
    induction N with
    | zero => intro l h q d st pl x hx; rw [count_zero (a := l) (by omega)] at hx; simp [itemsL] at hx
    | succ N ih =>
      intro l
      induction l with
      | nil => intro h q d st pl x hx; simp [itemsL] at hx
      | cons n l ihl =>
        intro h q d st pl x hx
        rw [itemsL, itemsN_eq] at hx
        rw [countL, count_kids] at h ⊢
        rcases List.mem_append.1 hx with hx | hx
        · rcases List.mem_cons.1 hx with rfl | hx
          · exact .inl rfl
          · rcases ih n.kids (by omega) st (d + 1) (st + 1) 0 x hx with h1 | h1 <;> right <;> omega
        · rcases ihl (by omega) q d (st + n.count) (pl + 1) x hx with h1 | h1
          · exact .inl h1
          · right; rw [count_kids] at h1; omega
  exact fun l => key _ l (Nat.le_refl _)
theorem kids_none (p : Int) : ∀ (l : List ItemT) (i : Nat), (∀ x ∈ l, x.parent ≠ p) → kidsGo p l i = []
  | [], _, _ => rfl
  | x :: l, i, h => by rw [kidsGo, if_neg (h x (.head _)), kids_none p l (i + 1) (fun y hy => h y (.tail _ hy))]
theorem range_map_cons {α : Type} (n : Nat) (f : Nat → α) : (List.range (n + 1)).map f = f 0 :: (List.range n).map fun q => f (q + 1) := by
  rw [List.range_succ_eq_map, List.map_cons, List.map_map]; rfl
theorem kids_top (p : Int) : ∀ (l : List NodeT) (d : Int) (st pl i : Nat), p < st → kidsGo p (itemsL l p d st pl) i = (List.range l.length).map fun q => i + countL (l.take q)
  | [], _, _, _, _, _ => by simp [itemsL, kidsGo]
  | n :: l, d, st, pl, i, h => by
    have h1 : kidsGo p (itemsL n.kids st (d + 1) (st + 1) 0) (i + 1) = [] := kids_none p _ _ (fun x hx => by
      have := parents_in n.kids st (d + 1) (st + 1) 0 x hx
      omega)
    rw [itemsL, itemsN_eq, List.cons_append, kidsGo, if_pos rfl, kidsGo_append, h1, itemsL_len, kids_top p l d _ _ _ (by omega), List.length_cons, range_map_cons]
    simp only [List.nil_append, List.take_zero, countL, Nat.add_zero, List.take_succ_cons, count_kids]
    congr 1
    refine List.map_congr_left fun q _ => ?_
    omega
/-- The items of a node's kids stand in one stretch; no other item has the node as its parent. -/
structure Seg (ia : List ItemT) (a : List NodeT) (fa : Nat) (pre post : List ItemT) (d : Int) : Prop where
  eq : ia = pre ++ (itemsL a ((fa : Int) - 1) d fa 0 ++ post)
  len : pre.length = fa
  lo : ∀ x ∈ pre, x.parent < (fa : Int) - 1
  hi : ∀ x ∈ post, x.parent < (fa : Int) - 1 ∨ ((fa + countL a : Nat) : Int) ≤ x.parent
theorem Seg.kids {ia : List ItemT} {a : List NodeT} {fa : Nat} {pre post : List ItemT} {d : Int} (h : Seg ia a fa pre post d) : kidsGo ((fa : Int) - 1) ia 0 = (List.range a.length).map fun q => fa + countL (a.take q) := by
  rw [h.eq, kidsGo_append, kids_none _ pre _ (fun x hx => by have := h.lo x hx; omega), List.nil_append, kidsGo_append, kids_none _ post _ (fun x hx => by have := h.hi x hx; omega), List.append_nil, kids_top _ a d fa 0 _ (by omega), h.len, Nat.zero_add]
theorem items_split (a : List NodeT) (q : Nat) (n : NodeT) (hn : a[q]? = some n) (p d : Int) (st : Nat) : itemsL a p d st 0 = itemsL (a.take q) p d st 0 ++ (⟨((st + countL (a.take q) : Nat) : Int), p, q, d, (1 + countL n.kids : Nat)⟩ :: (itemsL n.kids ((st + countL (a.take q) : Nat) : Int) (d + 1) (st + countL (a.take q) + 1) 0 ++ itemsL (a.drop (q + 1)) p d (st + countL (a.take q) + n.count) (q + 1))) := by
  obtain ⟨h1, h2⟩ := List.getElem?_eq_some_iff.1 hn
  conv => lhs; rw [← List.take_append_drop q a]
  rw [itemsL_append, List.drop_eq_getElem_cons h1, h2, itemsL, itemsN_eq, List.length_take, Nat.min_eq_left (by omega), Nat.zero_add, List.cons_append]
theorem Seg.item {ia : List ItemT} {a : List NodeT} {fa : Nat} {pre post : List ItemT} {d : Int} (h : Seg ia a fa pre post d) {q : Nat} {n : NodeT} (hn : a[q]? = some n) :
    ia[fa + countL (a.take q)]? = some ⟨((fa + countL (a.take q) : Nat) : Int), (fa : Int) - 1, q, d, (1 + countL n.kids : Nat)⟩ := by
  rw [h.eq, items_split a q n hn, List.getElem?_append_right (by rw [h.len]; omega), h.len, List.append_assoc, List.getElem?_append_right (by rw [itemsL_len]; omega), itemsL_len, show fa + countL (a.take q) - fa - countL (a.take q) = 0 by omega]
  rfl
theorem Seg.sub {ia : List ItemT} {a : List NodeT} {fa : Nat} {pre post : List ItemT} {d : Int} (h : Seg ia a fa pre post d) {q : Nat} {n : NodeT} (hn : a[q]? = some n) :
    ∃ pre' post', Seg ia n.kids (fa + countL (a.take q) + 1) pre' post' (d + 1) := by
  have hs := items_split a q n hn ((fa : Int) - 1) d fa
  have hc := countL_take a q n hn
  have hc2 := countL_take_le a (q + 1)
  have hdrop : countL a = countL (a.take (q + 1)) + countL (a.drop (q + 1)) := by rw [← countL_append, List.take_append_drop]
  have hk := count_kids n
  refine ⟨pre ++ (itemsL (a.take q) ((fa : Int) - 1) d fa 0 ++ [⟨((fa + countL (a.take q) : Nat) : Int), (fa : Int) - 1, q, d, (1 + countL n.kids : Nat)⟩]), itemsL (a.drop (q + 1)) ((fa : Int) - 1) d (fa + countL (a.take q) + n.count) (q + 1) ++ post, ?_, ?_, ?_, ?_⟩
  · rw [h.eq, hs, show (((fa + countL (a.take q) + 1 : Nat) : Int) - 1) = ((fa + countL (a.take q) : Nat) : Int) by omega]
    simp only [List.append_assoc, List.cons_append, List.nil_append]
  · simp only [List.length_append, h.len, itemsL_len, List.length_cons, List.length_nil]; omega
  · intro x hx
    rcases List.mem_append.1 hx with hx | hx
    · have := h.lo x hx; omega
    · rcases List.mem_append.1 hx with hx | hx
      · rcases parents_in (a.take q) ((fa : Int) - 1) d fa 0 x hx with h1 | h1 <;> omega
      · rw [List.mem_singleton.1 hx]; simp only; omega
  · intro x hx
    rcases List.mem_append.1 hx with hx | hx
    · rcases parents_in (a.drop (q + 1)) ((fa : Int) - 1) d (fa + countL (a.take q) + n.count) (q + 1) x hx with h1 | h1
      · left; omega
      · right; omega
    · rcases h.hi x hx with h1 | h1
      · left; omega
      · right; omega
theorem seg_top (a : List NodeT) : Seg (itemsL a (-1) 0 0 0) a 0 [] [] 0 := ⟨by simp, rfl, fun x hx => (by cases hx), fun x hx => (by cases hx)⟩

end Go.Proofs.Ytdlenbkkcpcbmaa
