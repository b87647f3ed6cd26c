/- Plain: a number's digits, a text behind its length, a node's key: each can be read back from what begins with it. -/
import Derived.Test.YtdlenbkkcpcbmaaLabel
namespace Go.Proofs.Ytdlenbkkcpcbmaa

theorem digit_ne (k : Nat) (h : k < 10) : UInt8.ofNat (48 + k) ≠ 46 ∧ UInt8.ofNat (48 + k) ≠ 45 ∧ (UInt8.ofNat (48 + k)).toNat = 48 + k := by
  have : ∀ k : Fin 10, UInt8.ofNat (48 + k.val) ≠ 46 ∧ UInt8.ofNat (48 + k.val) ≠ 45 ∧ (UInt8.ofNat (48 + k.val)).toNat = 48 + k.val := by decide
  exact this ⟨k, h⟩
theorem decF_no : ∀ (f n : Nat), ∀ b ∈ decF f n, b ≠ 46 ∧ b ≠ 45
  | 0, _, b, h => by cases h
  | f + 1, n, b, h => by
    rw [decF] at h
    split at h
    · rename_i h1
      rw [List.mem_singleton] at h
      subst h
      exact ⟨(digit_ne n h1).1, (digit_ne n h1).2.1⟩
    · rcases List.mem_append.1 h with h | h
      · exact decF_no f _ b h
      · rw [List.mem_singleton] at h
        subst h
        have h1 : n % 10 < 10 := Nat.mod_lt _ (by decide)
        exact ⟨(digit_ne _ h1).1, (digit_ne _ h1).2.1⟩
/-- The number that digits make. -/
def valF (l : List UInt8) : Nat := l.foldl (fun v b => v * 10 + (b.toNat - 48)) 0
theorem valF_dec : ∀ (f n : Nat), n < 10 ^ f → 0 < f → valF (decF f n) = n
  | 0, _, _, h => by omega
  | f + 1, n, hn, _ => by
    rw [decF]
    by_cases h : n < 10
    · rw [if_pos h]
      simp only [valF, List.foldl_cons, List.foldl_nil]
      rw [(digit_ne n h).2.2]
      omega
    · rw [if_neg h]
      have hn' : n / 10 < 10 ^ f := by rw [Nat.pow_succ] at hn; omega
      have f0 : 0 < f := by cases f with | zero => simp at hn'; omega | succ f => omega
      have ih := valF_dec f (n / 10) hn' f0
      have h1 : n % 10 < 10 := Nat.mod_lt _ (by decide)
      rw [valF, List.foldl_append, ← valF, ih]
      simp only [List.foldl_cons, List.foldl_nil]
      rw [(digit_ne _ h1).2.2]
      omega
/-- What stands ahead of the first dot, and what behind it. -/
theorem dot_split : ∀ (a b r r' : List UInt8), (∀ x ∈ a, x ≠ 46) → (∀ x ∈ b, x ≠ 46) → a ++ 46 :: r = b ++ 46 :: r' → a = b ∧ r = r'
  | [], [], r, r', _, _, h => ⟨rfl, by simpa using h⟩
  | [], y :: b, r, r', _, hb, h => by
    simp only [List.nil_append, List.cons_append, List.cons.injEq] at h
    exact absurd h.1.symm (hb y (.head _))
  | x :: a, [], r, r', ha, _, h => by
    simp only [List.nil_append, List.cons_append, List.cons.injEq] at h
    exact absurd h.1 (ha x (.head _))
  | x :: a, y :: b, r, r', ha, hb, h => by
    simp only [List.cons_append, List.cons.injEq] at h
    obtain ⟨h1, h2⟩ := dot_split a b r r' (fun z hz => ha z (.tail _ hz)) (fun z hz => hb z (.tail _ hz)) h.2
    exact ⟨by rw [h.1, h1], h2⟩
theorem digL_split (a b : Int) (ha : I64 a) (hb : I64 b) (r r' : List UInt8) (h : digL a ++ r = digL b ++ r') : a = b ∧ r = r' := by
  have la := ha.lo
  have ua := ha.hi
  have lb := hb.lo
  have ub := hb.hi
  have key : ∀ (m k : Nat) (u v : List UInt8), m ≤ 9223372036854775807 → k ≤ 9223372036854775807 → decF 20 m ++ [46] ++ u = decF 20 k ++ [46] ++ v → m = k ∧ u = v := by
    intro m k u v hm hk h
    rw [List.append_assoc, List.append_assoc] at h
    obtain ⟨h1, h2⟩ := dot_split _ _ u v (fun x hx => (decF_no 20 m x hx).1) (fun x hx => (decF_no 20 k x hx).1) h
    have e := congrArg valF h1
    rw [valF_dec 20 m (big_lt m hm) (by decide), valF_dec 20 k (big_lt k hk) (by decide)] at e
    exact ⟨e, h2⟩
  have head : ∀ m : Nat, m ≤ 9223372036854775807 → ∀ u v : List UInt8, decF 20 m ++ [46] ++ u ≠ 45 :: v := by
    intro m hm u v h
    cases hd : decF 20 m with
    | nil => rw [hd] at h; simp at h
    | cons x t =>
      rw [hd] at h
      simp only [List.cons_append, List.cons.injEq] at h
      exact (decF_no 20 m x (by rw [hd]; exact .head _)).2 h.1
  rw [digL, digL] at h
  by_cases h1 : a < 0
  · by_cases h2 : b < 0
    · rw [if_pos h1, if_pos h2] at h
      simp only [List.cons_append, List.cons.injEq, true_and] at h
      obtain ⟨e, e2⟩ := key (-a - 1).toNat (-b - 1).toNat r r' (by omega) (by omega) h
      exact ⟨by omega, e2⟩
    · rw [if_pos h1, if_neg h2] at h
      exact absurd h.symm (head _ (by omega) _ _)
  · by_cases h2 : b < 0
    · rw [if_neg h1, if_pos h2] at h
      exact absurd h (head _ (by omega) _ _)
    · rw [if_neg h1, if_neg h2] at h
      obtain ⟨e, e2⟩ := key a.toNat b.toNat r r' (by omega) (by omega) h
      exact ⟨by omega, e2⟩

theorem i64_len {α : Type} (l : List α) (h : l.length ≤ 1000000) : I64 (l.length : Int) := i64_nat _ h
theorem textL_split (a b r r' : List UInt8) (ha : a.length ≤ 1000000) (hb : b.length ≤ 1000000) (h : textL a ++ r = textL b ++ r') : a = b ∧ r = r' := by
  rw [textL, textL, List.append_assoc, List.append_assoc] at h
  obtain ⟨h1, h2⟩ := digL_split _ _ (i64_len a ha) (i64_len b hb) _ _ h
  exact List.append_inj h2 (by omega)
theorem label_inj (a b : NodeT) (ha : I64 a.kind) (ha' : I64 a.space) (hb : I64 b.kind) (hb' : I64 b.space) : labelL a = labelL b ↔ a.kind = b.kind ∧ a.space = b.space ∧ a.name = b.name := by
  rw [labelL, labelL, List.append_assoc, List.append_assoc]
  constructor
  · intro h
    obtain ⟨h1, h2⟩ := digL_split _ _ ha hb _ _ h
    obtain ⟨h3, h4⟩ := digL_split _ _ ha' hb' _ _ h2
    exact ⟨h1, h3, h4⟩
  · rintro ⟨h1, h2, h3⟩
    rw [h1, h2, h3]
def attrsKey : List AttrT → List UInt8
  | [] => []
  | x :: l => textL x.1 ++ textL x.2 ++ attrsKey l
mutual
def keyN : NodeT → List UInt8
  | .mk k s n a t ks => digL k ++ (digL s ++ (textL n ++ (textL t ++ (digL a.length ++ (attrsKey a ++ (digL ks.length ++ keysL ks))))))
def keysL : List NodeT → List UInt8
  | [] => []
  | n :: l => keyN n ++ keysL l
end
theorem attrsKey_split : ∀ (a b : List AttrT) (r r' : List UInt8), a.length = b.length → (∀ x ∈ a, x.1.length ≤ 100 ∧ x.2.length ≤ 2000) → (∀ x ∈ b, x.1.length ≤ 100 ∧ x.2.length ≤ 2000) → attrsKey a ++ r = attrsKey b ++ r' → a = b ∧ r = r'
  | [], [], r, r', _, _, _, h => ⟨rfl, by simpa [attrsKey] using h⟩
  | [], _ :: _, _, _, hl, _, _, _ => by simp at hl
  | _ :: _, [], _, _, hl, _, _, _ => by simp at hl
  | x :: a, y :: b, r, r', hl, ha, hb, h => by
    have hx := ha x (.head _)
    have hy := hb y (.head _)
    rw [attrsKey, attrsKey, List.append_assoc, List.append_assoc, List.append_assoc, List.append_assoc] at h
    obtain ⟨h1, h2⟩ := textL_split _ _ _ _ (by omega) (by omega) h
    obtain ⟨h3, h4⟩ := textL_split _ _ _ _ (by omega) (by omega) h2
    obtain ⟨h5, h6⟩ := attrsKey_split a b r r' (by simpa using hl) (fun z hz => ha z (.tail _ hz)) (fun z hz => hb z (.tail _ hz)) h4
    exact ⟨by rw [h5, Prod.ext h1 h3], h6⟩
mutual
/-- Nodes whose numbers are of 64 bits, and which are not too many. -/
def NodeT.in64 : NodeT → Prop
  | .mk k s _ _ _ ks => I64 k ∧ I64 s ∧ ks.length ≤ 1000000 ∧ in64L ks
def in64L : List NodeT → Prop
  | [] => True
  | n :: l => n.in64 ∧ in64L l
end
mutual
theorem keyN_split : ∀ (a b : NodeT) (r r' : List UInt8), a.in64 → b.in64 → a.ok → b.ok → keyN a ++ r = keyN b ++ r' → a = b ∧ r = r'
  | .mk k s n a t ks, .mk k' s' n' a' t' ks', r, r', ⟨i1, i2, i3, i4⟩, ⟨j1, j2, j3, j4⟩, ⟨o1, o2, o3, o4, o5⟩, ⟨p1, p2, p3, p4, p5⟩, h => by
    rw [keyN, keyN] at h
    simp only [List.append_assoc] at h
    obtain ⟨e1, h⟩ := digL_split _ _ i1 j1 _ _ h
    obtain ⟨e2, h⟩ := digL_split _ _ i2 j2 _ _ h
    obtain ⟨e3, h⟩ := textL_split _ _ _ _ (by omega) (by omega) h
    obtain ⟨e4, h⟩ := textL_split _ _ _ _ (by omega) (by omega) h
    obtain ⟨e5, h⟩ := digL_split _ _ (i64_nat _ (by omega)) (i64_nat _ (by omega)) _ _ h
    obtain ⟨e6, h⟩ := attrsKey_split a a' _ _ (by omega) o4 p4 h
    obtain ⟨e7, h⟩ := digL_split _ _ (i64_nat _ i3) (i64_nat _ j3) _ _ h
    obtain ⟨e8, hz⟩ := keysL_split ks ks' r r' (by omega) i4 j4 o5 p5 h
    subst e1 e2 e3 e4 e6 e8
    exact ⟨rfl, hz⟩
theorem keysL_split : ∀ (a b : List NodeT) (r r' : List UInt8), a.length = b.length → in64L a → in64L b → okL a → okL b → keysL a ++ r = keysL b ++ r' → a = b ∧ r = r'
  | [], [], r, r', _, _, _, _, _, h => ⟨rfl, by simpa [keysL] using h⟩
  | [], _ :: _, _, _, hl, _, _, _, _, _ => by simp at hl
  | _ :: _, [], _, _, hl, _, _, _, _, _ => by simp at hl
  | x :: a, y :: b, r, r', hl, hi, hj, ho, hp, h => by
    rw [keysL, keysL, List.append_assoc, List.append_assoc] at h
    obtain ⟨h1, h2⟩ := keyN_split x y _ _ hi.1 hj.1 ho.1 hp.1 h
    obtain ⟨h3, h4⟩ := keysL_split a b r r' (by simpa using hl) hi.2 hj.2 ho.2 hp.2 h2
    exact ⟨by rw [h1, h3], h4⟩
end
/-- Equal keys, equal nodes. -/
theorem key_inj (a b : NodeT) (ha : a.in64) (hb : b.in64) (oa : a.ok) (ob : b.ok) : keyN a = keyN b ↔ a = b := by
  constructor
  · intro h
    exact (keyN_split a b [] [] ha hb oa ob (by rw [h])).1
  · rintro rfl; rfl

mutual
theorem NodeIn.in64 {w : World} : ∀ {n : NodeT} {cs : Nat → Option Value}, NodeIn w cs n → n.count ≤ 1000000 → n.in64
  | .mk k s nm a t ks, cs, h, hc => by
    obtain ⟨hr, -, -, -, -, -, K, d, -, hk⟩ := h
    rw [NodeT.count] at hc
    have := len_count ks
    exact ⟨hr.1, hr.2, by omega, NodesIn.in64 hk (by omega)⟩
theorem NodesIn.in64 {w : World} : ∀ {l : List NodeT} {K : Option Addr} {j : Nat}, NodesIn w K j l → countL l ≤ 1000000 → in64L l
  | [], _, _, _, _ => trivial
  | n :: l, K, j, h, hc => by
    rw [countL] at hc
    obtain ⟨⟨ad, _, hn⟩, hl⟩ := h
    exact ⟨NodeIn.in64 hn (by omega), NodesIn.in64 hl (by omega)⟩
end
theorem in64L_mem : ∀ {l : List NodeT}, in64L l → ∀ {i : Nat} {n : NodeT}, l[i]? = some n → n.in64
  | [], _, i, n, h => by simp at h
  | m :: l, h, 0, n, hn => by
    simp only [List.getElem?_cons_zero, Option.some.injEq] at hn
    subst hn; exact h.1
  | m :: l, h, i + 1, n, hn => in64L_mem h.2 (by simpa using hn)

end Go.Proofs.Ytdlenbkkcpcbmaa
