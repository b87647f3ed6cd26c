/- What is written to be read as it is: plain facts. -/
import Derived.Test.YthfkldheflmlmaaDoorPenG
namespace Go.Proofs.YthfkldheflmlmaaDoor
open Go.RowKit Go.Lib

theorem index_nat {sub : List UInt8} (ho : sub ≠ []) : ∀ (s : List UInt8) (i : Nat), index s sub = (i : Int) → sub.isPrefixOf (s.drop i) = true ∧ ∀ j, j < i → sub.isPrefixOf (s.drop j) = false
  | [], i, h => by
    rw [index, if_neg (by simpa using ho)] at h
    omega
  | b :: l, i, h => by
    cases hp : sub.isPrefixOf (b :: l) with
    | true =>
      rw [index, if_pos hp] at h
      obtain rfl : i = 0 := by omega
      exact ⟨by rw [List.drop_zero]; exact hp, fun j hj => by omega⟩
    | false =>
      rw [index_next hp] at h
      have hge := index_ge l sub
      split at h
      · omega
      · obtain ⟨i, rfl⟩ : ∃ i', i = i' + 1 := ⟨i - 1, by rename_i hm; simp at hm; omega⟩
        obtain ⟨h1, h2⟩ := index_nat ho l i (by omega)
        refine ⟨by rw [List.drop_succ_cons]; exact h1, fun j hj => ?_⟩
        cases j with
        | zero => rw [List.drop_zero]; exact hp
        | succ j => rw [List.drop_succ_cons]; exact h2 j (by omega)
theorem index_none {sub : List UInt8} (ho : sub ≠ []) : ∀ (s : List UInt8), index s sub = -1 → ∀ j, sub.isPrefixOf (s.drop j) = false
  | [], _, j => by
    rw [List.drop_nil]
    cases sub with
    | nil => exact absurd rfl ho
    | cons a t => rfl
  | b :: l, h, j => by
    cases hp : sub.isPrefixOf (b :: l) with
    | true => rw [index, if_pos hp] at h; cases h
    | false =>
      rw [index_next hp] at h
      have hge := index_ge l sub
      split at h
      · rename_i hm
        cases j with
        | zero => rw [List.drop_zero]; exact hp
        | succ j => rw [List.drop_succ_cons]; exact index_none ho l (by simpa using hm) j
      · omega
/-- Does a tag that ends an element begin at a place of a text in small letters? -/
def closeAt (L pat : List UInt8) (i : Nat) : Prop := pat.isPrefixOf (L.drop i) = true ∧ ∃ b t, L.drop (i + pat.length) = b :: t ∧ stopB b = true
def patL (n : List UInt8) : List UInt8 := 60 :: 47 :: n
theorem prefix_app {p l : List UInt8} (h : p.isPrefixOf l = true) : ∃ t, l = p ++ t := by
  obtain ⟨t, ht⟩ := List.isPrefixOf_iff_prefix.1 h
  exact ⟨t, ht.symm⟩
theorem pat_inner {n : List UInt8} (hn : nameL n = true) {L : List UInt8} {i d : Nat} (h : (patL n).isPrefixOf (L.drop i) = true) (h0 : 0 < d) (h1 : d < (patL n).length) : (patL n).isPrefixOf (L.drop (i + d)) = false := by
  obtain ⟨t, ht⟩ := prefix_app h
  have hd : L.drop (i + d) = (patL n).drop d ++ t := by rw [← List.drop_drop, ht, List.drop_append_of_le_length (by omega)]
  rw [hd]
  cases hx : (patL n).drop d with
  | nil => rw [List.drop_eq_nil_iff] at hx; omega
  | cons c r =>
    have hc : c ≠ 60 := by
      have hm : c ∈ (47 :: n : List UInt8) := by
        obtain ⟨d, rfl⟩ : ∃ d', d = d' + 1 := ⟨d - 1, by omega⟩
        rw [patL, List.drop_succ_cons] at hx
        exact List.mem_of_mem_drop (i := d) (by rw [hx]; simp)
      rcases List.mem_cons.1 hm with e | e
      · rw [e]; decide
      · exact (nameI_low c ((name_parts hn).2.2.2 c e)).2.2.1
    simp [patL, List.isPrefixOf, Ne.symm hc]
theorem stop_low (b : UInt8) : stopB (lowB b) = stopB b := by
  revert b
  have : ∀ n : Fin 256, stopB (lowB (UInt8.ofNat n.1)) = stopB (UInt8.ofNat n.1) := by decide +kernel
  intro b
  simpa using this ⟨b.toNat, b.toNat_lt⟩
theorem ends_parts {l last : List UInt8} (h : endsL l last = true) : ∃ Y b t, l = 60 :: 47 :: (Y ++ b :: t) ∧ lowL Y = last ∧ stopB b = true := by
  rw [endsL] at h
  simp only [Bool.and_eq_true, decide_eq_true_eq, beq_iff_eq] at h
  obtain ⟨h0, -, h2, h3, h4⟩ := h
  obtain ⟨t0, ht⟩ := prefix_app h0
  have e : l.drop 2 = t0 := by rw [ht]; rfl
  rw [e] at h2 h3 h4
  cases hd : t0.drop last.length with
  | nil => rw [hd] at h4; cases h4
  | cons b t =>
    rw [hd] at h4
    refine ⟨t0.take last.length, b, t, ?_, h3, h4⟩
    rw [ht, ← hd, List.take_append_drop]
    rfl
theorem endN_gen (last c : List UInt8) (hc : endsL c last = true) (hne : c ≠ []) : ∀ (x : List UInt8), (∀ k, k < x.length → endsL ((x ++ c).drop k) last = false) → endN last (x ++ c) = x.length
  | [], _ => by
    cases c with
    | nil => exact absurd rfl hne
    | cons b t => rw [List.nil_append, endN, if_pos hc]; rfl
  | b :: x, h => by
    have ih := endN_gen last c hc hne x (fun k hk => by have := h (k + 1) (by simp; omega); rwa [List.cons_append, List.drop_succ_cons] at this)
    have h0 := h 0 (by simp)
    rw [List.drop_zero, List.cons_append] at h0
    rw [List.cons_append, endN, if_neg (by rw [h0]; simp), ih, List.length_cons]
    omega
theorem raw_no {s n : List UInt8} (hn : nameL n = true) (h : ∀ i, ¬ closeAt (lowL s) (patL n) i) (r : List UInt8) (k : Nat) (hk : k < s.length) : endsL ((s ++ (closeL n ++ r)).drop k) n = false := by
  cases he : endsL ((s ++ (closeL n ++ r)).drop k) n with
  | false => rfl
  | true =>
    exfalso
    obtain ⟨Y, b, t, hT, hY, hb⟩ := ends_parts he
    have hYl : Y.length = n.length := by rw [← hY, lowL_len]
    rw [List.drop_append_of_le_length (by omega)] at hT
    obtain ⟨R, hR⟩ : ∃ R, closeL n ++ r = 60 :: R := ⟨_, rfl⟩
    rw [hR] at hT
    have hm : (s.drop k).length = s.length - k := List.length_drop ..
    by_cases hlong : Y.length + 3 ≤ (s.drop k).length
    · obtain ⟨D, hD⟩ : ∃ D, s.drop k = (60 :: 47 :: (Y ++ [b])) ++ D := by
        have e : (s.drop k).take (Y.length + 3) = 60 :: 47 :: (Y ++ [b]) := by
          have := congrArg (List.take (Y.length + 3)) hT
          rw [List.take_append_of_le_length hlong] at this
          rw [this, show (60 :: 47 :: (Y ++ b :: t) : List UInt8) = (60 :: 47 :: (Y ++ [b])) ++ t by simp, List.take_left' (by simp)]
        exact ⟨(s.drop k).drop (Y.length + 3), by rw [← e, List.take_append_drop]⟩
      have hL : (lowL s).drop k = patL n ++ (lowB b :: lowL D) := by
        rw [lowL, ← List.map_drop, hD, patL, ← hY]
        simp [lowL]
        decide
      refine h k ⟨?_, lowB b, lowL D, ?_, by rw [stop_low]; exact hb⟩
      · rw [hL, List.isPrefixOf_iff_prefix]
        exact ⟨_, rfl⟩
      · rw [← List.drop_drop, hL, List.drop_left]
    · have h60 : (s.drop k ++ 60 :: R)[(s.drop k).length]? = some 60 := by simp
      rw [hT] at h60
      generalize (s.drop k).length = m at *
      obtain ⟨m, rfl⟩ : ∃ m', m = m' + 1 := ⟨m - 1, by omega⟩
      rw [List.getElem?_cons_succ] at h60
      cases m with
      | zero => simp at h60
      | succ m =>
        rw [List.getElem?_cons_succ] at h60
        by_cases hmY : m < Y.length
        · rw [List.getElem?_append_left hmY] at h60
          have hmem : (60 : UInt8) ∈ Y := List.mem_of_getElem? h60
          have : lowB 60 ∈ n := by rw [← hY, lowL]; exact List.mem_map.2 ⟨60, hmem, rfl⟩
          exact (nameI_low _ ((name_parts hn).2.2.2 _ this)).2.2.1 (by decide)
        · obtain rfl : m = Y.length := by omega
          rw [List.getElem?_append_right (Nat.le_refl _)] at h60
          simp at h60
          rw [h60] at hb
          revert hb
          decide
theorem untN_name {n : List UInt8} (hn : nameL n = true) (b : UInt8) (t : List UInt8) (hb : nameStops.contains b = true) : untN nameStops (n ++ b :: t) = n.length :=
  untN_eq nameStops _ _ (fun c hc => by
    rw [List.take_left] at hc
    rw [stopB_name]
    exact (nameI_low c ((name_parts hn).2.2.2 c hc)).2.1) ⟨b, t, by rw [List.drop_left], hb⟩
theorem close_tag {n : List UInt8} (hn : nameL n = true) (r : List UInt8) : tagL 2 ((closeL n ++ r).drop 2) = (⟨2, n, [], false, []⟩, n.length + 1) := by
  have e : (closeL n ++ r).drop 2 = n ++ 62 :: r := by simp [closeL]
  have hu := untN_name hn 62 r (by decide)
  rw [e, tagL, hu, List.take_left, List.drop_left, name_low hn]
  have hg : tagGo ((n ++ 62 :: r).length + 1) [] (62 :: r) n.length = some ([], false, n.length + 0 + 1) := by
    have hs : spN (62 :: r) = 0 := by rw [spN_cons]; rfl
    rw [tagGo, hs]
    simp [hasPrefix, List.isPrefixOf]
  rw [hg]
  rfl
/-- What was written to be read as it is is read so. -/
theorem raw_back {s n : List UInt8} (hn : nameL n = true) (h : ∀ i, ¬ closeAt (lowL s) (patL n) i) (r : List UInt8) :
    nextL (s ++ (closeL n ++ r)) 0 2 n false = if s = [] then (⟨2, n, [], false, []⟩, ((closeL n).length : Int)) else (charsT s, (s.length : Int)) := by
  have hen := endN_gen n (closeL n ++ r) (close_ends hn r) (close_ne n r) s (fun k hk => raw_no hn h r k hk)
  have hlen : 0 < (s ++ (closeL n ++ r)).length := by simp [closeL]; omega
  rw [nextL, if_neg (by omega)]
  rw [show ((0 : Int).toNat) = 0 from rfl, List.drop_zero, nextIn, if_neg (by decide), hen]
  by_cases hs : s = []
  · rw [hs, if_pos (show ([] : List UInt8).length = 0 from rfl), if_pos (show ([] : List UInt8) = [] from rfl), List.nil_append, close_tag hn]
    simp only [closeL, List.length_cons, List.length_append, List.length_nil]
    congr 1
    omega
  · have hp := List.length_pos_iff.mpr hs
    rw [if_neg (by omega), if_neg hs, if_neg (by decide), List.take_left]
    simp

end Go.Proofs.YthfkldheflmlmaaDoor
