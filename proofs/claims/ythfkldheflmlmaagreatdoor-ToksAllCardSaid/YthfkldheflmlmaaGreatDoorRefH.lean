/- Plain: the reference's references by number and by name are the program's. -/
import Derived.Test.YthfkldheflmlmaaGreatDoorRefsAll
namespace Go.Proofs.YthfkldheflmlmaaGreatDoor

/-- A digit's value; 99: it is none. -/
def rvalI (b : Int) : Int := if 48 ≤ b ∧ b ≤ 57 then b - 48 else if 97 ≤ b ∧ b ≤ 102 then b - 87 else if 65 ≤ b ∧ b ≤ 70 then b - 55 else 99
theorem rval_dig (b base : Int) (hb : base = 10 ∨ base = 16) : rvalI b < base ↔ 0 ≤ digI b base := by
  unfold rvalI digI digitI
  simp only [Bool.and_eq_true, decide_eq_true_eq]
  rcases hb with rfl | rfl <;> (repeat' split) <;> simp_all <;> omega
theorem rval_eq (b base : Int) (hb : base = 10 ∨ base = 16) (h : 0 ≤ digI b base) : rvalI b = digI b base := by
  unfold rvalI
  unfold digI digitI at *
  simp only [Bool.and_eq_true, decide_eq_true_eq] at *
  rcases hb with rfl | rfl <;> (repeat' split) <;> simp_all <;> omega
theorem rval_range (b : Int) : 0 ≤ rvalI b ∧ rvalI b ≤ 99 := by unfold rvalI; (repeat' split) <;> omega
def rcapI (x : Int) : Int := if 2000000 < x then 2000000 else x
/-- The value of the digits with which a list begins, and how many there are, as the reference has it. -/
def rdigsL (base : Int) : List UInt8 → Int → Int × Nat
  | [], v => (v, 0)
  | b :: t, v => if base ≤ rvalI b.toNat then (v, 0) else ((rdigsL base t (rcapI (v * base + rvalI b.toNat))).1, (rdigsL base t (rcapI (v * base + rvalI b.toNat))).2 + 1)
theorem rdigsL_range (base : Int) (hb : base = 10 ∨ base = 16) : ∀ (l : List UInt8) (v : Int), 0 ≤ v → v ≤ 2000000 → 0 ≤ (rdigsL base l v).1 ∧ (rdigsL base l v).1 ≤ 2000000
  | [], v, h0, h1 => ⟨h0, h1⟩
  | b :: t, v, h0, h1 => by
    unfold rdigsL
    split
    · exact ⟨h0, h1⟩
    · have hr := rval_range b.toNat
      have h2 : 0 ≤ v * base := Int.mul_nonneg h0 (by omega)
      have := rdigsL_range base hb t (rcapI (v * base + rvalI b.toNat)) (by unfold rcapI; split <;> omega) (by unfold rcapI; split <;> omega)
      exact this
theorem rdigsL_le (base : Int) : ∀ (l : List UInt8) (v : Int), (rdigsL base l v).2 ≤ l.length
  | [], _ => Nat.le_refl _
  | b :: t, v => by
    unfold rdigsL
    split
    · simp
    · have := rdigsL_le base t (rcapI (v * base + rvalI b.toNat))
      simp; omega
def agree (v u : Int) : Prop := v = u ∨ (1114112 ≤ v ∧ 1114112 ≤ u)
theorem agree_step {v u base d : Int} (hb : base = 10 ∨ base = 16) (hd : 0 ≤ d) (h : agree v u) : agree (rcapI (v * base + d)) (capI (u * base + d)) := by
  unfold agree rcapI capI at *
  rcases h with rfl | ⟨h1, h2⟩
  · rcases hb with rfl | rfl <;> split <;> omega
  · rcases hb with rfl | rfl <;> split <;> omega
theorem rdigs_agree (base : Int) (hb : base = 10 ∨ base = 16) : ∀ (l : List UInt8) (v u : Int), 0 ≤ v → agree v u → agree (rdigsL base l v).1 (digsL base l u).1 ∧ (rdigsL base l v).2 = (digsL base l u).2
  | [], v, u, _, h => ⟨h, rfl⟩
  | b :: t, v, u, h0, h => by
    unfold rdigsL digsL
    by_cases hd : 0 ≤ digI b.toNat base
    · have h1 := (rval_dig b.toNat base hb).2 hd
      have he := rval_eq b.toNat base hb hd
      rw [if_neg (by omega), if_neg (by omega), he]
      have h2 : 0 ≤ v * base := Int.mul_nonneg h0 (by omega)
      have ih := rdigs_agree base hb t (rcapI (v * base + digI b.toNat base)) (capI (u * base + digI b.toNat base)) (by unfold rcapI; split <;> omega) (agree_step hb hd h)
      exact ⟨ih.1, congrArg (· + 1) ih.2⟩
    · have h1 : ¬ rvalI b.toNat < base := fun h => hd ((rval_dig b.toNat base hb).1 h)
      rw [if_pos (by omega), if_pos (by omega)]
      exact ⟨h, rfl⟩
theorem isI_big {c : Int} (h : 1114112 ≤ c) : isI c = false := by
  rw [Bool.eq_false_iff]; simp only [isI, ne_eq, Bool.and_eq_true, decide_eq_true_eq]; omega
theorem number_agree {v u : Int} (h : agree v u) : numberI v = numberI u := by
  rcases h with rfl | ⟨h1, h2⟩
  · rfl
  · rw [numberI, numberI, if_pos (.inr (isI_big h1)), if_pos (.inr (isI_big h2))]
theorem rdigs_number (base : Int) (hb : base = 10 ∨ base = 16) (l : List UInt8) : numberI (rdigsL base l 0).1 = numberI (digsL base l 0).1 ∧ (rdigsL base l 0).2 = (digsL base l 0).2 :=
  have h := rdigs_agree base hb l 0 0 (Int.le_refl _) (.inl rfl)
  ⟨number_agree h.1, h.2⟩

/-- The character of a name; 0: it is none. -/
def charN (w : List UInt8) : Int := match refsTab.find? (·.1 == w) with | some r => r.2.1 | none => 0
def looseN (w : List UInt8) : Bool := match refsTab.find? (·.1 == w) with | some r => r.2.2 | none => false
theorem charN_tab : ∀ r ∈ refsTab, charN r.1 = r.2.1 ∧ looseN r.1 = r.2.2 ∧ r.2.1 ≠ 0 ∧ isI r.2.1 = true ∧ 1 ≤ r.1.length ∧ r.1.length ≤ 6 ∧ r.1.getD (r.1.length - 1) 0 ≠ 59 := by decide +kernel
theorem charN_some {w : List UInt8} (h : charN w ≠ 0) : ∃ r ∈ refsTab, r.1 = w ∧ charN w = r.2.1 := by
  unfold charN at *
  cases hf : refsTab.find? (·.1 == w) with
  | none => rw [hf] at h; exact absurd rfl h
  | some r =>
    have h1 := List.find?_some hf
    exact ⟨r, List.mem_of_find?_eq_some hf, by simpa using h1, rfl⟩
theorem looseN_some {w : List UInt8} (h : looseN w = true) : ∃ r ∈ refsTab, r.1 = w ∧ charN w = r.2.1 ∧ r.2.2 = true := by
  unfold looseN at h
  unfold charN
  cases hf : refsTab.find? (·.1 == w) with
  | none => rw [hf] at h; cases h
  | some r =>
    rw [hf] at h
    have h1 := List.find?_some hf
    exact ⟨r, List.mem_of_find?_eq_some hf, by simpa using h1, rfl, h⟩
/-- How many bytes a name has here; 0: it is not here. -/
def szR (l : List UInt8) (value : Bool) (r : List UInt8 × Int × Bool) : Nat :=
  if Lib.hasPrefix l r.1 = false then 0 else if headIs (l.drop r.1.length) 59 then r.1.length + 1
  else if (!r.2.2 || (value && keptB (l.drop r.1.length))) = true then 0 else r.1.length
theorem refStep_sz (l : List UInt8) (value : Bool) (acc : Int × Nat) (r : List UInt8 × Int × Bool) : refStep l value acc r = if acc.2 < szR l value r then (r.2.1, szR l value r) else acc := by
  unfold refStep szR
  split
  · simp
  split
  · rfl
  split
  · simp
  · rfl
theorem fold_sz (l : List UInt8) (value : Bool) (rs : List (List UInt8 × Int × Bool)) (acc : Int × Nat) :
    (∀ r ∈ rs, szR l value r ≤ (rs.foldl (refStep l value) acc).2) ∧ acc.2 ≤ (rs.foldl (refStep l value) acc).2 ∧ (rs.foldl (refStep l value) acc = acc ∨ ∃ r ∈ rs, 0 < szR l value r ∧ rs.foldl (refStep l value) acc = (r.2.1, szR l value r)) := by
  induction rs generalizing acc with
  | nil => exact ⟨(fun _ h => by cases h), Nat.le_refl _, .inl rfl⟩
  | cons r rs ih =>
    rw [List.foldl_cons]
    obtain ⟨h1, h2, h3⟩ := ih (refStep l value acc r)
    rw [refStep_sz] at *
    refine ⟨?_, ?_, ?_⟩
    · intro q hq
      rcases List.mem_cons.1 hq with rfl | hq
      · refine Nat.le_trans ?_ h2
        split
        · exact Nat.le_refl _
        · omega
      · exact h1 q hq
    · refine Nat.le_trans ?_ h2
      split
      · show acc.2 ≤ szR l value r
        omega
      · exact Nat.le_refl _
    · rcases h3 with h3 | ⟨q, hq, hq0, hq1⟩
      · by_cases h : acc.2 < szR l value r
        · rw [if_pos h] at h3
          exact .inr ⟨r, .head _, by omega, by rw [if_pos h]; exact h3⟩
        · rw [if_neg h] at h3
          exact .inl (by rw [if_neg h]; exact h3)
      · exact .inr ⟨q, .tail _ hq, hq0, hq1⟩
/-- The character of the reference of n bytes, as the reference has it. -/
def rcand (l : List UInt8) (value : Bool) (n : Nat) : Option Int :=
  if l.length < n then none
  else if (l.getD (n - 1) 0 == 59 && charN (l.take (n - 1)) != 0) = true then some (charN (l.take (n - 1)))
  else if (looseN (l.take n) && !(value && keptB (l.drop n))) = true then some (charN (l.take n)) else none
def rnam (l : List UInt8) (value : Bool) : Nat → Int × Nat
  | 0 => (0, 0)
  | n + 1 => match rcand l value (n + 1) with | some c => (c, n + 1) | none => rnam l value n
theorem pre_take {l p : List UInt8} (h : Lib.hasPrefix l p = true) : l.take p.length = p ∧ p.length ≤ l.length := by
  have h1 := List.isPrefixOf_iff_prefix.1 h
  exact ⟨(List.prefix_iff_eq_take.1 h1).symm, h1.length_le⟩
theorem take_pre {l p : List UInt8} (h : l.take p.length = p) : Lib.hasPrefix l p = true := List.isPrefixOf_iff_prefix.2 (h ▸ List.take_prefix _ _)
theorem headIs_get (l : List UInt8) (n : Nat) (h : n < l.length) : headIs (l.drop n) 59 = (l.getD n 0 == 59) := by
  rw [List.drop_eq_getElem_cons h, headIs, List.getD, List.getElem?_eq_getElem h, Bool.eq_iff_iff, beq_iff_eq, beq_iff_eq, Option.getD_some, ← UInt8.toNat_inj]
  rfl
theorem headIs_none (l : List UInt8) (n : Nat) (h : l.length ≤ n) : headIs (l.drop n) 59 = false := by
  rw [List.drop_eq_nil_of_le h]; rfl
theorem cand_of_sz (l : List UInt8) (value : Bool) (r : List UInt8 × Int × Bool) (hr : r ∈ refsTab) (h : 0 < szR l value r) : rcand l value (szR l value r) = some r.2.1 := by
  obtain ⟨e1, e2, e3, e4, e5, e6, e7⟩ := charN_tab r hr
  unfold szR at *
  cases hp : Lib.hasPrefix l r.1 with
  | false => rw [hp] at h; simp at h
  | true =>
    obtain ⟨p1, p2⟩ := pre_take hp
    rw [if_neg (by simp)]
    rw [hp, if_neg (by simp)] at h
    by_cases h9 : headIs (l.drop r.1.length) 59 = true
    · rw [if_pos h9]
      have hlen : r.1.length < l.length := by
        apply Nat.lt_of_not_le; intro hh; rw [headIs_none _ _ hh] at h9; cases h9
      rw [headIs_get _ _ hlen] at h9
      rw [rcand, if_neg (by omega), Nat.add_sub_cancel, p1, e1, if_pos (by rw [h9]; simpa using e3)]
    · rw [if_neg h9] at h ⊢
      by_cases hk : (!r.2.2 || (value && keptB (l.drop r.1.length))) = true
      · rw [if_pos hk] at h; omega
      · rw [if_neg hk]
        have hg : l.getD (r.1.length - 1) 0 = r.1.getD (r.1.length - 1) 0 := by
          have := congrArg (fun x : List UInt8 => x.getD (r.1.length - 1) 0) p1
          simp only [List.getD] at this
          rw [List.getElem?_take_of_lt (by omega)] at this
          exact this
        have h59 : (l.getD (r.1.length - 1) 0 == 59) = false := by rw [hg]; simpa using e7
        rw [rcand, if_neg (by omega), if_neg (by rw [h59]; simp), p1, e1, e2, if_pos]
        simp only [Bool.not_eq_true, Bool.or_eq_false_iff, Bool.not_eq_false'] at hk
        simp [hk.1, hk.2]
theorem sz_of_cand (l : List UInt8) (value : Bool) (n : Nat) (hn : 1 ≤ n) (c : Int) (h : rcand l value n = some c) : ∃ r ∈ refsTab, n ≤ szR l value r ∧ c = r.2.1 := by
  unfold rcand at h
  split at h
  · cases h
  rename_i hl
  split at h
  · rename_i h1
    rw [Bool.and_eq_true] at h1
    obtain ⟨r, hr, hw, hc⟩ := charN_some (by simpa using h1.2)
    refine ⟨r, hr, ?_, by rw [← hc]; exact (Option.some.inj h).symm⟩
    have hlen : r.1.length = n - 1 := by rw [hw, List.length_take]; omega
    have hp : Lib.hasPrefix l r.1 = true := take_pre (by rw [hlen, hw])
    unfold szR
    rw [if_neg (by rw [hp]; simp), hlen, if_pos (by rw [headIs_get _ _ (by omega)]; exact h1.1)]
    omega
  split at h
  · rename_i h2
    rw [Bool.and_eq_true] at h2
    obtain ⟨r, hr, hw, hc, hl2⟩ := looseN_some h2.1
    refine ⟨r, hr, ?_, by rw [← hc]; exact (Option.some.inj h).symm⟩
    have hlen : r.1.length = n := by rw [hw, List.length_take]; omega
    have hp : Lib.hasPrefix l r.1 = true := take_pre (by rw [hlen, hw])
    unfold szR
    rw [if_neg (by rw [hp]; simp), hlen]
    split
    · omega
    · rw [if_neg (by have h3 := h2.2; rw [hl2]; intro hh; simp at hh h3; simp [hh] at h3)]
      omega
  · cases h
theorem rnam_spec (l : List UInt8) (value : Bool) : ∀ n, ((rnam l value n).2 = 0 → (rnam l value n).1 = 0) ∧ (0 < (rnam l value n).2 → rcand l value (rnam l value n).2 = some (rnam l value n).1) ∧ ∀ m, (rnam l value n).2 < m → m ≤ n → rcand l value m = none
  | 0 => ⟨fun _ => rfl, (fun h => by cases h), fun m h1 h2 => by simp only [rnam] at h1; omega⟩
  | n + 1 => by
    unfold rnam
    cases hc : rcand l value (n + 1) with
    | some c => exact ⟨fun h => by simp at h, fun _ => hc, fun m h1 h2 => by simp only at h1; omega⟩
    | none =>
      obtain ⟨i1, i2, i3⟩ := rnam_spec l value n
      refine ⟨i1, i2, fun m h1 h2 => ?_⟩
      rcases Nat.lt_or_ge n m with h | h
      · obtain rfl : m = n + 1 := by omega
        exact hc
      · exact i3 m h1 h
theorem rnam_le (l : List UInt8) (value : Bool) : ∀ n, (rnam l value n).2 ≤ n
  | 0 => Nat.le_refl _
  | n + 1 => by
    unfold rnam
    split
    · exact Nat.le_refl _
    · have := rnam_le l value n; omega
theorem szR_le (l : List UInt8) (value : Bool) (r : List UInt8 × Int × Bool) (hr : r ∈ refsTab) : szR l value r ≤ 7 := by
  have := (charN_tab r hr).2.2.2.2.2.1
  unfold szR
  (repeat' split) <;> omega
theorem rnam_eq (l : List UInt8) (value : Bool) : rnam l value 7 = namL l value := by
  obtain ⟨s1, s2, s3⟩ := rnam_spec l value 7
  have hle := rnam_le l value 7
  obtain ⟨f1, -, f3⟩ := fold_sz l value refsTab (0, 0)
  rw [show refsTab.foldl (refStep l value) (0, 0) = namL l value from rfl] at f1 f3
  have up : (rnam l value 7).2 ≤ (namL l value).2 := by
    rcases Nat.eq_zero_or_pos (rnam l value 7).2 with h | h
    · omega
    · obtain ⟨r, hr, h1, -⟩ := sz_of_cand l value _ h _ (s2 h)
      have := f1 r hr
      omega
  rcases f3 with f3 | ⟨r, hr, h0, f3⟩
  · rw [f3] at up ⊢
    have h0 : (rnam l value 7).2 = 0 := by simpa using up
    exact Prod.ext (s1 h0) h0
  · have hc := cand_of_sz l value r hr h0
    have h7 := szR_le l value r hr
    have hge : szR l value r ≤ (rnam l value 7).2 := by
      apply Nat.le_of_not_lt
      intro hlt
      rw [s3 _ hlt h7] at hc
      cases hc
    rw [f3] at up ⊢
    have he : (rnam l value 7).2 = szR l value r := by simp only at up; omega
    have := s2 (by omega)
    rw [he, hc] at this
    exact Prod.ext (Option.some.inj this).symm he

end Go.Proofs.YthfkldheflmlmaaGreatDoor
