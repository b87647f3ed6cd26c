/- The names of a text's tokens: plain facts. -/
import Derived.Test.YthfkldheflmlmaaDoorAllL
namespace Go.Proofs.YthfkldheflmlmaaDoor
open Go.RowKit

theorem lowB_idem (b : UInt8) : lowB (lowB b) = lowB b := by
  revert b
  have : ∀ n : Fin 256, lowB (lowB (UInt8.ofNat n.1)) = lowB (UInt8.ofNat n.1) := by decide +kernel
  intro b
  simpa using this ⟨b.toNat, b.toNat_lt⟩
theorem lowL_idem (l : List UInt8) : lowL (lowL l) = lowL l := by simp [lowL, lowB_idem]
def AttrsOK (B : Nat) (l : List AttrT) : Prop := (∀ a ∈ l, lowL a.1 = a.1 ∧ a.1 ≠ [] ∧ a.1.length ≤ B) ∧ l.Pairwise (fun a b => a.1 ≠ b.1)
def NameOK (B : Nat) (t : TokM) : Prop := (lowL t.name = t.name ∧ t.name.length ≤ B) ∧ (t.k = 2 → t.attrs = [] ∧ t.self = false) ∧ (2 < t.k → t.name = []) ∧ AttrsOK B t.attrs
theorem AttrsOK.nil (B : Nat) : AttrsOK B [] := ⟨(fun a h => by cases h), List.Pairwise.nil⟩
theorem lowL_len (l : List UInt8) : (lowL l).length = l.length := by simp [lowL]
theorem addL_ok {B : Nat} {l : List AttrT} {a : AttrT} (h : AttrsOK B l) (h1 : lowL a.1 = a.1) (h2 : a.1 ≠ []) (h3 : a.1.length ≤ B) : AttrsOK B (addL l a) := by
  rw [addL]
  split
  · exact h
  · rename_i hn
    refine ⟨fun b hb => ?_, ?_⟩
    · rcases List.mem_append.1 hb with hb | hb
      · exact h.1 b hb
      · rw [List.mem_singleton.1 hb]; exact ⟨h1, h2, h3⟩
    · refine List.pairwise_append.2 ⟨h.2, List.pairwise_singleton _ _, fun b hb c hc e => hn ?_⟩
      rw [List.mem_singleton.1 hc] at e
      exact List.any_eq_true.2 ⟨b, hb, by simpa using e⟩
theorem attrL_ok {l : List UInt8} (h : l.isEmpty = false) : lowL (attrL l).1.1 = (attrL l).1.1 ∧ (attrL l).1.1 ≠ [] ∧ (attrL l).1.1.length ≤ l.length := by
  have hz : ∀ k, (lowL (l.take (1 + k))).length ≤ l.length := fun k => by rw [lowL_len]; exact List.length_take_le' _ _
  have hn : ∀ k, lowL (l.take (1 + k)) ≠ [] := fun k e => by
    cases l with
    | nil => cases h
    | cons b t => rw [Nat.add_comm, List.take_succ_cons] at e; cases e
  rw [attrL]
  split
  · exact ⟨lowL_idem _, hn _, hz _⟩
  · exact ⟨lowL_idem _, hn _, hz _⟩
theorem tagGo_ok (B : Nat) (f : Nat) : ∀ (ats : List AttrT) (l : List UInt8) (p : Nat) (a : List AttrT) (b : Bool) (c : Nat), AttrsOK B ats → l.length ≤ B → tagGo f ats l p = some (a, b, c) → AttrsOK B a := by
  induction f with
  | zero => intro ats l p a b c _ _ h; cases h
  | succ f ih =>
    intro ats l p a b c h0 hB h
    have hd : ∀ k, (l.drop k).length ≤ B := fun k => by rw [List.length_drop]; omega
    rw [tagGo] at h
    split at h
    · cases h
    · rename_i he
      split at h
      · cases h; exact h0
      · split at h
        · cases h; exact h0
        · split at h
          · exact ih _ _ _ _ _ _ h0 (hd _) h
          · split at h
            · have := attrL_ok (l := l.drop (spN l)) (by simpa using he)
              exact ih _ _ _ _ _ _ (addL_ok h0 this.1 this.2.1 (Nat.le_trans this.2.2 (hd _))) (hd _) h
            · cases h
theorem zero_ok (B : Nat) : NameOK B zeroTok := ⟨⟨rfl, Nat.zero_le _⟩, (fun h => by cases h), fun _ => rfl, AttrsOK.nil B⟩
theorem chars_ok (B : Nat) (l : List UInt8) : NameOK B (charsT l) := ⟨⟨rfl, Nat.zero_le _⟩, (fun h => by cases h), fun _ => rfl, AttrsOK.nil B⟩
theorem note_ok (B : Nat) (l : List UInt8) : NameOK B (noteT l) := ⟨⟨rfl, Nat.zero_le _⟩, (fun h => by cases h), fun _ => rfl, AttrsOK.nil B⟩
theorem doc_ok (B : Nat) : NameOK B docT := ⟨⟨rfl, Nat.zero_le _⟩, (fun h => by cases h), fun _ => rfl, AttrsOK.nil B⟩
theorem tagL_ok (B : Nat) (kind : Int) (hk : kind ≤ 2) (l : List UInt8) (hB : l.length ≤ B) : NameOK B (tagL kind l).1 := by
  have hz : ∀ k, (lowL (l.take k)).length ≤ B := fun k => by rw [lowL_len]; exact Nat.le_trans (List.length_take_le' _ _) hB
  rw [tagL]
  cases hg : tagGo (l.length + 1) [] (l.drop (untN nameStops l)) (untN nameStops l) with
  | none => exact zero_ok B
  | some x =>
    obtain ⟨a, b, c⟩ := x
    simp only [tagRes]
    split
    · exact ⟨⟨lowL_idem _, hz _⟩, fun _ => ⟨rfl, rfl⟩, (fun h => by simp only at h; omega), AttrsOK.nil B⟩
    · rename_i hne
      exact ⟨⟨lowL_idem _, hz _⟩, fun h => absurd h hne, (fun h => by simp only at h; omega), tagGo_ok B _ _ _ _ _ _ _ (AttrsOK.nil B) (by rw [List.length_drop]; omega) hg⟩
theorem odd_ok (B : Nat) (l : List UInt8) : NameOK B (oddL l).1 := note_ok B _
theorem noteL_ok (B : Nat) (l : List UInt8) : NameOK B (noteL l).1 := by
  rw [noteL]
  split
  · exact note_ok B _
  · split
    · exact note_ok B _
    · split
      · exact note_ok B _
      · split
        · exact note_ok B _
        · exact note_ok B _
theorem bangL_ok (B : Nat) (cd : Bool) (l : List UInt8) : NameOK B (bangL cd l).1 := by
  rw [bangL]
  split
  · exact noteL_ok B _
  · split
    · exact doc_ok B
    · split
      · simp only
        split
        · exact zero_ok B
        · exact chars_ok B _
      · exact odd_ok B _
theorem markL_ok (B : Nat) (cd : Bool) (l : List UInt8) (hB : l.length ≤ B) : NameOK B (markL cd l).1 := by
  have hd : ∀ k, (l.drop k).length ≤ B := fun k => by rw [List.length_drop]; omega
  rw [markL]
  split
  · exact bangL_ok B _ _
  · split
    · exact odd_ok B _
    · split
      · exact tagL_ok B 1 (by decide) _ (hd _)
      · split
        · exact tagL_ok B 2 (by decide) _ (hd _)
        · split
          · exact zero_ok B
          · exact odd_ok B _
theorem dataGo_ok (B : Nat) (cd : Bool) (f : Nat) : ∀ (l : List UInt8) (p : Nat), l.length ≤ B → NameOK B (dataGo cd f l p).1 := by
  induction f with
  | zero => intro l p _; exact zero_ok B
  | succ f ih =>
    intro l p hB
    rw [dataGo]
    split
    · exact zero_ok B
    · split
      · exact chars_ok B _
      · split
        · exact ih _ _ (by rw [List.length_drop]; omega)
        · exact markL_ok B _ _ hB
theorem nextIn_ok (B : Nat) (l : List UInt8) (mk : Int) (last : List UInt8) (cd : Bool) (hB : l.length ≤ B) : NameOK B (nextIn l mk last cd).1 := by
  rw [nextIn]
  split
  · exact dataGo_ok B _ _ _ _ hB
  · split
    · exact tagL_ok B 2 (by decide) _ (by rw [List.length_drop]; omega)
    · exact chars_ok B _
theorem toksGo_ok (s : List UInt8) (f : Nat) : ∀ (p : Nat), ∀ t ∈ toksGo s f p, NameOK s.length t := by
  induction f with
  | zero => intro p t h; cases h
  | succ f ih =>
    intro p t h
    rw [toksGo] at h
    split at h
    · cases h
    · split at h
      · exact ih _ t h
      · rcases List.mem_cons.1 h with h | h
        · rw [h]; exact nextIn_ok _ _ _ _ _ (by rw [List.length_drop]; omega)
        · exact ih _ t h
theorem toksL_ok (s : List UInt8) : ∀ t ∈ toksL s, NameOK s.length t := toksGo_ok s _ _
/-- Each taken token takes a byte: so there are no more than bytes. -/
theorem toksGo_len (s : List UInt8) (f : Nat) : ∀ (p : Nat), (toksGo s f p).length ≤ s.length - p := by
  induction f with
  | zero => intro p; exact Nat.zero_le _
  | succ f ih =>
    intro p
    rw [toksGo]
    split
    · exact Nat.zero_le _
    · rename_i hp
      have h := nextIn_le (s.drop p) 0 [] false (by rw [List.length_drop]; omega)
      have h2 := ih (p + (nextIn (s.drop p) 0 [] false).2)
      split
      · omega
      · rw [List.length_cons]; omega
theorem toksL_len (s : List UInt8) : (toksL s).length ≤ s.length := toksGo_len s _ 0

end Go.Proofs.YthfkldheflmlmaaDoor
