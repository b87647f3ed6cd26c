/- utf.Clean: its law. -/
import Derived.Test.YthfkldheflmlmaaGreatDoorRefsAll
namespace Go.Proofs.YthfkldheflmlmaaGreatDoor
open Go.RowKit

def cleanF : Nat → List UInt8 → List UInt8
  | 0, _ => []
  | f + 1, l => if l = [] then [] else bytesL (firstI (mkS l)).1 ++ cleanF f (l.drop (firstI (mkS l)).2.toNat)
/-- A text with strangers for what is no character. -/
def cleanL (l : List UInt8) : List UInt8 := cleanF l.length l
theorem first_len (l : List UInt8) (h : l ≠ []) : 1 ≤ (firstI (mkS l)).2.toNat ∧ (firstI (mkS l)).2.toNat ≤ l.length := by
  have := firstI_pos (mkS l) (by rw [size_mkS]; exact List.length_pos_iff.mpr h)
  rw [size_mkS] at this
  omega
theorem cleanF_more : ∀ (f g : Nat) (l : List UInt8), l.length ≤ f → l.length ≤ g → cleanF f l = cleanF g l
  | 0, 0, _, _, _ => rfl
  | 0, g + 1, l, h, _ => by
    have : l = [] := List.length_eq_zero_iff.mp (by omega)
    rw [this]; simp [cleanF]
  | f + 1, 0, l, _, h => by
    have : l = [] := List.length_eq_zero_iff.mp (by omega)
    rw [this]; simp [cleanF]
  | f + 1, g + 1, l, h, h' => by
    unfold cleanF
    by_cases hl : l = []
    · rw [if_pos hl, if_pos hl]
    · have := first_len l hl
      rw [if_neg hl, if_neg hl, cleanF_more f g _ (by rw [List.length_drop]; omega) (by rw [List.length_drop]; omega)]
theorem cleanL_nil : cleanL [] = [] := rfl
theorem cleanL_step (l : List UInt8) (h : l ≠ []) : cleanL l = bytesL (firstI (mkS l)).1 ++ cleanL (l.drop (firstI (mkS l)).2.toNat) := by
  have hp := List.length_pos_iff.mpr h
  have ha := first_len l h
  obtain ⟨n, hn⟩ : ∃ n, l.length = n + 1 := ⟨l.length - 1, by omega⟩
  rw [cleanL, hn, cleanF, if_neg h, cleanL]
  rw [cleanF_more n _ _ (by rw [List.length_drop]; omega) (Nat.le_refl _)]
theorem atL_clean (l : List UInt8) (value : Bool) (h : l ≠ []) (hb : headIs l 38 = false) : atL l value = (bytesL (firstI (mkS l)).1, (firstI (mkS l)).2.toNat) := by
  cases l with
  | nil => exact absurd rfl h
  | cons b t =>
    rw [atL, if_pos]
    intro e
    simp [headIs, e] at hb
theorem all_clean : ∀ (n : Nat) (l : List UInt8) (value : Bool), l.length ≤ n → (38 : UInt8) ∉ l → allL l value = cleanL l
  | 0, l, value, hn, _ => by
    have : l = [] := List.length_eq_zero_iff.mp (by omega)
    rw [this]; rfl
  | n + 1, l, value, hn, h38 => by
    by_cases hl : l = []
    · rw [hl]; rfl
    · have hf := first_len l hl
      have hd : headIs l 38 = false := by
        cases l with
        | nil => exact absurd rfl hl
        | cons b t =>
          simp only [headIs]
          have hb : b ≠ 38 := fun e => h38 (by simp [e])
          simpa using fun e : b.toNat = 38 => hb (UInt8.toNat.inj (by simpa using e))
      rw [allL_step l value hl, cleanL_step l hl, atL_clean l value hl hd]
      rw [all_clean n _ value (by rw [List.length_drop]; omega) (fun hm => h38 (List.mem_of_mem_drop hm))]

theorem bI_mk (l : List UInt8) (i : Nat) : bI (mkS l) i = ((l.getD i 0).toNat : Int) := by rw [bI, of_mkS]
theorem bI_app (a c : List UInt8) (i : Nat) (h : i < a.length) : bI (mkS (a ++ c)) i = bI (mkS a) i := by
  rw [bI_mk, bI_mk, List.getD, List.getD, List.getElem?_append_left h]
theorem contsI_app (a c : List UInt8) : ∀ k, k < a.length → contsI (mkS (a ++ c)) k = contsI (mkS a) k
  | 0, _ => rfl
  | k + 1, h => by rw [contsI, contsI, contsI_app a c k (by omega), bI_app a c (k + 1) h]
theorem accI_app (a c : List UInt8) (n : Int) (h0 : 0 < a.length) : ∀ k, k < a.length → accI (mkS (a ++ c)) n k = accI (mkS a) n k
  | 0, _ => by rw [accI, accI, bI_app a c 0 h0]
  | k + 1, h => by rw [accI, accI, accI_app a c n h0 k (by omega), bI_app a c (k + 1) h]
theorem contsI_at (s : ByteArray) : ∀ k j, contsI s k = true → 1 ≤ j → j ≤ k → contI (bI s j) = true
  | 0, j, _, h1, h2 => by omega
  | k + 1, j, h, h1, h2 => by
    rw [contsI, Bool.and_eq_true] at h
    by_cases e : j = k + 1
    · rw [e]; exact h.2
    · exact contsI_at s k j h.1 h1 (by omega)
/-- A byte below 128 ends a character. -/
theorem first_app (a : List UInt8) (b : UInt8) (c : List UInt8) (ha : a ≠ []) (hb : b.toNat < 128) : firstI (mkS (a ++ b :: c)) = firstI (mkS a) := by
  have hp := List.length_pos_iff.mpr ha
  have hz1 : (mkS (a ++ b :: c)).size = a.length + (c.length + 1) := by rw [size_mkS, List.length_append, List.length_cons]
  have hz2 : (mkS a).size = a.length := size_mkS a
  unfold firstI
  rw [if_neg (show ¬ (mkS (a ++ b :: c)).size = 0 by omega), if_neg (show ¬ (mkS a).size = 0 by omega), bI_app a _ 0 hp]
  simp only
  generalize longI (bI (mkS a) 0) = n
  by_cases hn : n = 0 ∨ n > (mkS a).size
  · rw [if_pos hn]
    by_cases hn1 : n = 0 ∨ n > (mkS (a ++ b :: c)).size
    · rw [if_pos hn1]
    · rw [if_neg hn1, if_pos]
      cases hc : contsI (mkS (a ++ b :: c)) (n.toNat - 1) with
      | false => rfl
      | true =>
        have := contsI_at _ _ a.length hc hp (by omega)
        rw [bI_mk, List.getD, List.getElem?_append_right (Nat.le_refl _)] at this
        simp [contI] at this
        omega
  · by_cases hn0 : n < 0
    · have hn2 : ¬ (n = 0 ∨ n > (mkS (a ++ b :: c)).size) := by omega
      rw [if_neg hn2, if_neg hn]
      have e : n.toNat - 1 = 0 := by omega
      rw [e]
      simp only [contsI, accI_app a (b :: c) n hp 0 hp]
      rfl
    · rw [if_neg (by omega), if_neg hn, contsI_app a _ _ (by omega), accI_app a _ n hp _ (by omega)]
theorem clean_app : ∀ (n : Nat) (a : List UInt8) (b : UInt8) (c : List UInt8), a.length ≤ n → b.toNat < 128 → cleanL (a ++ b :: c) = cleanL a ++ cleanL (b :: c)
  | 0, a, b, c, h, hb => by
    have : a = [] := List.length_eq_zero_iff.mp (by omega)
    rw [this, List.nil_append, cleanL_nil, List.nil_append]
  | n + 1, a, b, c, h, hb => by
    by_cases ha : a = []
    · rw [ha, List.nil_append, cleanL_nil, List.nil_append]
    · have hf := first_len a ha
      rw [cleanL_step (a ++ b :: c) (by simp), cleanL_step a ha, first_app a b c ha hb, List.drop_append_of_le_length hf.2, clean_app n _ b c (by rw [List.length_drop]; omega) hb, List.append_assoc]
theorem clean_low (b : UInt8) (c : List UInt8) (hb : b.toNat < 128) : cleanL (b :: c) = b :: cleanL c := by
  have hf : firstI (mkS (b :: c)) = ((b.toNat : Int), 1) := by
    have h0 : bI (mkS (b :: c)) 0 = (b.toNat : Int) := by rw [bI_mk]; rfl
    have hl : longI (b.toNat : Int) = 1 := by rw [longI]; split <;> omega
    have hz : (mkS (b :: c)).size = c.length + 1 := by rw [size_mkS]; rfl
    unfold firstI
    rw [if_neg (by omega), h0, hl]
    simp only
    rw [if_neg (by omega)]
    have e : (1 : Int).toNat - 1 = 0 := rfl
    rw [e]
    have hi : isI (b.toNat : Int) = true := by simp [isI]; omega
    have h1 : headI 1 = 0 := by decide
    have h2 : leastI 1 = 0 := by decide
    simp [contsI, accI, h0, h1, h2, hi]
    omega
  have hb2 : bytesL (b.toNat : Int) = [b] := by
    have hi : isI (b.toNat : Int) = true := by simp [isI]; omega
    rw [bytesL, if_pos hi, charL, if_pos (by omega)]
    simp [byteL]
  rw [cleanL_step _ (by simp), hf, hb2]
  rfl

def strSize : Value → Nat
  | .string s => s.size
  | _ => 0

end Go.Proofs.YthfkldheflmlmaaGreatDoor
