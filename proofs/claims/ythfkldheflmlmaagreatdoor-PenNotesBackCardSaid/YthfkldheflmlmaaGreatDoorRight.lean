/- Right texts: characters and their bytes, plain facts. -/
import Derived.Test.YthfkldheflmlmaaGreatDoorCleanL
namespace Go.Proofs.YthfkldheflmlmaaGreatDoor
open Go.RowKit

/-- Does a text's first byte begin no character? -/
def strangeB (l : List UInt8) : Bool := (firstI (mkS l)).1 == 65533 && (firstI (mkS l)).2 == 1
def rightF : Nat → List UInt8 → Bool
  | 0, _ => true
  | f + 1, l => if l = [] then true else if strangeB l = true then false else rightF f (l.drop (firstI (mkS l)).2.toNat)
def rightL (l : List UInt8) : Bool := rightF l.length l
theorem rightF_more : ∀ (f g : Nat) (l : List UInt8), l.length ≤ f → l.length ≤ g → rightF f l = rightF g l
  | 0, 0, _, _, _ => rfl
  | 0, g + 1, l, h, _ => by
    have : l = [] := List.length_eq_zero_iff.mp (by omega)
    rw [this]; simp [rightF]
  | f + 1, 0, l, _, h => by
    have : l = [] := List.length_eq_zero_iff.mp (by omega)
    rw [this]; simp [rightF]
  | f + 1, g + 1, l, h, h' => by
    unfold rightF
    by_cases hl : l = []
    · rw [if_pos hl, if_pos hl]
    · have := first_len l hl
      rw [if_neg hl, if_neg hl, rightF_more f g _ (by rw [List.length_drop]; omega) (by rw [List.length_drop]; omega)]
theorem rightL_step (l : List UInt8) (h : l ≠ []) : rightL l = if strangeB l = true then false else rightL (l.drop (firstI (mkS l)).2.toNat) := by
  have hp := List.length_pos_iff.mpr h
  have ha := first_len l h
  obtain ⟨n, hn⟩ : ∃ n, l.length = n + 1 := ⟨l.length - 1, by omega⟩
  rw [rightL, hn, rightF, if_neg h, rightL]
  rw [rightF_more n _ _ (by rw [List.length_drop]; omega) (Nat.le_refl _)]

theorem byteL_of (b : UInt8) (x : Int) (h : x = (b.toNat : Int)) : byteL x = b := by
  subst h
  simp [byteL]
set_option maxRecDepth 10000 in
/-- What the first character of a text is, where its first byte is not strange. -/
theorem char_ok (l : List UInt8) (hl : l ≠ []) (h : strangeB l = false) :
    (∃ b t, l = b :: t ∧ b.toNat < 128 ∧ firstI (mkS l) = ((b.toNat : Int), 1) ∧ bytesL b.toNat = [b]) ∨
    (∃ b b1 t, l = b :: b1 :: t ∧ 194 ≤ b.toNat ∧ b.toNat < 224 ∧ 128 ≤ b1.toNat ∧ b1.toNat < 192 ∧ firstI (mkS l) = (((b.toNat : Int) - 192) * 64 + (b1.toNat : Int) % 64, 2) ∧ bytesL (((b.toNat : Int) - 192) * 64 + (b1.toNat : Int) % 64) = [b, b1] ∧ ∀ r, firstI (mkS (b :: b1 :: r)) = (((b.toNat : Int) - 192) * 64 + (b1.toNat : Int) % 64, 2)) ∨
    (∃ b b1 b2 t, l = b :: b1 :: b2 :: t ∧ 224 ≤ b.toNat ∧ 128 ≤ b1.toNat ∧ b1.toNat < 192 ∧ 128 ≤ b2.toNat ∧ b2.toNat < 192 ∧ ∃ c, firstI (mkS l) = (c, 3) ∧ bytesL c = [b, b1, b2] ∧ ∀ r, firstI (mkS (b :: b1 :: b2 :: r)) = (c, 3)) ∨
    (∃ b b1 b2 b3 t, l = b :: b1 :: b2 :: b3 :: t ∧ 240 ≤ b.toNat ∧ 128 ≤ b1.toNat ∧ b1.toNat < 192 ∧ 128 ≤ b2.toNat ∧ b2.toNat < 192 ∧ 128 ≤ b3.toNat ∧ b3.toNat < 192 ∧ ∃ c, firstI (mkS l) = (c, 4) ∧ bytesL c = [b, b1, b2, b3] ∧ ∀ r, firstI (mkS (b :: b1 :: b2 :: b3 :: r)) = (c, 4)) := by
  obtain ⟨b, t, rfl⟩ : ∃ b t, l = b :: t := by
    cases l with
    | nil => exact absurd rfl hl
    | cons b t => exact ⟨b, t, rfl⟩
  have hb := b.toNat_lt
  have h0 : ∀ r, bI (mkS (b :: r)) 0 = (b.toNat : Int) := fun r => by rw [bI_mk]; rfl
  have hz : ∀ r, (mkS (b :: r)).size = r.length + 1 := fun r => by rw [size_mkS]; rfl
  by_cases h1 : b.toNat < 128
  · left
    have hf := clean_low b t h1
    refine ⟨b, t, rfl, h1, ?_, ?_⟩
    · have hlong : longI (b.toNat : Int) = 1 := by rw [longI]; split <;> omega
      unfold firstI
      rw [if_neg (by rw [hz]; omega), h0, hlong]
      simp only
      rw [if_neg (by rw [hz]; omega)]
      have e : (1 : Int).toNat - 1 = 0 := rfl
      rw [e]
      have hi : isI (b.toNat : Int) = true := by simp [isI]; omega
      have e1 : headI 1 = 0 := by decide
      have e2 : leastI 1 = 0 := by decide
      simp [contsI, accI, h0, e1, e2, hi]
      omega
    · have hi : isI (b.toNat : Int) = true := by simp [isI]; omega
      rw [bytesL, if_pos hi, charL, if_pos (by omega)]
      simp [byteL]
  · right
    by_cases h2 : b.toNat < 192 ∨ 248 ≤ b.toNat
    · exfalso
      have hlong : longI (b.toNat : Int) = 0 := by rw [longI, if_neg (by omega), if_pos (by omega)]
      have : firstI (mkS (b :: t)) = (65533, 1) := by
        unfold firstI
        rw [if_neg (by rw [hz]; omega), h0, hlong]
        simp
      rw [strangeB, this] at h
      simp at h
    · by_cases h3 : b.toNat < 224
      · left
        have hlong : longI (b.toNat : Int) = 2 := by rw [longI, if_neg (by omega), if_neg (by omega), if_pos (by omega)]
        cases t with
        | nil =>
          exfalso
          have : firstI (mkS [b]) = (65533, 1) := by
            unfold firstI
            rw [if_neg (by rw [hz]; omega), h0, hlong]
            simp only
            rw [if_pos (by rw [hz]; simp)]
          rw [strangeB, this] at h
          simp at h
        | cons b1 t =>
          have hx1 : ∀ r, bI (mkS (b :: b1 :: r)) 1 = (b1.toNat : Int) := fun r => by rw [bI_mk]; rfl
          have hb1 := b1.toNat_lt
          have hf : ∀ r, firstI (mkS (b :: b1 :: r)) = if contI (b1.toNat : Int) = false then (65533, 1) else if isI (((b.toNat : Int) - 192) * 64 + (b1.toNat : Int) % 64) = false ∨ ((b.toNat : Int) - 192) * 64 + (b1.toNat : Int) % 64 < 128 then (65533, 1) else (((b.toNat : Int) - 192) * 64 + (b1.toNat : Int) % 64, 2) := fun r => by
            unfold firstI
            rw [if_neg (by rw [hz]; omega), h0, hlong]
            simp only
            rw [if_neg (by rw [hz]; simp; omega)]
            have e1 : headI 2 = 192 := by decide
            have e2 : leastI 2 = 128 := by decide
            simp [contsI, accI, hx1, h0, e1, e2]
          have hc : contI (b1.toNat : Int) = true := by
            cases hc : contI (b1.toNat : Int) with
            | true => rfl
            | false =>
              have := hf t
              rw [hc, if_pos rfl] at this
              rw [strangeB, this] at h
              simp at h
          have hc' : 128 ≤ b1.toNat ∧ b1.toNat < 192 := by simp [contI] at hc; omega
          by_cases hi : isI (((b.toNat : Int) - 192) * 64 + (b1.toNat : Int) % 64) = false ∨ ((b.toNat : Int) - 192) * 64 + (b1.toNat : Int) % 64 < 128
          · have := hf t
            rw [hc, if_neg (by simp), if_pos hi] at this
            rw [strangeB, this] at h
            simp at h
          · have hf' : ∀ r, firstI (mkS (b :: b1 :: r)) = (((b.toNat : Int) - 192) * 64 + (b1.toNat : Int) % 64, 2) := fun r => by rw [hf r, hc, if_neg (by simp), if_neg hi]
            have hi1 : isI (((b.toNat : Int) - 192) * 64 + (b1.toNat : Int) % 64) = true := by simpa using fun e => hi (.inl e)
            have hi2 : ¬ ((b.toNat : Int) - 192) * 64 + (b1.toNat : Int) % 64 < 128 := fun e => hi (.inr e)
            refine ⟨b, b1, t, rfl, by omega, h3, hc'.1, hc'.2, hf' t, ?_, hf'⟩
            rw [bytesL, if_pos hi1, charL, if_neg hi2, if_pos (by omega), byteL_of b _ (by omega), byteL_of b1 _ (by omega)]
      · right
        by_cases h4 : b.toNat < 240
        · left
          have hlong : longI (b.toNat : Int) = 3 := by rw [longI, if_neg (by omega), if_neg (by omega), if_neg (by omega), if_pos (by omega)]
          have hshort : ∀ r : List UInt8, r.length < 2 → firstI (mkS (b :: r)) = (65533, 1) := fun r hr => by
            unfold firstI
            rw [if_neg (by rw [hz]; omega), h0, hlong]
            simp only
            rw [if_pos (by rw [hz]; omega)]
          obtain ⟨b1, b2, t, rfl⟩ : ∃ b1 b2 t', t = b1 :: b2 :: t' := by
            match t, hshort with
            | [], hs => rw [strangeB, hs [] (by simp)] at h; simp at h
            | [x], hs => rw [strangeB, hs [x] (by simp)] at h; simp at h
            | x :: y :: z, _ => exact ⟨x, y, z, rfl⟩
          have hb1 := b1.toNat_lt
          have hb2 := b2.toNat_lt
          obtain ⟨c, hcdef⟩ : ∃ c : Int, c = (((b.toNat : Int) - 224) * 64 + (b1.toNat : Int) % 64) * 64 + (b2.toNat : Int) % 64 := ⟨_, rfl⟩
          have hf : ∀ r, firstI (mkS (b :: b1 :: b2 :: r)) = if (contI (b1.toNat : Int) && contI (b2.toNat : Int)) = false then (65533, 1) else if isI c = false ∨ c < 2048 then (65533, 1) else (c, 3) := fun r => by
            have hx1 : bI (mkS (b :: b1 :: b2 :: r)) 1 = (b1.toNat : Int) := by rw [bI_mk]; rfl
            have hx2 : bI (mkS (b :: b1 :: b2 :: r)) 2 = (b2.toNat : Int) := by rw [bI_mk]; rfl
            unfold firstI
            rw [if_neg (by rw [hz]; omega), h0, hlong]
            simp only
            rw [if_neg (by rw [hz]; simp; omega)]
            have e1 : headI 3 = 224 := by decide
            have e2 : leastI 3 = 2048 := by decide
            have e3 : contsI (mkS (b :: b1 :: b2 :: r)) ((3 : Int).toNat - 1) = (contI (b1.toNat : Int) && contI (b2.toNat : Int)) := by
              rw [show (3 : Int).toNat - 1 = 2 from rfl, contsI, contsI, contsI, hx1, hx2]
              rfl
            have e4 : accI (mkS (b :: b1 :: b2 :: r)) 3 ((3 : Int).toNat - 1) = c := by
              rw [show (3 : Int).toNat - 1 = 2 from rfl, accI, accI, accI, hx1, hx2, h0, e1, hcdef]
            simp only [e3, e4, e2]
          have hct : (contI (b1.toNat : Int) && contI (b2.toNat : Int)) = true := by
            cases hc : (contI (b1.toNat : Int) && contI (b2.toNat : Int)) with
            | true => rfl
            | false =>
              have := hf t
              rw [hc, if_pos rfl] at this
              rw [strangeB, this] at h
              simp at h
          have hct' : 128 ≤ b1.toNat ∧ b1.toNat < 192 ∧ 128 ≤ b2.toNat ∧ b2.toNat < 192 := by simp [contI] at hct; omega
          have hi : ¬ (isI c = false ∨ c < 2048) := fun hi => by
            have := hf t
            rw [hct, if_neg (by simp), if_pos hi] at this
            rw [strangeB, this] at h
            simp at h
          have hf' : ∀ r, firstI (mkS (b :: b1 :: b2 :: r)) = (c, 3) := fun r => by rw [hf r, hct, if_neg (by simp), if_neg hi]
          have hi1 : isI c = true := by simpa using fun e => hi (.inl e)
          have hi2 : ¬ c < 2048 := fun e => hi (.inr e)
          refine ⟨b, b1, b2, t, rfl, by omega, hct'.1, hct'.2.1, hct'.2.2.1, hct'.2.2.2, c, hf' t, ?_, hf'⟩
          rw [bytesL, if_pos hi1, charL, if_neg (by omega), if_neg hi2, if_pos (by omega), byteL_of b _ (by omega), byteL_of b1 _ (by omega), byteL_of b2 _ (by omega)]
        · right
          have hlong : longI (b.toNat : Int) = 4 := by rw [longI, if_neg (by omega), if_neg (by omega), if_neg (by omega), if_neg (by omega)]
          have hshort : ∀ r : List UInt8, r.length < 3 → firstI (mkS (b :: r)) = (65533, 1) := fun r hr => by
            unfold firstI
            rw [if_neg (by rw [hz]; omega), h0, hlong]
            simp only
            rw [if_pos (by rw [hz]; omega)]
          obtain ⟨b1, b2, b3, t, rfl⟩ : ∃ b1 b2 b3 t', t = b1 :: b2 :: b3 :: t' := by
            match t, hshort with
            | [], hs => rw [strangeB, hs [] (by simp)] at h; simp at h
            | [x], hs => rw [strangeB, hs [x] (by simp)] at h; simp at h
            | [x, y], hs => rw [strangeB, hs [x, y] (by simp)] at h; simp at h
            | x :: y :: z :: r, _ => exact ⟨x, y, z, r, rfl⟩
          have hb1 := b1.toNat_lt
          have hb2 := b2.toNat_lt
          have hb3 := b3.toNat_lt
          obtain ⟨c, hcdef⟩ : ∃ c : Int, c = ((((b.toNat : Int) - 240) * 64 + (b1.toNat : Int) % 64) * 64 + (b2.toNat : Int) % 64) * 64 + (b3.toNat : Int) % 64 := ⟨_, rfl⟩
          have hf : ∀ r, firstI (mkS (b :: b1 :: b2 :: b3 :: r)) = if ((contI (b1.toNat : Int) && contI (b2.toNat : Int)) && contI (b3.toNat : Int)) = false then (65533, 1) else if isI c = false ∨ c < 65536 then (65533, 1) else (c, 4) := fun r => by
            have hx1 : bI (mkS (b :: b1 :: b2 :: b3 :: r)) 1 = (b1.toNat : Int) := by rw [bI_mk]; rfl
            have hx2 : bI (mkS (b :: b1 :: b2 :: b3 :: r)) 2 = (b2.toNat : Int) := by rw [bI_mk]; rfl
            have hx3 : bI (mkS (b :: b1 :: b2 :: b3 :: r)) 3 = (b3.toNat : Int) := by rw [bI_mk]; rfl
            unfold firstI
            rw [if_neg (by rw [hz]; omega), h0, hlong]
            simp only
            rw [if_neg (by rw [hz]; simp; omega)]
            have e1 : headI 4 = 240 := by decide
            have e2 : leastI 4 = 65536 := by decide
            have e3 : contsI (mkS (b :: b1 :: b2 :: b3 :: r)) ((4 : Int).toNat - 1) = ((contI (b1.toNat : Int) && contI (b2.toNat : Int)) && contI (b3.toNat : Int)) := by
              rw [show (4 : Int).toNat - 1 = 3 from rfl, contsI, contsI, contsI, contsI, hx1, hx2, hx3]
              rfl
            have e4 : accI (mkS (b :: b1 :: b2 :: b3 :: r)) 4 ((4 : Int).toNat - 1) = c := by
              rw [show (4 : Int).toNat - 1 = 3 from rfl, accI, accI, accI, accI, hx1, hx2, hx3, h0, e1, hcdef]
            simp only [e3, e4, e2]
          have hct : ((contI (b1.toNat : Int) && contI (b2.toNat : Int)) && contI (b3.toNat : Int)) = true := by
            cases hc : ((contI (b1.toNat : Int) && contI (b2.toNat : Int)) && contI (b3.toNat : Int)) with
            | true => rfl
            | false =>
              have := hf t
              rw [hc, if_pos rfl] at this
              rw [strangeB, this] at h
              simp at h
          have hct' : 128 ≤ b1.toNat ∧ b1.toNat < 192 ∧ 128 ≤ b2.toNat ∧ b2.toNat < 192 ∧ 128 ≤ b3.toNat ∧ b3.toNat < 192 := by simp [contI] at hct; omega
          have hi : ¬ (isI c = false ∨ c < 65536) := fun hi => by
            have := hf t
            rw [hct, if_neg (by simp), if_pos hi] at this
            rw [strangeB, this] at h
            simp at h
          have hf' : ∀ r, firstI (mkS (b :: b1 :: b2 :: b3 :: r)) = (c, 4) := fun r => by rw [hf r, hct, if_neg (by simp), if_neg hi]
          have hi1 : isI c = true := by simpa using fun e => hi (.inl e)
          have hi2 : ¬ c < 65536 := fun e => hi (.inr e)
          refine ⟨b, b1, b2, b3, t, rfl, by omega, hct'.1, hct'.2.1, hct'.2.2.1, hct'.2.2.2.1, hct'.2.2.2.2.1, hct'.2.2.2.2.2, c, hf' t, ?_, hf'⟩
          rw [bytesL, if_pos hi1, charL, if_neg (by omega), if_neg (by omega), if_neg hi2, byteL_of b _ (by omega), byteL_of b1 _ (by omega), byteL_of b2 _ (by omega), byteL_of b3 _ (by omega)]

end Go.Proofs.YthfkldheflmlmaaGreatDoor
