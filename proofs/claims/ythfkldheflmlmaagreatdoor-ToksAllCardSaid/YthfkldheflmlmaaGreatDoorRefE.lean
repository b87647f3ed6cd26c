/- Plain: the first character of a text, by the bytes that it has when it is written. -/
import Derived.Test.YthfkldheflmlmaaGreatDoorRefD
namespace Go.Proofs.YthfkldheflmlmaaGreatDoor
open Go.Lib

theorem bI_mkR (l : List UInt8) (i : Nat) : bI (mkS l) i = ((l.getD i 0).toNat : Int) := by rw [bI, of_mkS]
theorem first_lowR (b : UInt8) (t : List UInt8) (h : b.toNat < 128) : firstI (mkS (b :: t)) = ((b.toNat : Int), 1) ∧ bytesL (b.toNat : Int) = [b] := by
  have hlong : longI (b.toNat : Int) = 1 := by rw [longI]; split <;> omega
  have h0 : bI (mkS (b :: t)) 0 = (b.toNat : Int) := by rw [bI_mkR]; rfl
  have hz : (mkS (b :: t)).size = t.length + 1 := by rw [size_mkS]; rfl
  have hi : isI (b.toNat : Int) = true := by simp [isI]; omega
  refine ⟨?_, ?_⟩
  · unfold firstI
    rw [if_neg (by omega), h0, hlong]
    simp only
    rw [if_neg (by omega)]
    have e : (1 : Int).toNat - 1 = 0 := rfl
    rw [e]
    have e1 : headI 1 = 0 := by decide
    have e2 : leastI 1 = 0 := by decide
    simp [contsI, accI, h0, e1, e2, hi]
    omega
  · rw [bytesL, if_pos hi, charL, if_pos (by omega)]
    simp [byteL]
def tI (t : List UInt8) (k : Nat) : Int := ((t.getD k 0).toNat : Int)
def lowT (t : List UInt8) (k : Nat) : Int := if k < t.length ∧ 128 ≤ tI t k ∧ tI t k ≤ 191 then tI t k - 128 else -1
def candC (b x y z : Int) : Int :=
  if b < 128 then b else if 192 ≤ b ∧ b < 224 ∧ 0 ≤ x then 64 * (b - 192) + x
  else if 224 ≤ b ∧ b < 240 ∧ 0 ≤ x ∧ 0 ≤ y then 4096 * (b - 224) + 64 * x + y
  else if 240 ≤ b ∧ b < 248 ∧ 0 ≤ x ∧ 0 ≤ y ∧ 0 ≤ z then 262144 * (b - 240) + 4096 * x + 64 * y + z else -1
def candL (b : UInt8) (t : List UInt8) : Int := candC b.toNat (lowT t 0) (lowT t 1) (lowT t 2)
theorem tI_range (t : List UInt8) (k : Nat) : 0 ≤ tI t k ∧ tI t k ≤ 255 := by
  have := (t.getD k 0).toNat_lt
  unfold tI
  omega
theorem byteL_tI (t : List UInt8) (k : Nat) (h : k < t.length) {x : Int} (hx : x = tI t k) : byteL x = t[k] := by
  subst hx
  rw [tI, byteL, Int.toNat_natCast, UInt8.ofNat_toNat, List.getD, List.getElem?_eq_getElem h]
  rfl
theorem byteL_ofB {b : UInt8} {x : Int} (hx : x = b.toNat) : byteL x = b := by subst hx; simp [byteL]
theorem prefix_head {b x : UInt8} {t m : List UInt8} (h : hasPrefix (b :: t) (x :: m) = true) : x = b := by
  simp only [hasPrefix, List.isPrefixOf, Bool.and_eq_true, beq_iff_eq] at h
  exact h.1
theorem byteL_inj {b : UInt8} {x : Int} (h : byteL x = b) (h0 : 0 ≤ x) (h1 : x ≤ 255) : x = b.toNat := by
  rw [← h]; exact (byteL_id h0 h1).symm
theorem first_n (b : UInt8) (t : List UInt8) (n : Nat) (hn : longI b.toNat = n) (h1 : 1 ≤ n) : firstI (mkS (b :: t)) =
    if n ≤ t.length + 1 ∧ contsI (mkS (b :: t)) (n - 1) = true ∧ isI (accI (mkS (b :: t)) n (n - 1)) = true ∧ leastI n ≤ accI (mkS (b :: t)) n (n - 1) then (accI (mkS (b :: t)) n (n - 1), (n : Int)) else (65533, 1) := by
  have hz : (mkS (b :: t)).size = t.length + 1 := by rw [size_mkS]; rfl
  have h0 : bI (mkS (b :: t)) 0 = (b.toNat : Int) := by rw [bI_mkR]; rfl
  unfold firstI
  rw [if_neg (by omega), h0, hn]
  simp only
  rw [Int.toNat_natCast]
  by_cases c1 : n ≤ t.length + 1
  · rw [if_neg (by omega)]
    cases c2 : contsI (mkS (b :: t)) (n - 1) with
    | false => rw [if_pos rfl, if_neg (by simp)]
    | true =>
      rw [if_neg (by simp)]
      by_cases c3 : isI (accI (mkS (b :: t)) n (n - 1)) = true
      · by_cases c4 : accI (mkS (b :: t)) n (n - 1) < leastI n
        · rw [if_pos (.inr c4), if_neg (by omega)]
        · rw [if_neg (by rw [c3]; simp; omega), if_pos ⟨c1, rfl, c3, by omega⟩]
      · rw [if_pos (.inl (by simpa using c3)), if_neg (fun h => c3 h.2.2.1)]
  · rw [if_pos (by omega), if_neg (fun h => c1 h.1)]
theorem first_none (b : UInt8) (t : List UInt8) (hn : longI b.toNat = 0) : firstI (mkS (b :: t)) = (65533, 1) := by
  have hz : (mkS (b :: t)).size = t.length + 1 := by rw [size_mkS]; rfl
  have h0 : bI (mkS (b :: t)) 0 = (b.toNat : Int) := by rw [bI_mkR]; rfl
  unfold firstI
  rw [if_neg (by omega), h0, hn]
  simp
theorem bI_tI (b : UInt8) (t : List UInt8) (k : Nat) : bI (mkS (b :: t)) (k + 1) = tI t k := by rw [bI_mkR]; rfl
theorem bI_b (b : UInt8) (t : List UInt8) : bI (mkS (b :: t)) 0 = b.toNat := by rw [bI_mkR]; rfl
theorem contI_of {x : Int} (h : contI x = true) : 128 ≤ x ∧ x ≤ 191 := by
  simp only [contI, Bool.and_eq_true, decide_eq_true_eq] at h; omega
theorem contI_mk {x : Int} (h : 128 ≤ x ∧ x ≤ 191) : contI x = true := by
  simp only [contI, Bool.and_eq_true, decide_eq_true_eq]; omega
theorem lowT_yes {t : List UInt8} {k : Nat} (h : k < t.length) (h1 : contI (tI t k) = true) : lowT t k = tI t k - 128 := by
  have := contI_of h1
  rw [lowT, if_pos ⟨h, by omega, by omega⟩]
theorem lowT_no {t : List UInt8} {k : Nat} (h : 0 ≤ lowT t k) : k < t.length ∧ contI (tI t k) = true ∧ lowT t k = tI t k - 128 := by
  by_cases hh : k < t.length ∧ 128 ≤ tI t k ∧ tI t k ≤ 191
  · exact ⟨hh.1, contI_mk ⟨hh.2.1, hh.2.2⟩, by rw [lowT, if_pos hh]⟩
  · rw [lowT, if_neg hh] at h; omega
theorem pre3 (b : UInt8) (t : List UInt8) (h0 : 0 < t.length) (h1 : 1 < t.length) : hasPrefix (b :: t) [b, t[0], t[1]] = true := by
  match t, h0, h1 with
  | x :: y :: t, _, _ => simp [hasPrefix, List.isPrefixOf]
theorem pre4 (b : UInt8) (t : List UInt8) (h0 : 0 < t.length) (h1 : 1 < t.length) (h2 : 2 < t.length) : hasPrefix (b :: t) [b, t[0], t[1], t[2]] = true := by
  match t, h0, h1, h2 with
  | x :: y :: z :: t, _, _, _ => simp [hasPrefix, List.isPrefixOf]
theorem isI_neg : isI (-1) = false := rfl
theorem first_cand (b : UInt8) (t : List UInt8) : firstI (mkS (b :: t)) =
    if (isI (candL b t) && hasPrefix (b :: t) (charL (candL b t))) = true then (candL b t, ((charL (candL b t)).length : Int)) else (65533, 1) := by
  have hb := b.toNat_lt
  have hm : ∀ x : Int, x % 64 = x - 64 * (x / 64) := fun x => by omega
  by_cases h1 : b.toNat < 128
  · obtain ⟨e1, e2⟩ := first_lowR b t h1
    have hc : candL b t = b.toNat := by rw [candL, candC, if_pos (by omega)]
    have hi : isI (b.toNat : Int) = true := by simp [isI]; omega
    have hch : charL (b.toNat : Int) = [b] := by rw [← e2, bytesL, if_pos hi]
    rw [e1, hc, hi, hch, if_pos (by simp [hasPrefix, List.isPrefixOf])]
    rfl
  by_cases h2 : b.toNat < 192 ∨ 248 ≤ b.toNat
  · have hl : longI b.toNat = 0 := by rw [longI, if_neg (by omega), if_pos (by omega)]
    have hc : candL b t = -1 := by rw [candL, candC, if_neg (by omega), if_neg (by omega), if_neg (by omega), if_neg (by omega)]
    rw [first_none b t hl, hc, isI_neg]
    rfl
  by_cases h3 : b.toNat < 224
  · have hl : longI b.toNat = (2 : Nat) := by rw [longI, if_neg (by omega), if_neg (by omega), if_pos (by omega)]; rfl
    rw [first_n b t 2 hl (by omega)]
    have e1 : contsI (mkS (b :: t)) (2 - 1) = contI (tI t 0) := by rw [show (2 - 1 : Nat) = 0 + 1 from rfl, contsI, contsI, bI_tI, Bool.true_and]
    have e2 : accI (mkS (b :: t)) (2 : Nat) (2 - 1) = (b.toNat - 192) * 64 + tI t 0 % 64 := by
      rw [show (2 - 1 : Nat) = 0 + 1 from rfl, accI, accI, bI_tI, bI_b]; rfl
    have e3 : leastI (2 : Nat) = 128 := rfl
    rw [e1, e2, e3]
    by_cases hx : 0 ≤ lowT t 0
    · obtain ⟨k0, k1, k2⟩ := lowT_no hx
      have k3 := contI_of k1
      have hc : candL b t = 64 * (b.toNat - 192) + (tI t 0 - 128) := by rw [candL, candC, if_neg (by omega), if_pos (by omega), k2]
      have hacc : ((b.toNat : Int) - 192) * 64 + tI t 0 % 64 = 64 * (b.toNat - 192) + (tI t 0 - 128) := by omega
      rw [hacc, hc]
      generalize hC : 64 * ((b.toNat : Int) - 192) + (tI t 0 - 128) = C
      have hi : isI C = true := by simp [isI]; omega
      rw [hi, Bool.true_and]
      by_cases h4 : 128 ≤ C
      · have hch : charL C = [b, t[0]] := by
          rw [charL, if_neg (by omega), if_pos (by omega), byteL_ofB (b := b) (by omega), byteL_tI t 0 k0 (by omega)]
        have hp : hasPrefix (b :: t) (charL C) = true := by
          rw [hch, hasPrefix, List.isPrefixOf_iff_prefix, List.prefix_iff_eq_take]
          cases t with | nil => cases k0 | cons x t => rfl
        rw [if_pos ⟨by omega, k1, rfl, h4⟩, if_pos hp, hch]
        rfl
      · have hp : ¬ hasPrefix (b :: t) (charL C) = true := by
          rw [charL, if_pos (by omega)]
          intro h
          have := byteL_inj (prefix_head h) (by omega) (by omega)
          omega
        rw [if_neg (by omega), if_neg hp]
    · have hc : candL b t = -1 := by rw [candL, candC, if_neg (by omega), if_neg (by omega), if_neg (by omega), if_neg (by omega)]
      rw [hc, isI_neg, if_neg (fun h => hx (by have := contI_of h.2.1; rw [lowT_yes (by omega) h.2.1]; omega))]
      rfl
  by_cases h4 : b.toNat < 240
  · have hl : longI b.toNat = (3 : Nat) := by rw [longI, if_neg (by omega), if_neg (by omega), if_neg (by omega), if_pos (by omega)]; rfl
    rw [first_n b t 3 hl (by omega)]
    have e1 : contsI (mkS (b :: t)) (3 - 1) = (contI (tI t 0) && contI (tI t 1)) := by rw [show (3 - 1 : Nat) = 0 + 1 + 1 from rfl, contsI, contsI, contsI, bI_tI, bI_tI, Bool.true_and]
    have e2 : accI (mkS (b :: t)) (3 : Nat) (3 - 1) = ((b.toNat - 224) * 64 + tI t 0 % 64) * 64 + tI t 1 % 64 := by
      rw [show (3 - 1 : Nat) = 0 + 1 + 1 from rfl, accI, accI, accI, bI_tI, bI_tI, bI_b]; rfl
    have e3 : leastI (3 : Nat) = 2048 := rfl
    rw [e1, e2, e3]
    by_cases hx : 0 ≤ lowT t 0 ∧ 0 ≤ lowT t 1
    · obtain ⟨k0, k1, k2⟩ := lowT_no hx.1
      obtain ⟨j0, j1, j2⟩ := lowT_no hx.2
      have k3 := contI_of k1
      have j3 := contI_of j1
      have hc : candL b t = 4096 * (b.toNat - 224) + 64 * (tI t 0 - 128) + (tI t 1 - 128) := by rw [candL, candC, if_neg (by omega), if_neg (by omega), if_pos (by omega), k2, j2]
      have hacc : (((b.toNat : Int) - 224) * 64 + tI t 0 % 64) * 64 + tI t 1 % 64 = 4096 * (b.toNat - 224) + 64 * (tI t 0 - 128) + (tI t 1 - 128) := by omega
      rw [hacc, hc]
      generalize hC : 4096 * ((b.toNat : Int) - 224) + 64 * (tI t 0 - 128) + (tI t 1 - 128) = C
      rw [show (contI (tI t 0) && contI (tI t 1)) = true by rw [k1, j1]; rfl]
      cases hi : isI C with
      | false => rw [if_neg (by simp), if_neg (by simp)]
      | true =>
        rw [Bool.true_and]
        by_cases h5 : 2048 ≤ C
        · have hch : charL C = [b, t[0], t[1]] := by
            rw [charL, if_neg (by omega), if_neg (by omega), if_pos (by omega), byteL_ofB (b := b) (by omega), byteL_tI t 0 k0 (by omega), byteL_tI t 1 j0 (by omega)]
          have hp : hasPrefix (b :: t) (charL C) = true := by
            rw [hch]; exact pre3 b t k0 j0
          rw [if_pos ⟨by omega, rfl, rfl, h5⟩, if_pos hp, hch]
          rfl
        · have hp : ¬ hasPrefix (b :: t) (charL C) = true := by
            intro h
            rw [charL] at h
            split at h
            · have := byteL_inj (prefix_head h) (by omega) (by omega)
              omega
            · rw [if_pos (by omega)] at h
              have := byteL_inj (prefix_head h) (by omega) (by omega)
              omega
          rw [if_neg (by omega), if_neg hp]
    · have hc : candL b t = -1 := by rw [candL, candC, if_neg (by omega), if_neg (by omega), if_neg (by omega), if_neg (by omega)]
      rw [hc, isI_neg, if_neg (fun h => hx (by
        have h2 := h.2.1
        rw [Bool.and_eq_true] at h2
        have c1 := contI_of h2.1
        have c2 := contI_of h2.2
        rw [lowT_yes (by omega) h2.1, lowT_yes (by omega) h2.2]; omega))]
      rfl
  · have hl : longI b.toNat = (4 : Nat) := by rw [longI, if_neg (by omega), if_neg (by omega), if_neg (by omega), if_neg (by omega)]; rfl
    rw [first_n b t 4 hl (by omega)]
    have e1 : contsI (mkS (b :: t)) (4 - 1) = (contI (tI t 0) && contI (tI t 1) && contI (tI t 2)) := by rw [show (4 - 1 : Nat) = 0 + 1 + 1 + 1 from rfl, contsI, contsI, contsI, contsI, bI_tI, bI_tI, bI_tI, Bool.true_and]
    have e2 : accI (mkS (b :: t)) (4 : Nat) (4 - 1) = (((b.toNat - 240) * 64 + tI t 0 % 64) * 64 + tI t 1 % 64) * 64 + tI t 2 % 64 := by
      rw [show (4 - 1 : Nat) = 0 + 1 + 1 + 1 from rfl, accI, accI, accI, accI, bI_tI, bI_tI, bI_tI, bI_b]; rfl
    have e3 : leastI (4 : Nat) = 65536 := rfl
    rw [e1, e2, e3]
    by_cases hx : 0 ≤ lowT t 0 ∧ 0 ≤ lowT t 1 ∧ 0 ≤ lowT t 2
    · obtain ⟨k0, k1, k2⟩ := lowT_no hx.1
      obtain ⟨j0, j1, j2⟩ := lowT_no hx.2.1
      obtain ⟨i0, i1, i2⟩ := lowT_no hx.2.2
      have k3 := contI_of k1
      have j3 := contI_of j1
      have i3 := contI_of i1
      have hc : candL b t = 262144 * (b.toNat - 240) + 4096 * (tI t 0 - 128) + 64 * (tI t 1 - 128) + (tI t 2 - 128) := by rw [candL, candC, if_neg (by omega), if_neg (by omega), if_neg (by omega), if_pos (by omega), k2, j2, i2]
      have hacc : ((((b.toNat : Int) - 240) * 64 + tI t 0 % 64) * 64 + tI t 1 % 64) * 64 + tI t 2 % 64 = 262144 * (b.toNat - 240) + 4096 * (tI t 0 - 128) + 64 * (tI t 1 - 128) + (tI t 2 - 128) := by omega
      rw [hacc, hc]
      generalize hC : 262144 * ((b.toNat : Int) - 240) + 4096 * (tI t 0 - 128) + 64 * (tI t 1 - 128) + (tI t 2 - 128) = C
      rw [show (contI (tI t 0) && contI (tI t 1) && contI (tI t 2)) = true by rw [k1, j1, i1]; rfl]
      cases hi : isI C with
      | false => rw [if_neg (by simp), if_neg (by simp)]
      | true =>
        rw [Bool.true_and]
        by_cases h5 : 65536 ≤ C
        · have hch : charL C = [b, t[0], t[1], t[2]] := by
            rw [charL, if_neg (by omega), if_neg (by omega), if_neg (by omega), byteL_ofB (b := b) (by omega), byteL_tI t 0 k0 (by omega), byteL_tI t 1 j0 (by omega), byteL_tI t 2 i0 (by omega)]
          have hp : hasPrefix (b :: t) (charL C) = true := by
            rw [hch]; exact pre4 b t k0 j0 i0
          rw [if_pos ⟨by omega, rfl, rfl, h5⟩, if_pos hp, hch]
          rfl
        · have hp : ¬ hasPrefix (b :: t) (charL C) = true := by
            intro h
            rw [charL] at h
            split at h
            · have := byteL_inj (prefix_head h) (by omega) (by omega)
              omega
            · split at h
              · have := byteL_inj (prefix_head h) (by omega) (by omega)
                omega
              · rw [if_pos (by omega)] at h
                have := byteL_inj (prefix_head h) (by omega) (by omega)
                omega
          rw [if_neg (by omega), if_neg hp]
    · have hc : candL b t = -1 := by rw [candL, candC, if_neg (by omega), if_neg (by omega), if_neg (by omega), if_neg (by omega)]
      rw [hc, isI_neg, if_neg (fun h => hx (by
        have h2 := h.2.1
        rw [Bool.and_eq_true, Bool.and_eq_true] at h2
        have c1 := contI_of h2.1.1
        have c2 := contI_of h2.1.2
        have c3 := contI_of h2.2
        rw [lowT_yes (by omega) h2.1.1, lowT_yes (by omega) h2.1.2, lowT_yes (by omega) h2.2]; omega))]
      rfl

end Go.Proofs.YthfkldheflmlmaaGreatDoor
