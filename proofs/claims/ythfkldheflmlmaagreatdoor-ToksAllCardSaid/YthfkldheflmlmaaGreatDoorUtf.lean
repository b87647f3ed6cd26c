/- Walks of package utf. -/
import Derived.Test.YthfkldheflmlmaaGreatDoorChars
import Derived.WideLaws
import Derived.Laws.MakeOwn
import Derived.Handy
namespace Go.Proofs.YthfkldheflmlmaaGreatDoor
open Go.RowKit Go.Lib

/-- The byte at a place; 0 beyond the end. -/
def bI (s : ByteArray) (i : Nat) : Int := ((s.data.toList.getD i 0).toNat : Int)
theorem bI_at (s : ByteArray) (i : Nat) : ∀ h : i < s.size, ((s[i]'h).toNat : Int) = bI s i := fun h => by
  have : i < s.data.size := h
  simp [bI, List.getD, ByteArray.getElem_eq_getElem_data, Array.getElem?_eq_getElem this]
theorem bI_range (s : ByteArray) (i : Nat) : 0 ≤ bI s i ∧ bI s i ≤ 255 := by
  unfold bI
  have := (s.data.toList.getD i 0).toNat_lt
  omega

def longI (b : Int) : Int := if b < 128 then 1 else if b < 192 ∨ b ≥ 248 then 0 else if b < 224 then 2 else if b < 240 then 3 else 4
def isI (c : Int) : Bool := decide (0 ≤ c) && (decide (c < 1114112) && (decide (c < 55296) || decide (c > 57343)))
def headI (n : Int) : Int := if n = 2 then 192 else if n = 3 then 224 else if n = 4 then 240 else 0
def leastI (n : Int) : Int := if n = 2 then 128 else if n = 3 then 2048 else if n = 4 then 65536 else 0
def sizeI (c : Int) : Int := if c < 128 then 1 else if c < 2048 then 2 else if c < 65536 then 3 else 4

/-- The table of utf. -/
def rowsTab : List Int := [0, 0, 0, 0, 192, 128, 224, 2048, 240, 65536]
def UtfTab (w : World) : Prop := ∀ j, j < 10 → w.cell? ⟨0, j, none⟩ = some (.int .i64 (rowsTab.getD j 0))
theorem UtfTab.below {w w' : World} (h : UtfTab w) (hb : Below w.heap.size w w') : UtfTab w' := fun j hj =>
  (hb.cell (World.block_lt_of_cell? w _ (h j hj))).trans (h j hj)

set_option maxHeartbeats 400000 in
theorem long_calls (w : World) (b : Int) :
    Calls Tryz.prog 98 #[.int .u8 b] w fun e w' => e = .returned (.int .i64 (longI b)) ∧ w = w' := by
  unfold longI
  go_enter Tryz.func98, Tryz.ntmps98
  by_cases h1 : b < 128
  · go_wp2; go_ret; exact ⟨by simp, rfl⟩
  by_cases h2 : b < 192
  · go_wp2; go_ret; exact ⟨by simp, rfl⟩
  by_cases h3 : b ≥ 248
  · go_wp2; go_ret; exact ⟨by simp, rfl⟩
  by_cases h4 : b < 224
  · go_wp2; go_ret; exact ⟨by simp, rfl⟩
  by_cases h5 : b < 240
  · go_wp2; go_ret; exact ⟨by simp, rfl⟩
  · go_wp2; go_ret; exact ⟨by simp, rfl⟩

set_option maxHeartbeats 400000 in
theorem is_calls (w : World) (c : Int) :
    Calls Tryz.prog 96 #[.int .i64 c] w fun e w' => e = .returned (.bool (isI c)) ∧ w = w' := by
  unfold isI
  go_enter Tryz.func96, Tryz.ntmps96
  by_cases h1 : 0 ≤ c
  · by_cases h2 : c < 1114112
    · by_cases h3 : c < 55296
      · go_wp2; go_ret; exact ⟨by simp [*], rfl⟩
      · go_wp2; go_ret; exact ⟨by simp [*] <;> omega, rfl⟩
    · go_wp2; go_ret; exact ⟨by simp [*] <;> omega, rfl⟩
  · go_wp2; go_ret; exact ⟨by simp [*] <;> omega, rfl⟩

set_option maxHeartbeats 400000 in
theorem size_calls (w : World) (c : Int) (ht : UtfTab w) (h0 : 0 ≤ c) :
    Calls Tryz.prog 97 #[.int .i64 c] w fun e w' => e = .returned (.int .i64 (sizeI c)) ∧ w = w' := by
  have t3 : w.cell? ⟨0, 3, none⟩ = some (.int .i64 0) := ht 3 (by omega)
  have t5 : w.cell? ⟨0, 5, none⟩ = some (.int .i64 128) := ht 5 (by omega)
  have t7 : w.cell? ⟨0, 7, none⟩ = some (.int .i64 2048) := ht 7 (by omega)
  have t9 : w.cell? ⟨0, 9, none⟩ = some (.int .i64 65536) := ht 9 (by omega)
  clear ht
  unfold sizeI
  go_enter Tryz.func97, Tryz.ntmps97
  go_wp2
  go_loop [3] (fun n => ∃ k : Nat, 1 ≤ k ∧ k ≤ 4 ∧ n = .int .i64 k ∧ (k < 4 → c < 65536) ∧ (k < 3 → c < 2048) ∧ (k < 2 → c < 128)) (fun n => (intOf n).toNat)
  case atStart => exact ⟨4, by omega, by omega, rfl, by omega, by omega, by omega⟩
  case round =>
    obtain ⟨k, hk1, hk4, rfl, g4, g3, g2⟩ := hrel
    obtain rfl | rfl | rfl | rfl : k = 1 ∨ k = 2 ∨ k = 3 ∨ k = 4 := by omega
    · go_wp2; go_ret; exact ⟨by simp, rfl⟩
    · by_cases h : c < 128
      · go_wp2; go_round
        case rel => exact ⟨1, by omega, by omega, rfl, by omega, by omega, by omega⟩
        case measure => simp [intOf]
      · go_wp2; go_ret; exact ⟨by simp, rfl⟩
    · by_cases h : c < 2048
      · go_wp2; go_round
        case rel => exact ⟨2, by omega, by omega, rfl, by omega, by omega, by omega⟩
        case measure => simp [intOf]
      · have h' : ¬ c < 128 := by omega
        go_wp2; go_ret; exact ⟨by simp, rfl⟩
    · by_cases h : c < 65536
      · go_wp2; go_round
        case rel => exact ⟨3, by omega, by omega, rfl, by omega, by omega, by omega⟩
        case measure => simp [intOf]
      · have h' : ¬ c < 128 := by omega
        have h2 : ¬ c < 2048 := by omega
        go_wp2; go_ret; exact ⟨by simp, rfl⟩

/-- What of a character is read behind its first byte and k more. -/
def accI (s : ByteArray) (n : Int) : Nat → Int
  | 0 => bI s 0 - headI n
  | k + 1 => accI s n k * 64 + bI s (k + 1) % 64
def contI (b : Int) : Bool := decide (128 ≤ b) && decide (b < 192)
def contsI (s : ByteArray) : Nat → Bool
  | 0 => true
  | k + 1 => contsI s k && contI (bI s (k + 1))
/-- The first character, and how many bytes it has. -/
def firstI (s : ByteArray) : Int × Int :=
  if s.size = 0 then (0, 0) else
  let n := longI (bI s 0)
  if n = 0 ∨ n > s.size then (65533, 1) else
  if contsI s (n.toNat - 1) = false then (65533, 1) else
  let c := accI s n (n.toNat - 1)
  if isI c = false ∨ c < leastI n then (65533, 1) else (c, n)

theorem long_head {b : Int} {k : Nat} (h : longI b = k) (h0 : 0 ≤ b) (h1 : b ≤ 255) (hk : k ≠ 0) : 0 ≤ b - headI k ∧ b - headI k < 128 := by
  unfold longI at h
  unfold headI
  split at h
  · obtain rfl : k = 1 := by omega
    simp; omega
  split at h
  · omega
  split at h
  · obtain rfl : k = 2 := by omega
    simp; omega
  split at h
  · obtain rfl : k = 3 := by omega
    simp; omega
  · obtain rfl : k = 4 := by omega
    simp; omega
theorem accI_range (s : ByteArray) (n : Int) (h0 : 0 ≤ bI s 0 - headI n) (h1 : bI s 0 - headI n < 128) : ∀ j : Nat, 0 ≤ accI s n j ∧ accI s n j < 128 * 64 ^ j
  | 0 => by simp [accI]; omega
  | j + 1 => by
    have := accI_range s n h0 h1 j
    have e : (64 : Int) ^ (j + 1) = 64 ^ j * 64 := Int.pow_succ ..
    simp only [accI]
    omega
theorem contsI_false (s : ByteArray) {j : Nat} (h : contsI s j = false) : ∀ d, contsI s (j + d) = false
  | 0 => h
  | d + 1 => by show (contsI s (j + d) && _) = false; rw [contsI_false s h d]; rfl
theorem and192 (b : Int) (h0 : 0 ≤ b) (h1 : b ≤ 255) : (bits .and .u8 b 192 != 128) = !contI b := by
  obtain ⟨m, rfl⟩ := Int.eq_ofNat_of_zero_le h0
  have : ∀ m : Fin 256, (bits .and .u8 ((m.val : Nat) : Int) 192 != 128) = !contI (m.val : Nat) := by decide +kernel
  exact this ⟨m, by omega⟩
theorem ofInt_i64 (a : Nat) (ha : a < 9223372036854775808) : (BitVec.ofInt 64 (a : Int)).toNat = a := by
  rw [BitVec.ofInt_natCast, BitVec.toNat_ofNat]; exact Nat.mod_eq_of_lt (by omega)
theorem i64_or_nat (a b : Nat) (ha : a < 9223372036854775808) (hb : b < 9223372036854775808) : bits .or .i64 (a : Int) (b : Int) = ((a ||| b : Nat) : Int) := by
  have hx : a ||| b < 2 ^ 63 := Nat.or_lt_two_pow (by omega) (by omega)
  show IntKind.i64.wrap ((BitVec.ofInt 64 (a : Int) ||| BitVec.ofInt 64 (b : Int)).toNat : Int) = _
  rw [BitVec.toNat_or, ofInt_i64 a ha, ofInt_i64 b hb, IntKind.wrap_i64]
  omega
theorem or_join6 (c y : Int) (h0 : 0 ≤ c) (h1 : c < 100000000) (h2 : 0 ≤ y) (h3 : y < 64) : bits .or .i64 (c * 64) y = c * 64 + y := by
  obtain ⟨m, rfl⟩ := Int.eq_ofNat_of_zero_le h0
  obtain ⟨n, rfl⟩ := Int.eq_ofNat_of_zero_le h2
  have e : ((m : Int) * 64) = ((m * 64 : Nat) : Int) := by omega
  rw [e, i64_or_nat _ _ (by omega) (by omega), nat_join6 _ _ (by omega) (by omega)]
  omega
theorem contI_true {b : Int} (h : 128 ≤ b) (h' : b < 192) : contI b = true := by simp [contI, h, h']
theorem contI_false {b : Int} (h : ¬ (128 ≤ b ∧ b < 192)) : contI b = false := by simp [contI]; omega

set_option maxRecDepth 100000 in
set_option maxHeartbeats 1000000 in
theorem first_calls (w : World) (s : ByteArray) (ht : UtfTab w) (hs : s.size ≤ 1000000000) :
    Calls Tryz.prog 74 #[.string s] w fun e w' => e = .returned (.tuple #[.int .i64 (firstI s).1, .int .i64 (firstI s).2]) ∧ ∃ n, w' = w.drewN n := by
  have hbt := bI_at s
  by_cases h0 : s.size = 0
  · have he : firstI s = (0, 0) := by simp [firstI, h0]
    rw [he]
    have hl : s.toList = [] := by
      rw [ByteArray.toList_eq]; exact List.length_eq_zero_iff.mp (Array.length_toList.trans h0)
    have HE := Lib.hid h0
    clear he h0 hbt
    go_enter Tryz.func74, Tryz.ntmps74
    go_wp2
    go_ret2
    exact ⟨rfl, 0, rfl⟩
  have hl : (s.toList == []) = false := by
    rw [ByteArray.toList_eq]; simpa using fun h => h0 (by show s.data.size = 0; rw [h]; rfl)
  have hl2 : (s.toList.isEmpty) = false := by simpa using hl
  have hsz : 0 < s.size := by omega
  have hr := bI_range s 0
  have hn : 0 ≤ longI (bI s 0) ∧ longI (bI s 0) ≤ 4 := by unfold longI; split <;> (try split) <;> (try split) <;> (try split) <;> omega
  have he : firstI s = if longI (bI s 0) = 0 ∨ longI (bI s 0) > s.size then (65533, 1) else
      if contsI s ((longI (bI s 0)).toNat - 1) = false then (65533, 1) else
      if isI (accI s (longI (bI s 0)) ((longI (bI s 0)).toNat - 1)) = false ∨ accI s (longI (bI s 0)) ((longI (bI s 0)).toNat - 1) < leastI (longI (bI s 0)) then (65533, 1) else (accI s (longI (bI s 0)) ((longI (bI s 0)).toNat - 1), longI (bI s 0)) := by
    rw [firstI, if_neg h0]
  obtain ⟨k, hk⟩ := Int.eq_ofNat_of_zero_le hn.1
  rw [hk, Int.toNat_natCast] at he
  rw [hk] at hn
  have hl0 : ∀ w, Calls Tryz.prog 98 #[.int .u8 (bI s 0)] w fun e w' => e = .returned (.int .i64 k) ∧ w = w' := fun w => hk ▸ long_calls w (bI s 0)
  have hlh := fun h => long_head hk hr.1 hr.2 h
  have LC := Lib.hid hl0
  clear hl0 hk h0
  by_cases hz : k = 0
  · subst hz
    rw [if_pos (.inl rfl)] at he
    rw [he]
    clear he ht
    go_enter Tryz.func74, Tryz.ntmps74
    go_wp2_with (go_at_call 98; refine (LC.out _).mono ?_; rintro e w1 ⟨rfl, rfl⟩)
    go_ret2
    exact ⟨rfl, 0, rfl⟩
  have hk1 : ((k : Int) == 0) = false := by simp; omega
  by_cases hgt : s.size < k
  · rw [if_pos (.inr (by omega))] at he
    rw [he]
    clear he ht
    go_enter Tryz.func74, Tryz.ntmps74
    go_wp2_with (go_at_call 98; refine (LC.out _).mono ?_; rintro e w1 ⟨rfl, rfl⟩)
    go_ret2
    exact ⟨rfl, 0, rfl⟩
  rw [if_neg (by omega)] at he
  have hle : k ≤ s.size := by omega
  have hk4 : k ≤ 4 := by omega
  have hth : w.cell? ⟨0, k * 2, none⟩ = some (.int .i64 (headI k)) := by
    obtain rfl | rfl | rfl | rfl : k = 1 ∨ k = 2 ∨ k = 3 ∨ k = 4 := by omega
    all_goals exact ht _ (by omega)
  have htl : w.cell? ⟨0, k * 2 + 1, none⟩ = some (.int .i64 (leastI k)) := by
    obtain rfl | rfl | rfl | rfl : k = 1 ∨ k = 2 ∨ k = 3 ∨ k = 4 := by omega
    all_goals exact ht _ (by omega)
  have hh : 0 ≤ headI k ∧ headI k ≤ 240 := by unfold headI; split <;> (try split) <;> (try split) <;> omega
  obtain ⟨hc0, hc1⟩ := hlh hz
  have HA := Lib.hid (accI_range s k hc0 hc1)
  have HE := Lib.hid he
  clear he ht hlh
  go_enter Tryz.func74, Tryz.ntmps74
  go_wp2_with (go_at_call 98; refine (LC.out _).mono ?_; rintro e w1 ⟨rfl, rfl⟩)
  go_quiet (fail)
  go_wp2
  go_loop [5, 6] (fun c i => ∃ j : Nat, j + 1 ≤ k ∧ c = .int .i64 (accI s k j) ∧ i = .int .i64 ((j : Int) + 1) ∧ Hid (contsI s j = true)) (fun _ i => k - (intOf i).toNat)
  case atStart => exact ⟨0, by omega, rfl, by go_num, rfl⟩
  case round =>
    obtain ⟨j, hj, rfl, rfl, HC⟩ := hrel
    have hb := bI_range s (j + 1)
    have ha := HA.out j
    have hp : (64 : Int) ^ j ≤ 262144 := by
      obtain rfl | rfl | rfl | rfl : j = 0 ∨ j = 1 ∨ j = 2 ∨ j = 3 := by omega
      all_goals decide
    have hlt : accI s k j < 128 * 262144 := by omega
    obtain ⟨ha0, _⟩ := ha
    clear hp
    generalize hac : accI s k j = c at *
    have HAC := Lib.hid hac
    clear hac
    by_cases hjk : j + 1 < k
    · have hand := and192 _ hb.1 hb.2
      have hor := or_join6 c (bI s (j + 1) % 64) ha0 (by omega) (by omega) (by omega)
      by_cases hct : contI (bI s (j + 1)) = true
      · rw [hct] at hand
        have HT := Lib.hid hct
        clear hct
        go_wp2
        go_round
        case rel => exact ⟨j + 1, by omega, by rw [accI, HAC.out], by go_num, by unfold Hid; rw [contsI, HC.out, HT.out]; rfl⟩
        case measure => simp [intOf]; omega
      · have hct' : contI (bI s (j + 1)) = false := by simpa using hct
        rw [hct'] at hand
        have HT := Lib.hid hct'
        clear hct hct'
        have hr' : firstI s = (65533, 1) := by
          rw [HE.out, if_pos]
          obtain ⟨d, rfl⟩ : ∃ d, k = j + 1 + d + 1 := ⟨k - j - 2, by omega⟩
          exact contsI_false s (j := j + 1) (by show (contsI s j && _) = false; rw [HT.out]; simp) d
        have HR := Lib.hid hr'
        clear hr'
        go_wp2
        go_ret2
        exact ⟨by rw [HR.out]; rfl, _, rfl⟩
    · have ek : j = k - 1 := by omega
      have HE2 : Hid (firstI s = if isI c = false ∨ c < leastI k then (65533, 1) else (c, (k : Int))) := by
        unfold Hid
        rw [HE.out, if_neg, ← ek, HAC.out]
        rw [← ek, HC.out]; simp
      clear ek
      have IC := Lib.hid (is_calls · c)
      cases hic : isI c with
      | false =>
        have hr' : firstI s = (65533, 1) := by rw [HE2.out, if_pos (.inl hic)]
        have HR := Lib.hid hr'
        have HI := Lib.hid hic
        clear hr' hic
        go_wp2_with (go_at_call 96; refine (IC.out _).mono ?_; rintro e w1 ⟨rfl, rfl⟩; rw [HI.out])
        go_ret2
        exact ⟨by rw [HR.out]; rfl, _, rfl⟩
      | true =>
        have HI := Lib.hid hic
        clear hic
        by_cases hls : c < leastI k
        · have hr' : firstI s = (65533, 1) := by rw [HE2.out, if_pos (.inr hls)]
          have HR := Lib.hid hr'
          clear hr'
          go_wp2_with (go_at_call 96; refine (IC.out _).mono ?_; rintro e w1 ⟨rfl, rfl⟩; rw [HI.out])
          go_ret2
          exact ⟨by rw [HR.out]; rfl, _, rfl⟩
        · have hr' : firstI s = (c, (k : Int)) := by rw [HE2.out, if_neg (by rw [HI.out]; simp; omega)]
          have HR := Lib.hid hr'
          clear hr'
          go_wp2_with (go_at_call 96; refine (IC.out _).mono ?_; rintro e w1 ⟨rfl, rfl⟩; rw [HI.out])
          go_ret2
          exact ⟨by rw [HR.out]; rfl, _, rfl⟩

def byteL (c : Int) : UInt8 := UInt8.ofNat c.toNat
theorem byteL_nat (c : Int) : ((byteL c).toNat : Int) = ((c.toNat % 256 : Nat) : Int) := by simp [byteL]
/-- The bytes of a character. -/
def charL (c : Int) : List UInt8 :=
  if c < 128 then [byteL c]
  else if c < 2048 then [byteL (192 + c / 64), byteL (128 + c % 64)]
  else if c < 65536 then [byteL (224 + c / 4096), byteL (128 + c / 64 % 64), byteL (128 + c % 64)]
  else [byteL (240 + c / 262144), byteL (128 + c / 4096 % 64), byteL (128 + c / 64 % 64), byteL (128 + c % 64)]
def bytesL (c : Int) : List UInt8 := if isI c = true then charL c else charL 65533

theorem i64_and_nat (a b : Nat) (ha : a < 9223372036854775808) (hb : b < 9223372036854775808) : bits .and .i64 (a : Int) (b : Int) = ((a &&& b : Nat) : Int) := by
  have hx : a &&& b < 2 ^ 63 := Nat.and_lt_two_pow _ (by omega)
  show IntKind.i64.wrap ((BitVec.ofInt 64 (a : Int) &&& BitVec.ofInt 64 (b : Int)).toNat : Int) = _
  rw [BitVec.toNat_and, ofInt_i64 a ha, ofInt_i64 b hb, IntKind.wrap_i64]
  omega
theorem and63 (c : Int) (h0 : 0 ≤ c) (h1 : c < 9000000000000000000) : bits .and .i64 c 63 = c % 64 := by
  obtain ⟨m, rfl⟩ := Int.eq_ofNat_of_zero_le h0
  rw [show (63 : Int) = ((63 : Nat) : Int) from rfl, i64_and_nat _ _ (by omega) (by omega), show (63 : Nat) = 2 ^ 6 - 1 from rfl, Nat.and_two_pow_sub_one_eq_mod]
  rfl
theorem or128 (c : Int) (h0 : 0 ≤ c) (h1 : c < 64) : bits .or .i64 128 c = 128 + c := by
  obtain ⟨m, rfl⟩ := Int.eq_ofNat_of_zero_le h0
  have : ∀ m : Fin 64, bits .or .i64 128 ((m.val : Nat) : Int) = 128 + (m.val : Nat) := by decide +kernel
  exact this ⟨m, by omega⟩
theorem or192 (c : Int) (h0 : 0 ≤ c) (h1 : c < 32) : bits .or .i64 192 c = 192 + c := by
  obtain ⟨m, rfl⟩ := Int.eq_ofNat_of_zero_le h0
  have : ∀ m : Fin 32, bits .or .i64 192 ((m.val : Nat) : Int) = 192 + (m.val : Nat) := by decide +kernel
  exact this ⟨m, by omega⟩
theorem or224 (c : Int) (h0 : 0 ≤ c) (h1 : c < 16) : bits .or .i64 224 c = 224 + c := by
  obtain ⟨m, rfl⟩ := Int.eq_ofNat_of_zero_le h0
  have : ∀ m : Fin 16, bits .or .i64 224 ((m.val : Nat) : Int) = 224 + (m.val : Nat) := by decide +kernel
  exact this ⟨m, by omega⟩
theorem or240 (c : Int) (h0 : 0 ≤ c) (h1 : c < 8) : bits .or .i64 240 c = 240 + c := by
  obtain ⟨m, rfl⟩ := Int.eq_ofNat_of_zero_le h0
  have : ∀ m : Fin 8, bits .or .i64 240 ((m.val : Nat) : Int) = 240 + (m.val : Nat) := by decide +kernel
  exact this ⟨m, by omega⟩
theorem or0 (c : Int) (h0 : 0 ≤ c) (h1 : c < 128) : bits .or .i64 0 c = c := by
  obtain ⟨m, rfl⟩ := Int.eq_ofNat_of_zero_le h0
  have : ∀ m : Fin 128, bits .or .i64 0 ((m.val : Nat) : Int) = (m.val : Nat) := by decide +kernel
  exact this ⟨m, by omega⟩
theorem isI_lt {c : Int} (h : isI c = true) : 0 ≤ c ∧ c < 1114112 := by
  simp only [isI, Bool.and_eq_true, decide_eq_true_eq] at h
  omega

set_option maxRecDepth 100000 in
set_option maxHeartbeats 1000000 in
theorem bytes1_calls (w : World) (c : Int) (ht : UtfTab w) (hi : isI c = true) (h0 : 0 ≤ c) (h2 : c < 128) :
    Calls Tryz.prog 72 #[.int .i64 c] w fun e w' => e = .returned (.string (mkS (charL c))) ∧ Below w.heap.size w w' := by
  have hmk : ∀ w : World, (Instr.makeSlice 63 (.int .i64 1) (.int .i64 1)).run Tryz.prog w = .ok (.slice (some ⟨w.heap.size, 0, none⟩) 1 1) (w.alloc (.cells #[.int .u8 0] 5)) := fun _ => by kernel_rfl
  have hsz : sizeI c = 1 := by unfold sizeI; rw [if_pos (by omega)]
  have hch : charL c = [byteL c] := by unfold charL; rw [if_pos (by omega)]
  have t4 : w.cell? ⟨0, 2, none⟩ = some (.int .i64 0) := ht 2 (by omega)
  have hB : 0 < w.heap.size := World.block_lt_of_cell? w _ t4
  have IC := Lib.hid (is_calls · c)
  have SC := Lib.hid (size_calls w c ht (by omega))
  have HI := Lib.hid hi
  have HS := Lib.hid hsz
  rw [hch]
  have KD := Lib.hid (fun W l hl hc => conv_bytes_string (P := Tryz.prog) W 63 9 5 ⟨w.heap.size, 0, none⟩ 1 1 l hl Tryz.underlying63 Tryz.underlying5 Tryz.underlying9 hc)
  have o2 : bits .or .i64 0 c = c := or0 c (by omega) (by omega)
  clear hi hsz hch ht
  go_enter Tryz.func72, Tryz.ntmps72
  go_wp2_with (first | (go_at_call 96; refine (IC.out _).mono ?_; rintro e w1 ⟨rfl, rfl⟩; rw [HI.out]) | (go_at_call 97; refine SC.out.mono ?_; rintro e w1 ⟨rfl, rfl⟩; rw [HS.out]))
  go_rounds 1
  rw [KD.out _ [byteL c] rfl (by
    intro j hj
    rw [add0]
    obtain rfl : j = 0 := by omega
    all_goals (simp [byteL_nat] <;> omega))]
  go_wp2
  go_ret
  exact ⟨rfl, (Below.refl _ _).alloc (Nat.le_refl _) _⟩

set_option maxRecDepth 100000 in
set_option maxHeartbeats 1000000 in
theorem bytes2_calls (w : World) (c : Int) (ht : UtfTab w) (hi : isI c = true) (h1 : 128 ≤ c) (h2 : c < 2048) :
    Calls Tryz.prog 72 #[.int .i64 c] w fun e w' => e = .returned (.string (mkS (charL c))) ∧ Below w.heap.size w w' := by
  have hmk : ∀ w : World, (Instr.makeSlice 63 (.int .i64 2) (.int .i64 2)).run Tryz.prog w = .ok (.slice (some ⟨w.heap.size, 0, none⟩) 2 2) (w.alloc (.cells #[.int .u8 0, .int .u8 0] 5)) := fun _ => by kernel_rfl
  have hsz : sizeI c = 2 := by unfold sizeI; rw [if_neg (by omega), if_pos (by omega)]
  have hch : charL c = [byteL (192 + c / 64), byteL (128 + c % 64)] := by unfold charL; rw [if_neg (by omega), if_pos (by omega)]
  have t4 : w.cell? ⟨0, 4, none⟩ = some (.int .i64 192) := ht 4 (by omega)
  have hB : 0 < w.heap.size := World.block_lt_of_cell? w _ t4
  have IC := Lib.hid (is_calls · c)
  have SC := Lib.hid (size_calls w c ht (by omega))
  have HI := Lib.hid hi
  have HS := Lib.hid hsz
  rw [hch]
  have KD := Lib.hid (fun W l hl hc => conv_bytes_string (P := Tryz.prog) W 63 9 5 ⟨w.heap.size, 0, none⟩ 2 2 l hl Tryz.underlying63 Tryz.underlying5 Tryz.underlying9 hc)
  have a1 := and63 c (by omega) (by omega)
  have o1 := or128 (c % 64) (by omega) (by omega)
  have o2 := or192 (c / 64) (by omega) (by omega)
  clear hi hsz hch ht
  go_enter Tryz.func72, Tryz.ntmps72
  go_wp2_with (first | (go_at_call 96; refine (IC.out _).mono ?_; rintro e w1 ⟨rfl, rfl⟩; rw [HI.out]) | (go_at_call 97; refine SC.out.mono ?_; rintro e w1 ⟨rfl, rfl⟩; rw [HS.out]))
  go_rounds 2
  rw [KD.out _ [byteL (192 + c / 64), byteL (128 + c % 64)] rfl (by
    intro j hj
    rw [add0]
    obtain rfl | rfl : j = 0 ∨ j = 1 := by omega
    all_goals (simp [byteL_nat] <;> omega))]
  go_wp2
  go_ret
  exact ⟨rfl, (Below.refl _ _).alloc (Nat.le_refl _) _⟩

set_option maxRecDepth 100000 in
set_option maxHeartbeats 1000000 in
theorem bytes3_calls (w : World) (c : Int) (ht : UtfTab w) (hi : isI c = true) (h1 : 2048 ≤ c) (h2 : c < 65536) :
    Calls Tryz.prog 72 #[.int .i64 c] w fun e w' => e = .returned (.string (mkS (charL c))) ∧ Below w.heap.size w w' := by
  have hmk : ∀ w : World, (Instr.makeSlice 63 (.int .i64 3) (.int .i64 3)).run Tryz.prog w = .ok (.slice (some ⟨w.heap.size, 0, none⟩) 3 3) (w.alloc (.cells #[.int .u8 0, .int .u8 0, .int .u8 0] 5)) := fun _ => by kernel_rfl
  have hsz : sizeI c = 3 := by unfold sizeI; rw [if_neg (by omega), if_neg (by omega), if_pos (by omega)]
  have hch : charL c = [byteL (224 + c / 4096), byteL (128 + c / 64 % 64), byteL (128 + c % 64)] := by unfold charL; rw [if_neg (by omega), if_neg (by omega), if_pos (by omega)]
  have t4 : w.cell? ⟨0, 6, none⟩ = some (.int .i64 224) := ht 6 (by omega)
  have hB : 0 < w.heap.size := World.block_lt_of_cell? w _ t4
  have IC := Lib.hid (is_calls · c)
  have SC := Lib.hid (size_calls w c ht (by omega))
  have HI := Lib.hid hi
  have HS := Lib.hid hsz
  rw [hch]
  have KD := Lib.hid (fun W l hl hc => conv_bytes_string (P := Tryz.prog) W 63 9 5 ⟨w.heap.size, 0, none⟩ 3 3 l hl Tryz.underlying63 Tryz.underlying5 Tryz.underlying9 hc)
  have a1 := and63 c (by omega) (by omega)
  have o1 := or128 (c % 64) (by omega) (by omega)
  have a2 := and63 (c / 64) (by omega) (by omega)
  have o3 := or128 (c / 64 % 64) (by omega) (by omega)
  have d2 : c / 64 / 64 = c / 4096 := by omega
  have o2 := or224 (c / 4096) (by omega) (by omega)
  clear hi hsz hch ht
  go_enter Tryz.func72, Tryz.ntmps72
  go_wp2_with (first | (go_at_call 96; refine (IC.out _).mono ?_; rintro e w1 ⟨rfl, rfl⟩; rw [HI.out]) | (go_at_call 97; refine SC.out.mono ?_; rintro e w1 ⟨rfl, rfl⟩; rw [HS.out]))
  go_rounds 3
  rw [KD.out _ [byteL (224 + c / 4096), byteL (128 + c / 64 % 64), byteL (128 + c % 64)] rfl (by
    intro j hj
    rw [add0]
    obtain rfl | rfl | rfl : j = 0 ∨ j = 1 ∨ j = 2 := by omega
    all_goals (simp [byteL_nat] <;> omega))]
  go_wp2
  go_ret
  exact ⟨rfl, (Below.refl _ _).alloc (Nat.le_refl _) _⟩

set_option maxRecDepth 100000 in
set_option maxHeartbeats 1000000 in
theorem bytes4_calls (w : World) (c : Int) (ht : UtfTab w) (hi : isI c = true) (h1 : 65536 ≤ c) (h2 : c < 1114112) :
    Calls Tryz.prog 72 #[.int .i64 c] w fun e w' => e = .returned (.string (mkS (charL c))) ∧ Below w.heap.size w w' := by
  have hmk : ∀ w : World, (Instr.makeSlice 63 (.int .i64 4) (.int .i64 4)).run Tryz.prog w = .ok (.slice (some ⟨w.heap.size, 0, none⟩) 4 4) (w.alloc (.cells #[.int .u8 0, .int .u8 0, .int .u8 0, .int .u8 0] 5)) := fun _ => by kernel_rfl
  have hsz : sizeI c = 4 := by unfold sizeI; rw [if_neg (by omega), if_neg (by omega), if_neg (by omega)]
  have hch : charL c = [byteL (240 + c / 262144), byteL (128 + c / 4096 % 64), byteL (128 + c / 64 % 64), byteL (128 + c % 64)] := by unfold charL; rw [if_neg (by omega), if_neg (by omega), if_neg (by omega)]
  have t4 : w.cell? ⟨0, 8, none⟩ = some (.int .i64 240) := ht 8 (by omega)
  have hB : 0 < w.heap.size := World.block_lt_of_cell? w _ t4
  have IC := Lib.hid (is_calls · c)
  have SC := Lib.hid (size_calls w c ht (by omega))
  have HI := Lib.hid hi
  have HS := Lib.hid hsz
  rw [hch]
  have KD := Lib.hid (fun W l hl hc => conv_bytes_string (P := Tryz.prog) W 63 9 5 ⟨w.heap.size, 0, none⟩ 4 4 l hl Tryz.underlying63 Tryz.underlying5 Tryz.underlying9 hc)
  have a1 := and63 c (by omega) (by omega)
  have o1 := or128 (c % 64) (by omega) (by omega)
  have a2 := and63 (c / 64) (by omega) (by omega)
  have o3 := or128 (c / 64 % 64) (by omega) (by omega)
  have d2 : c / 64 / 64 = c / 4096 := by omega
  have a4 := and63 (c / 4096) (by omega) (by omega)
  have o4 := or128 (c / 4096 % 64) (by omega) (by omega)
  have d3 : c / 4096 / 64 = c / 262144 := by omega
  have o2 := or240 (c / 262144) (by omega) (by omega)
  clear hi hsz hch ht
  go_enter Tryz.func72, Tryz.ntmps72
  go_wp2_with (first | (go_at_call 96; refine (IC.out _).mono ?_; rintro e w1 ⟨rfl, rfl⟩; rw [HI.out]) | (go_at_call 97; refine SC.out.mono ?_; rintro e w1 ⟨rfl, rfl⟩; rw [HS.out]))
  go_rounds 4
  rw [KD.out _ [byteL (240 + c / 262144), byteL (128 + c / 4096 % 64), byteL (128 + c / 64 % 64), byteL (128 + c % 64)] rfl (by
    intro j hj
    rw [add0]
    obtain rfl | rfl | rfl | rfl : j = 0 ∨ j = 1 ∨ j = 2 ∨ j = 3 := by omega
    all_goals (simp [byteL_nat] <;> omega))]
  go_wp2
  go_ret
  exact ⟨rfl, (Below.refl _ _).alloc (Nat.le_refl _) _⟩

set_option maxRecDepth 100000 in
set_option maxHeartbeats 1000000 in
theorem bytes0_calls (w : World) (c : Int) (ht : UtfTab w) (hi : isI c = false) :
    Calls Tryz.prog 72 #[.int .i64 c] w fun e w' => e = .returned (.string (mkS (charL 65533))) ∧ Below w.heap.size w w' := by
  have hmk : ∀ w : World, (Instr.makeSlice 63 (.int .i64 3) (.int .i64 3)).run Tryz.prog w = .ok (.slice (some ⟨w.heap.size, 0, none⟩) 3 3) (w.alloc (.cells #[.int .u8 0, .int .u8 0, .int .u8 0] 5)) := fun _ => by kernel_rfl
  have hsz : sizeI 65533 = 3 := rfl
  have hch : charL 65533 = [239, 191, 189] := by decide +kernel
  have t4 : w.cell? ⟨0, 6, none⟩ = some (.int .i64 224) := ht 6 (by omega)
  have hB : 0 < w.heap.size := World.block_lt_of_cell? w _ t4
  have IC := Lib.hid (is_calls · c)
  have SC := Lib.hid (size_calls w 65533 ht (by omega))
  have HI := Lib.hid hi
  have HS := Lib.hid hsz
  rw [hch]
  have KD := Lib.hid (fun W l hl hc => conv_bytes_string (P := Tryz.prog) W 63 9 5 ⟨w.heap.size, 0, none⟩ 3 3 l hl Tryz.underlying63 Tryz.underlying5 Tryz.underlying9 hc)
  have a1 : bits .and .i64 65533 63 = 61 := by decide +kernel
  have o1 : bits .or .i64 128 61 = 189 := by decide +kernel
  have a2 : bits .and .i64 1023 63 = 63 := by decide +kernel
  have o2 : bits .or .i64 128 63 = 191 := by decide +kernel
  have o3 : bits .or .i64 224 15 = 239 := by decide +kernel
  clear hi hsz hch ht
  go_enter Tryz.func72, Tryz.ntmps72
  go_wp2_with (first | (go_at_call 96; refine (IC.out _).mono ?_; rintro e w1 ⟨rfl, rfl⟩; rw [HI.out]) | (go_at_call 97; refine SC.out.mono ?_; rintro e w1 ⟨rfl, rfl⟩; rw [HS.out]))
  go_rounds 3
  rw [KD.out _ [239, 191, 189] rfl (by
    intro j hj
    rw [add0]
    obtain rfl | rfl | rfl : j = 0 ∨ j = 1 ∨ j = 2 := by omega
    all_goals simp)]
  go_wp2
  go_ret
  exact ⟨rfl, (Below.refl _ _).alloc (Nat.le_refl _) _⟩

theorem bytes_calls (w : World) (c : Int) (ht : UtfTab w) :
    Calls Tryz.prog 72 #[.int .i64 c] w fun e w' => e = .returned (.string (mkS (bytesL c))) ∧ Below w.heap.size w w' := by
  unfold bytesL
  cases hi : isI c with
  | false => exact bytes0_calls w c ht hi
  | true =>
    obtain ⟨h0, h1⟩ := isI_lt hi
    show Calls _ _ _ _ fun e w' => e = .returned (.string (mkS (charL c))) ∧ _
    by_cases h : c < 128
    · exact bytes1_calls w c ht hi h0 h
    by_cases h' : c < 2048
    · exact bytes2_calls w c ht hi (by omega) h'
    by_cases h'' : c < 65536
    · exact bytes3_calls w c ht hi (by omega) h''
    · exact bytes4_calls w c ht hi (by omega) h1

end Go.Proofs.YthfkldheflmlmaaGreatDoor
