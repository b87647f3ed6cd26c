/- A number's digits (keys.digits): plain, and its contract. -/
import Derived.Test.YtdlenbkkcpcbmaaLarge
import Derived.Laws.BitsAllLaws
namespace Go.Proofs.Ytdlenbkkcpcbmaa
open Go.RowKit Go.Lib

def decF : Nat → Nat → List UInt8
  | 0, _ => []
  | f + 1, n => if n < 10 then [UInt8.ofNat (48 + n)] else decF f (n / 10) ++ [UInt8.ofNat (48 + n % 10)]
def digL (n : Int) : List UInt8 := if n < 0 then 45 :: (decF 20 (-n - 1).toNat ++ [46]) else decF 20 n.toNat ++ [46]
theorem decF_more : ∀ (f g n : Nat), n < 10 ^ f → n < 10 ^ g → 0 < f → 0 < g → decF f n = decF g n
  | 0, _, _, _, _, h, _ => by omega
  | _ + 1, 0, _, _, _, _, h => by omega
  | f + 1, g + 1, n, hf, hg, _, _ => by
    rw [decF, decF]
    by_cases h : n < 10
    · rw [if_pos h, if_pos h]
    · have hf' : n / 10 < 10 ^ f := by rw [Nat.pow_succ] at hf; omega
      have hg' : n / 10 < 10 ^ g := by rw [Nat.pow_succ] at hg; omega
      have f0 : 0 < f := by cases f with | zero => simp at hf'; omega | succ f => omega
      have g0 : 0 < g := by cases g with | zero => simp at hg'; omega | succ g => omega
      rw [if_neg h, if_neg h, decF_more f g (n / 10) hf' hg' f0 g0]
theorem decF_len : ∀ (f n : Nat), (decF f n).length ≤ f
  | 0, _ => Nat.le_refl _
  | f + 1, n => by
    rw [decF]
    split
    · simp
    · have := decF_len f (n / 10)
      simp; omega
theorem extract_front (x : List UInt8) (b : UInt8) : (mkS (x ++ [b])).extract 0 x.length = mkS x := by
  rw [← mkS_of ((mkS (x ++ [b])).extract 0 x.length), toL_extract, of_mkS]
  simp
set_option maxRecDepth 100000 in
set_option maxHeartbeats 4000000 in
theorem digN_calls : ∀ (f : Nat) (n : Nat), f ≤ 20 → 0 < f → n < 10 ^ f → n ≤ 9223372036854775807 → ∀ w : World,
    Calls Try.prog 59 #[.int .i64 (n : Int)] w fun e w' => e = .returned (.string (mkS (decF f n ++ [46]))) ∧ Below w.heap.size w w' := by
  intro f
  induction f with
  | zero => intro n _ h; omega
  | succ f ih =>
    intro n hf _ hn hmax w
    have KD := Lib.hid (fun W a n l hl hc => conv_bytes_string (P := Try.prog) W 103 9 5 a n n l hl Try.underlying103 Try.underlying5 Try.underlying9 hc)
    have h0 : ¬ (n : Int) < 0 := by omega
    by_cases h : n < 10
    · have h' : (n : Int) < 10 := by omega
      have hv : decF (f + 1) n ++ [46] = [byteL (48 + n), 46] := by
        have e : (48 + (n : Int)).toNat = 48 + n := by omega
        rw [decF, if_pos h, byteL, e]
        rfl
      rw [hv]
      clear hv ih hn hmax
      go_enter Try.func59, Try.ntmps59
      go_wp2
      rw [KD.out _ _ 2 [byteL (48 + n), 46] rfl (by
        intro j hj
        rw [add0]
        obtain rfl | rfl : j = 0 ∨ j = 1 := by omega
        all_goals (simp [byteL_nat] <;> omega))]
      go_wp2
      go_ret
      exact ⟨rfl, (Below.refl _ _).alloc (Nat.le_refl _) _⟩
    · have h' : ¬ (n : Int) < 10 := by omega
      have hn' : n / 10 < 10 ^ f := by rw [Nat.pow_succ] at hn; omega
      have f0 : 0 < f := by cases f with | zero => simp at hn'; omega | succ f => omega
      have hl := decF_len f (n / 10)
      have IC : Hid (∀ W, Calls Try.prog 59 #[.int .i64 ((n : Int) / 10)] W fun e w' => e = .returned (.string (mkS (decF f (n / 10) ++ [46]))) ∧ Below W.heap.size W w') := Lib.hid (fun W => by
        have := ih (n / 10) (by omega) f0 hn' (by omega) W
        rwa [show (((n / 10 : Nat)) : Int) = (n : Int) / 10 by omega] at this)
      have hv : decF (f + 1) n ++ [46] = decF f (n / 10) ++ [byteL (48 + (n : Int) % 10), 46] := by
        have e : (48 + (n : Int) % 10).toNat = 48 + n % 10 := by omega
        rw [decF, if_neg h, byteL, e, List.append_assoc]
        rfl
      rw [hv]
      have hex := extract_front (decF f (n / 10)) 46
      have hsz : (mkS (decF f (n / 10) ++ [46])).size = (decF f (n / 10)).length + 1 := by rw [size_mkS]; simp
      generalize decF f (n / 10) = x at *
      obtain ⟨D, hD⟩ : ∃ D, mkS (x ++ [46]) = D := ⟨_, rfl⟩
      rw [hD] at hex hsz IC
      have q1 : Int.tdiv (n : Int) 10 = (n : Int) / 10 := Int.tdiv_eq_ediv_of_nonneg (by omega)
      have q2 : Int.tmod (n : Int) 10 = (n : Int) % 10 := Int.tmod_eq_emod_of_nonneg (by omega)
      have z1 : (mkS x).size ≤ 20 := by rw [size_mkS]; omega
      have z2 : (mkS [byteL (48 + (n : Int) % 10), 46]).size = 2 := by rw [size_mkS]; rfl
      clear hv ih hn hn' f0 h hD
      go_enter Try.func59, Try.ntmps59
      go_wp2_with (go_at_call 59; (with_reducible refine (IC.out _).mono ?_); rintro e w1 ⟨rfl, hb1⟩)
      have hconv := KD.out ((w1.alloc (.cells #[.int .u8 (48 + (n : Int) % 10), .int .u8 46] 5)).drew) ⟨w1.heap.size, 0, none⟩ 2 [byteL (48 + (n : Int) % 10), 46] rfl (by
        intro j hj
        rw [add0]
        obtain rfl | rfl : j = 0 ∨ j = 1 := by omega
        all_goals (simp [byteL_nat] <;> omega))
      go_region
      go_wp2
      go_ret
      exact ⟨congrArg (fun y => Ending.returned (Value.string y)) (mkS_snoc x (mkS [byteL (48 + (n : Int) % 10), 46]) _ (of_mkS _)), below_drew1 (hb1.alloc hb1.size _)⟩

theorem big_lt (m : Nat) (h : m ≤ 9223372036854775807) : m < 10 ^ 20 := Nat.lt_of_le_of_lt h (by decide +kernel)
theorem not_neg (n : Int) (h : n < 0) (hi : I64 n) : ∃ m : Nat, -n - 1 = m ∧ m ≤ 9223372036854775807 := ⟨(-n - 1).toNat, by omega, by have := hi.lo; omega⟩
theorem i64_notI (n : Int) (h : I64 n) : bits .xor .i64 (-1) n = -n - 1 := by
  show IntKind.i64.wrap ((BitVec.ofInt 64 (-1) ^^^ BitVec.ofInt 64 n).toNat : Int) = _
  have h1 : BitVec.ofInt 64 (-1) = BitVec.allOnes 64 := by decide
  rw [h1, BitVec.allOnes_xor, BitVec.toNat_not, BitVec.toNat_ofInt]
  have a := h.lo
  have b := h.hi
  simp [IntKind.wrap, IntKind.bits, IntKind.signed]
  omega
set_option maxRecDepth 100000 in
set_option maxHeartbeats 4000000 in
theorem digits_calls (n : Int) (hi : I64 n) (w : World) :
    Calls Try.prog 59 #[.int .i64 n] w fun e w' => e = .returned (.string (mkS (digL n))) ∧ Below w.heap.size w w' := by
  by_cases hn : n < 0
  · obtain ⟨m, hm, hmm⟩ := not_neg n hn hi
    have hv : digL n = 45 :: (decF 20 m ++ [46]) := by rw [digL, if_pos hn, hm]; rfl
    rw [hv]
    have hw := i64_notI n hi
    have IC : Hid (∀ W, Calls Try.prog 59 #[.int .i64 (bits .xor .i64 (-1) n)] W fun e w' => e = .returned (.string (mkS (decF 20 m ++ [46]))) ∧ Below W.heap.size W w') := Lib.hid (fun W => by
      rw [hw, hm]; exact digN_calls 20 m (Nat.le_refl _) (by decide) (big_lt m hmm) hmm W)
    have hl := decF_len 20 m
    have z1 : (mkS (decF 20 m ++ [46])).size ≤ 21 := by rw [size_mkS, List.length_append]; simp; omega
    clear hv hm hmm hi hw
    generalize decF 20 m ++ [46] = x at *
    have h1 : decide (n < 0) = true := decide_eq_true hn
    go_enter Try.func59, Try.ntmps59
    go_wp2_with (go_at_call 59; (with_reducible refine (IC.out _).mono ?_); rintro e w1 ⟨rfl, hb1⟩)
    go_ret
    exact ⟨congrArg (fun y => Ending.returned (Value.string y)) (mkS_snoc [45] (mkS x) x (of_mkS _)), hb1⟩
  · obtain ⟨m, rfl⟩ : ∃ m : Nat, n = m := ⟨n.toNat, by omega⟩
    have hv : digL (m : Int) = decF 20 m ++ [46] := by rw [digL, if_neg hn]; rfl
    rw [hv]
    have hmm : m ≤ 9223372036854775807 := by have := hi.hi; omega
    exact digN_calls 20 m (Nat.le_refl _) (by decide) (big_lt m hmm) hmm w

end Go.Proofs.Ytdlenbkkcpcbmaa
