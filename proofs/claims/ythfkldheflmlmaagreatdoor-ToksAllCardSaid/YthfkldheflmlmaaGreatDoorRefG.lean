/- The reference's numbers of characters (rectoref04: value, at, Number, number): contracts. -/
import Derived.Test.YthfkldheflmlmaaGreatDoorRefD
import Derived.Test.YthfkldheflmlmaaGreatDoorRefH
namespace Go.Proofs.YthfkldheflmlmaaGreatDoor
open Go.RowKit Go.Lib

set_option maxHeartbeats 1000000 in
theorem rvalue_calls (w : World) (b : Int) (h0 : 0 ≤ b) (h1 : b ≤ 255) :
    Calls Tryz.prog 113 #[.int .u8 b] w fun e w' => e = .returned (.int .i64 (rvalI b)) ∧ w = w' := by
  unfold rvalI
  by_cases c1 : 48 ≤ b ∧ b ≤ 57
  · obtain ⟨a1, a2⟩ := c1
    rw [if_pos ⟨a1, a2⟩]
    go_enter Tryz.func113, Tryz.ntmps113
    go_wp2; go_ret; exact ⟨rfl, rfl⟩
  rw [if_neg c1]
  by_cases c2 : 97 ≤ b ∧ b ≤ 102
  · obtain ⟨a1, a2⟩ := c2
    have a3 : ¬ b ≤ 57 := by omega
    rw [if_pos ⟨a1, a2⟩]
    go_enter Tryz.func113, Tryz.ntmps113
    go_wp2; go_ret; exact ⟨rfl, rfl⟩
  rw [if_neg c2]
  by_cases c3 : 65 ≤ b ∧ b ≤ 70
  · obtain ⟨a1, a2⟩ := c3
    have a3 : ¬ b ≤ 57 := by omega
    rw [if_pos ⟨a1, a2⟩]
    go_enter Tryz.func113, Tryz.ntmps113
    go_wp2; go_ret; exact ⟨rfl, rfl⟩
  rw [if_neg c3]
  by_cases d1 : b < 48
  · go_enter Tryz.func113, Tryz.ntmps113
    go_wp2; go_ret; exact ⟨rfl, rfl⟩
  have d2 : ¬ b ≤ 57 := by omega
  by_cases d3 : b < 65
  · go_enter Tryz.func113, Tryz.ntmps113
    go_wp2; go_ret; exact ⟨rfl, rfl⟩
  have d4 : ¬ b ≤ 70 := by omega
  by_cases d5 : b < 97
  · go_enter Tryz.func113, Tryz.ntmps113
    go_wp2; go_ret; exact ⟨rfl, rfl⟩
  have d6 : ¬ b ≤ 102 := by omega
  go_enter Tryz.func113, Tryz.ntmps113
  go_wp2; go_ret; exact ⟨rfl, rfl⟩
set_option maxHeartbeats 1000000 in
theorem rat0_calls (w : World) (s : ByteArray) (i : Nat) :
    Calls Tryz.prog 90 #[.string s, .int .i64 i] w fun e w' => e = .returned (.int .u8 (bI s i)) ∧ w = w' := by
  have hbt := bI_at s
  by_cases h : i < s.size
  · have hi' : (i : Int) < s.size := by omega
    go_enter Tryz.func90, Tryz.ntmps90
    go_wp2; go_ret; exact ⟨rfl, rfl⟩
  · have hz := bI_end s i (by omega)
    rw [hz]
    clear hbt
    go_enter Tryz.func90, Tryz.ntmps90
    go_wp2; go_ret; exact ⟨rfl, rfl⟩
def numTab : List Int := [8364, 129, 8218, 402, 8222, 8230, 8224, 8225, 710, 8240, 352, 8249, 338, 141, 381, 143, 144, 8216, 8217, 8220, 8221, 8226, 8211, 8212, 732, 8482, 353, 8250, 339, 157, 382, 376]
theorem num_tab (n : Int) (h0 : 128 ≤ n) (h1 : n ≤ 159) : numberI n = numTab.getD (n - 128).toNat 0 := by
  have : ∀ k : Fin 32, numberI ((k.val : Nat) + 128) = numTab.getD k.val 0 := by decide +kernel
  have h := this ⟨(n - 128).toNat, by omega⟩
  have e : (((n - 128).toNat : Nat) : Int) + 128 = n := by omega
  simp only at h
  rw [e] at h
  exact h
set_option maxRecDepth 10000 in
theorem num_arr (k : Nat) (hk : k < 32) : (#[.int .i64 8364, .int .i64 129, .int .i64 8218, .int .i64 402, .int .i64 8222, .int .i64 8230, .int .i64 8224, .int .i64 8225, .int .i64 710, .int .i64 8240, .int .i64 352, .int .i64 8249, .int .i64 338, .int .i64 141, .int .i64 381, .int .i64 143, .int .i64 144, .int .i64 8216, .int .i64 8217, .int .i64 8220, .int .i64 8221, .int .i64 8226, .int .i64 8211, .int .i64 8212, .int .i64 732, .int .i64 8482, .int .i64 353, .int .i64 8250, .int .i64 339, .int .i64 157, .int .i64 382, .int .i64 376] : Array Value)[k]? = some (.int .i64 (numTab.getD k 0)) := by
  obtain rfl | rfl | rfl | rfl | rfl | rfl | rfl | rfl | rfl | rfl | rfl | rfl | rfl | rfl | rfl | rfl | rfl | rfl | rfl | rfl | rfl | rfl | rfl | rfl | rfl | rfl | rfl | rfl | rfl | rfl | rfl | rfl : k = 0 ∨ k = 1 ∨ k = 2 ∨ k = 3 ∨ k = 4 ∨ k = 5 ∨ k = 6 ∨ k = 7 ∨ k = 8 ∨ k = 9 ∨ k = 10 ∨ k = 11 ∨ k = 12 ∨ k = 13 ∨ k = 14 ∨ k = 15 ∨ k = 16 ∨ k = 17 ∨ k = 18 ∨ k = 19 ∨ k = 20 ∨ k = 21 ∨ k = 22 ∨ k = 23 ∨ k = 24 ∨ k = 25 ∨ k = 26 ∨ k = 27 ∨ k = 28 ∨ k = 29 ∨ k = 30 ∨ k = 31 := by omega
  all_goals rfl
set_option maxRecDepth 100000 in
set_option maxHeartbeats 2000000 in
theorem rnumber_calls (w : World) (n : Int) (hn : 0 ≤ n ∧ n ≤ 2000000) :
    Calls Tryz.prog 114 #[.int .i64 n] w fun e w' => e = .returned (.int .i64 (numberI n)) ∧ Below w.heap.size w w' := by
  have IC := Lib.hid (fun W c => ris2_calls W c)
  by_cases h1 : n < 1
  · have hv : numberI n = 65533 := by rw [numberI, if_pos (.inl (by omega))]
    rw [hv]
    clear hv
    go_enter Tryz.func114, Tryz.ntmps114
    go_wp2
    go_ret
    exact ⟨rfl, Below.refl _ _⟩
  cases hI : isI n with
  | false =>
    have hv : numberI n = 65533 := by rw [numberI, if_pos (.inr hI)]
    rw [hv]
    clear hv
    go_enter Tryz.func114, Tryz.ntmps114
    go_wp2_with (go_at_call 109; refine (IC.out _ _).mono ?_; rintro e w1 ⟨rfl, rfl⟩; rw [hI])
    go_ret
    exact ⟨rfl, Below.refl _ _⟩
  | true =>
    by_cases h2 : 128 ≤ n ∧ n ≤ 159
    · obtain ⟨a1, a2⟩ := h2
      have hv := num_tab n a1 a2
      rw [hv]
      have hk : (n - 128).toNat < 32 := by omega
      have hR := blk_new w #[.int .i64 8364, .int .i64 129, .int .i64 8218, .int .i64 402, .int .i64 8222, .int .i64 8230, .int .i64 8224, .int .i64 8225, .int .i64 710, .int .i64 8240, .int .i64 352, .int .i64 8249, .int .i64 338, .int .i64 141, .int .i64 381, .int .i64 143, .int .i64 144, .int .i64 8216, .int .i64 8217, .int .i64 8220, .int .i64 8221, .int .i64 8226, .int .i64 8211, .int .i64 8212, .int .i64 732, .int .i64 8482, .int .i64 353, .int .i64 8250, .int .i64 339, .int .i64 157, .int .i64 382, .int .i64 376] 3
      have hc := (blk_cell hR _).trans (num_arr _ hk)
      have hb0 : Below w.heap.size w _ := (Below.refl w.heap.size w).alloc (Nat.le_refl _) (.cells #[.int .i64 8364, .int .i64 129, .int .i64 8218, .int .i64 402, .int .i64 8222, .int .i64 8230, .int .i64 8224, .int .i64 8225, .int .i64 710, .int .i64 8240, .int .i64 352, .int .i64 8249, .int .i64 338, .int .i64 141, .int .i64 381, .int .i64 143, .int .i64 144, .int .i64 8216, .int .i64 8217, .int .i64 8220, .int .i64 8221, .int .i64 8226, .int .i64 8211, .int .i64 8212, .int .i64 732, .int .i64 8482, .int .i64 353, .int .i64 8250, .int .i64 339, .int .i64 157, .int .i64 382, .int .i64 376] 3)
      clear hR hv
      generalize numTab.getD (n - 128).toNat 0 = v at *
      go_enter Tryz.func114, Tryz.ntmps114
      go_upto_region 6 with (go_at_call 109; refine (IC.out _ _).mono ?_; rintro e w1 ⟨rfl, rfl⟩; rw [hI])
      generalize hw5 : w.alloc (.cells #[.int .i64 8364, .int .i64 129, .int .i64 8218, .int .i64 402, .int .i64 8222, .int .i64 8230, .int .i64 8224, .int .i64 8225, .int .i64 710, .int .i64 8240, .int .i64 352, .int .i64 8249, .int .i64 338, .int .i64 141, .int .i64 381, .int .i64 143, .int .i64 144, .int .i64 8216, .int .i64 8217, .int .i64 8220, .int .i64 8221, .int .i64 8226, .int .i64 8211, .int .i64 8212, .int .i64 732, .int .i64 8482, .int .i64 353, .int .i64 8250, .int .i64 339, .int .i64 157, .int .i64 382, .int .i64 376] 3) = w5 at *
      clear hw5
      go_wp2
      go_ret
      exact ⟨rfl, hb0⟩
    · have hv : numberI n = n := by
        rw [numberI, if_neg (by rw [hI]; simp; omega), find_none n (fun j hj => ?_)]
        have : ∀ j : Fin 27, 128 ≤ (turnAt j.val).1 ∧ (turnAt j.val).1 ≤ 159 := by decide +kernel
        have := this ⟨j, hj⟩
        simp only at this
        omega
      rw [hv]
      clear hv
      by_cases h3 : n < 128
      · go_enter Tryz.func114, Tryz.ntmps114
        go_wp2_with (go_at_call 109; refine (IC.out _ _).mono ?_; rintro e w1 ⟨rfl, rfl⟩; rw [hI])
        go_ret
        exact ⟨rfl, Below.refl _ _⟩
      · have h4 : ¬ n ≤ 159 := by omega
        go_enter Tryz.func114, Tryz.ntmps114
        go_wp2_with (go_at_call 109; refine (IC.out _ _).mono ?_; rintro e w1 ⟨rfl, rfl⟩; rw [hI])
        go_ret
        exact ⟨rfl, Below.refl _ _⟩

end Go.Proofs.YthfkldheflmlmaaGreatDoor
