/- The reference's characters (rectoref02): contracts. -/
import Derived.Test.YthfkldheflmlmaaGreatDoorRefC
namespace Go.Proofs.YthfkldheflmlmaaGreatDoor
open Go.RowKit Go.Lib

set_option maxHeartbeats 400000 in
theorem ris2_calls (w : World) (c : Int) :
    Calls Tryz.prog 109 #[.int .i64 c] w fun e w' => e = .returned (.bool (isI c)) ∧ w = w' := by
  unfold isI
  go_enter Tryz.func109, Tryz.ntmps109
  by_cases h1 : 0 ≤ c
  · by_cases h2 : c ≤ 1114111
    · by_cases h3 : 55296 ≤ c
      · by_cases h4 : c ≤ 57343
        · go_wp2; go_ret; exact ⟨by simp <;> omega, rfl⟩
        · go_wp2; go_ret; exact ⟨by simp <;> omega, rfl⟩
      · go_wp2; go_ret; exact ⟨by simp [*] <;> omega, rfl⟩
    · go_wp2; go_ret; exact ⟨by simp [*] <;> omega, rfl⟩
  · go_wp2; go_ret; exact ⟨by simp [*] <;> omega, rfl⟩

theorem wrap_u8 (c : Int) (h0 : 0 ≤ c) (h1 : c ≤ 255) : (c.toNat % 256 : Nat) = c.toNat := by omega
theorem byteL_id {c : Int} (h0 : 0 ≤ c) (h1 : c ≤ 255) : ((byteL c).toNat : Int) = c := by rw [byteL_nat]; omega

set_option maxRecDepth 100000 in
set_option maxHeartbeats 2000000 in
theorem rchar_calls (w : World) (c : Int) (hi : isI c = true) :
    Calls Tryz.prog 89 #[.int .i64 c] w fun e w' => e = .returned (.string (mkS (charL c))) ∧ Below w.heap.size w w' := by
  have hr := isI_lt hi
  have IC := Lib.hid (fun W => ris2_calls W c)
  have HI := Lib.hid hi
  have KD := Lib.hid (fun W a n l hl hc => conv_bytes_string (P := Tryz.prog) W 63 9 5 a n n l hl Tryz.underlying63 Tryz.underlying5 Tryz.underlying9 hc)
  clear hi
  have q1 : Int.tdiv c 64 = c / 64 := Int.tdiv_eq_ediv_of_nonneg (by omega)
  have q2 : Int.tdiv c 4096 = c / 4096 := Int.tdiv_eq_ediv_of_nonneg (by omega)
  have q3 : Int.tdiv c 262144 = c / 262144 := Int.tdiv_eq_ediv_of_nonneg (by omega)
  have q4 : Int.tmod c 64 = c % 64 := Int.tmod_eq_emod_of_nonneg (by omega)
  have q5 : Int.tmod (c / 64) 64 = c / 64 % 64 := Int.tmod_eq_emod_of_nonneg (by omega)
  have q6 : Int.tmod (c / 4096) 64 = c / 4096 % 64 := Int.tmod_eq_emod_of_nonneg (by omega)
  by_cases h1 : c < 128
  · have hch : charL c = [byteL c] := by unfold charL; rw [if_pos (by omega)]
    rw [hch]
    have b1 := byteL_id (c := c) (by omega) (by omega)
    clear hch
    go_enter Tryz.func89, Tryz.ntmps89
    go_wp2_with (go_at_call 109; refine (IC.out _).mono ?_; rintro e w1 ⟨rfl, rfl⟩; rw [HI.out])
    rw [KD.out _ _ 1 [byteL c] rfl (by
      intro j hj
      rw [add0]
      obtain rfl : j = 0 := by omega
      all_goals (simp [byteL_nat] <;> omega))]
    go_wp2
    go_ret
    exact ⟨rfl, (Below.refl _ _).alloc (Nat.le_refl _) _⟩
  by_cases h2 : c < 2048
  · have hch : charL c = [byteL (192 + c / 64), byteL (128 + c % 64)] := by unfold charL; rw [if_neg (by omega), if_pos (by omega)]
    rw [hch]
    clear hch
    go_enter Tryz.func89, Tryz.ntmps89
    go_wp2_with (go_at_call 109; refine (IC.out _).mono ?_; rintro e w1 ⟨rfl, rfl⟩; rw [HI.out])
    rw [KD.out _ _ 2 [byteL (192 + c / 64), byteL (128 + c % 64)] rfl (by
      intro j hj
      rw [add0]
      obtain rfl | rfl : j = 0 ∨ j = 1 := by omega
      all_goals (simp [byteL_nat] <;> omega))]
    go_wp2
    go_ret
    exact ⟨rfl, (Below.refl _ _).alloc (Nat.le_refl _) _⟩
  by_cases h3 : c < 65536
  · have hch : charL c = [byteL (224 + c / 4096), byteL (128 + c / 64 % 64), byteL (128 + c % 64)] := by unfold charL; rw [if_neg (by omega), if_neg (by omega), if_pos (by omega)]
    rw [hch]
    clear hch
    go_enter Tryz.func89, Tryz.ntmps89
    go_wp2_with (go_at_call 109; refine (IC.out _).mono ?_; rintro e w1 ⟨rfl, rfl⟩; rw [HI.out])
    rw [KD.out _ _ 3 [byteL (224 + c / 4096), byteL (128 + c / 64 % 64), byteL (128 + c % 64)] rfl (by
      intro j hj
      rw [add0]
      obtain rfl | rfl | rfl : j = 0 ∨ j = 1 ∨ j = 2 := by omega
      all_goals (simp [byteL_nat] <;> omega))]
    go_wp2
    go_ret
    exact ⟨rfl, (Below.refl _ _).alloc (Nat.le_refl _) _⟩
  · have hch : charL c = [byteL (240 + c / 262144), byteL (128 + c / 4096 % 64), byteL (128 + c / 64 % 64), byteL (128 + c % 64)] := by unfold charL; rw [if_neg (by omega), if_neg (by omega), if_neg (by omega)]
    rw [hch]
    clear hch
    go_enter Tryz.func89, Tryz.ntmps89
    go_wp2_with (go_at_call 109; refine (IC.out _).mono ?_; rintro e w1 ⟨rfl, rfl⟩; rw [HI.out])
    rw [KD.out _ _ 4 [byteL (240 + c / 262144), byteL (128 + c / 4096 % 64), byteL (128 + c / 64 % 64), byteL (128 + c % 64)] rfl (by
      intro j hj
      rw [add0]
      obtain rfl | rfl | rfl | rfl : j = 0 ∨ j = 1 ∨ j = 2 ∨ j = 3 := by omega
      all_goals (simp [byteL_nat] <;> omega))]
    go_wp2
    go_ret
    exact ⟨rfl, (Below.refl _ _).alloc (Nat.le_refl _) _⟩

set_option maxRecDepth 100000 in
set_option maxHeartbeats 2000000 in
theorem rbytes_calls (w : World) (c : Int) :
    Calls Tryz.prog 89 #[.int .i64 c] w fun e w' => e = .returned (.string (mkS (bytesL c))) ∧ Below w.heap.size w w' := by
  cases hi : isI c with
  | true =>
    refine (rchar_calls w c hi).mono ?_
    rintro e w' ⟨rfl, h⟩
    exact ⟨by rw [bytesL, if_pos hi], h⟩
  | false =>
    have hq : bytesL c = charL 65533 := by rw [bytesL, if_neg (by rw [hi]; simp)]
    have IC := Lib.hid (fun W => ris2_calls W c)
    have BC := Lib.hid (fun W => rchar_calls W 65533 rfl)
    have HI := Lib.hid hi
    rw [hq]
    clear hi hq
    go_enter Tryz.func89, Tryz.ntmps89
    go_wp2_with (first | (go_at_call 109; refine (IC.out _).mono ?_; rintro e w1 ⟨rfl, rfl⟩; rw [HI.out]) | (go_at_call 89; refine (BC.out _).mono ?_; rintro e w2 ⟨rfl, hb2⟩))
    go_ret
    exact ⟨rfl, hb2⟩

/-- The lowest bits of a byte that goes on; -1: it is none. -/
def rlowI (s : ByteArray) (i : Nat) : Int := if i < s.size ∧ 128 ≤ bI s i ∧ bI s i ≤ 191 then bI s i - 128 else -1
set_option maxHeartbeats 1000000 in
theorem rlow_calls (w : World) (s : ByteArray) (i : Nat) :
    Calls Tryz.prog 108 #[.string s, .int .i64 i] w fun e w' => e = .returned (.int .i64 (rlowI s i)) ∧ w = w' := by
  have hbt := bI_at s
  have hr := bI_range s i
  unfold rlowI
  by_cases h : i < s.size
  · have hi' : (i : Int) < s.size := by omega
    by_cases h1 : 128 ≤ bI s i
    · by_cases h2 : bI s i ≤ 191
      · rw [if_pos ⟨h, h1, h2⟩]
        go_enter Tryz.func108, Tryz.ntmps108
        go_wp2
        go_ret
        exact ⟨rfl, rfl⟩
      · rw [if_neg (fun x => h2 x.2.2)]
        go_enter Tryz.func108, Tryz.ntmps108
        go_wp2
        go_ret
        exact ⟨rfl, rfl⟩
    · rw [if_neg (fun x => h1 x.2.1)]
      go_enter Tryz.func108, Tryz.ntmps108
      go_wp2
      go_ret
      exact ⟨rfl, rfl⟩
  · rw [if_neg (fun x => h x.1)]
    go_enter Tryz.func108, Tryz.ntmps108
    go_wp2
    go_ret
    exact ⟨rfl, rfl⟩

end Go.Proofs.YthfkldheflmlmaaGreatDoor
