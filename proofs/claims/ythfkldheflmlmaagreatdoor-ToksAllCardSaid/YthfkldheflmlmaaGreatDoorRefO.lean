/- The reference's text with its references read (rectoref04.All): its contract. -/
import Derived.Test.YthfkldheflmlmaaGreatDoorRefM
namespace Go.Proofs.YthfkldheflmlmaaGreatDoor
open Go.RowKit Go.Lib

set_option maxRecDepth 100000 in
set_option maxHeartbeats 4000000 in
theorem rallR_calls (w : World) (s : ByteArray) (value : Bool) (hs : s.size ≤ 1000000) :
    Calls Tryz.prog 29 #[.string s, .bool value] w fun e w' => e = .returned (.string (mkS (allL s.data.toList value))) ∧ Below w.heap.size w w' := by
  have AC := Lib.hid (fun W i hi => ratR_calls W s i value hi hs)
  obtain ⟨L, hL⟩ : ∃ L, s.data.toList = L := ⟨_, rfl⟩
  have hlen : L.length = s.size := by rw [← hL, len_toL]
  rw [hL] at AC ⊢
  clear hL
  go_enter Tryz.func29, Tryz.ntmps29
  go_wp2
  go_loopw [5, 6] (fun o a wr => ∃ (k : Nat) (ol : List UInt8), k ≤ s.size ∧ a = .int .i64 k ∧ o = .string (mkS ol) ∧ Below w.heap.size w wr ∧ ol.length ≤ 4 * k ∧ Hid (allL L value = ol ++ allL (L.drop k) value)) (fun _ a _ => s.size - (RowKit.intOf a).toNat)
  case atStart => exact ⟨0, [], Nat.zero_le _, rfl, rfl, Below.refl _ _, Nat.le_refl _, Lib.hid rfl⟩
  case round =>
    obtain ⟨k, ol, hk, rfl, rfl, hB, hol, HI⟩ := hrel
    by_cases hlt : k < s.size
    · have hlt' : (k : Int) < s.size := by omega
      have hne : L.drop k ≠ [] := fun e => by have := congrArg List.length e; rw [List.length_drop] at this; simp at this; omega
      have hp := atL_pos (L.drop k) value hne
      have h4 := atL_len (L.drop k) value
      rw [List.length_drop] at hp
      have hst := allL_step (L.drop k) value hne
      rw [List.drop_drop] at hst
      have HQ : Hid (allL L value = (ol ++ (atL (L.drop k) value).1) ++ allL (L.drop (k + (atL (L.drop k) value).2)) value) := Lib.hid (by rw [HI.out, hst, List.append_assoc])
      have AK := Lib.hid (fun W => AC.out W k hlt)
      clear hst hne HI AC
      generalize atL (L.drop k) value = x at *
      have z1 : (mkS ol).size ≤ 4 * k := by rw [size_mkS]; omega
      have z2 : (mkS x.1).size ≤ 4 := by rw [size_mkS]; omega
      obtain ⟨n, hn⟩ : ∃ n : Nat, (k : Int) + x.2 = (n : Nat) := ⟨k + x.2, by omega⟩
      have hn2 : k + x.2 = n := by omega
      rw [hn] at AK
      rw [hn2] at HQ
      have hn3 : k < n ∧ n ≤ s.size ∧ 4 * k + 4 ≤ 4 * n := by omega
      clear hn hn2 hp
      go_wp2_with (go_at_call 64; (with_reducible refine (AK.out _).mono ?_); rintro e w1 ⟨rfl, hb1⟩)
      go_roundw
      case rel => exact ⟨n, ol ++ x.1, by omega, by trivial, by rw [mkS_snoc _ _ _ (of_mkS _)], (below_then hB hB.size hb1).alloc (below_then hB hB.size hb1).size _, by rw [List.length_append]; omega, HQ⟩
      case measure => simp [RowKit.intOf]; omega
    · have hq : allL L value = ol := by rw [HI.out, List.drop_eq_nil_of_le (by omega), allL_nil, List.append_nil]
      have HQ := Lib.hid hq
      clear hq HI
      go_wp2
      go_ret
      exact ⟨by rw [HQ.out]; rfl, hB⟩

end Go.Proofs.YthfkldheflmlmaaGreatDoor
