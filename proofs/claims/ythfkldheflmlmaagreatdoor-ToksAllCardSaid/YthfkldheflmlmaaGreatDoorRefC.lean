/- The reference's small letters (rectoref03.Lower): its contract. -/
import Derived.Test.YthfkldheflmlmaaGreatDoorRefB
namespace Go.Proofs.YthfkldheflmlmaaGreatDoor
open Go.RowKit Go.Lib

theorem mkS_snoc (l : List UInt8) (x : ByteArray) (m : List UInt8) (h : x.data.toList = m) : mkS l ++ x = mkS (l ++ m) := by
  subst h
  apply ByteArray.ext
  apply Array.ext'
  simp [mkS]
theorem one_toL (s : ByteArray) (k : Nat) (h : k < s.size) : (s.extract k (k + 1)).data.toList = [uB s k] := by
  rw [toL_extract, drop_uB s k h, show k + 1 - k = 1 by omega]; rfl
theorem take_step (s : ByteArray) (k : Nat) (h : k < s.size) : s.data.toList.take (k + 1) = s.data.toList.take k ++ [uB s k] := by
  have hl : k < s.data.toList.length := by rw [len_toL]; exact h
  rw [List.take_succ_eq_append_getElem hl, uB, List.getD, List.getElem?_eq_getElem hl]
  rfl
set_option maxRecDepth 100000 in
set_option maxHeartbeats 1000000 in
theorem rlower_calls (w : World) (s : ByteArray) (hs : s.size ≤ 1000000) :
    Calls Tryz.prog 58 #[.string s] w fun e w' => e = .returned (.string (mkS (lowL s.data.toList))) ∧ Below w.heap.size w w' := by
  have KB := Lib.hid (fun W a b hb0 hb1 n c hn hc => run_one_byte (P := Tryz.prog) W a b hb0 hb1 63 9 5 Tryz.underlying63 Tryz.underlying5 Tryz.underlying9 n c hn hc)
  have hbt := bI_at s
  go_enter Tryz.func58, Tryz.ntmps58
  go_wp2
  go_loopw [3, 4] (fun o a wr => ∃ k : Nat, k ≤ s.size ∧ a = .int .i64 k ∧ o = .string (mkS (lowL (s.data.toList.take k))) ∧ Below w.heap.size w wr) (fun _ a _ => s.size - (RowKit.intOf a).toNat)
  case atStart => exact ⟨0, Nat.zero_le _, rfl, rfl, Below.refl _ _⟩
  case round =>
    obtain ⟨k, hk, rfl, rfl, hB⟩ := hrel
    by_cases hlt : k < s.size
    · have hlt' : (k : Int) < s.size := by omega
      have hr := bI_range s k
      have hstep : lowL (s.data.toList.take (k + 1)) = lowL (s.data.toList.take k) ++ [lowB (uB s k)] := by rw [take_step s k hlt, lowL, lowL, List.map_append]; rfl
      have hu : bI s k = ((uB s k).toNat : Int) := rfl
      have z1 : (mkS (lowL (s.data.toList.take k))).size = k := by rw [size_mkS, lowL, List.length_map, List.length_take, len_toL]; omega
      by_cases h1 : 65 ≤ (uB s k).toNat ∧ (uB s k).toNat ≤ 90
      · have hlow : byteL (bI s k + 32) = lowB (uB s k) := by
          rw [hu, ← lowB_up h1.1 h1.2]; simp [byteL]
        have HS := Lib.hid hstep
        have h11 : 65 ≤ bI s k := by omega
        have h12 : bI s k ≤ 90 := by omega
        have HL := Lib.hid hlow
        have z2 : (mkS [byteL (bI s k + 32)]).size = 1 := by rw [size_mkS]; rfl
        clear hstep hlow hu
        go_wp2
        rw [KB.out _ _ (bI s k + 32) (by omega) (by omega) _ _ rfl (by go_simp)]
        go_wp2
        go_roundw
        case rel => exact ⟨k + 1, by omega, by go_num, by rw [HS.out, HL.out]; exact congrArg Value.string (mkS_snoc _ _ _ (of_mkS _)), hB.alloc hB.size _⟩
        case measure => simp [RowKit.intOf]; omega
      · have hlow : lowB (uB s k) = uB s k := by rw [lowB, if_neg h1]
        rw [hlow] at hstep
        have HS := Lib.hid hstep
        have h1' : ¬ (65 ≤ bI s k ∧ bI s k ≤ 90) := by omega
        have HX := Lib.hid (one_toL s k hlt)
        have z2 : (s.extract k (k + 1)).size = 1 := by rw [← len_toL, HX.out]; rfl
        have i1 : (k : Int) ≤ (k : Int) + 1 := by omega
        have i2 : (k : Int) + 1 ≤ (s.size : Int) := by omega
        have i3 : ((k : Int) + 1).toNat = k + 1 := by omega
        clear hstep hlow hu h1
        by_cases h2 : 65 ≤ bI s k
        · have h3 : ¬ bI s k ≤ 90 := by omega
          go_wp2
          go_roundw
          case rel => exact ⟨k + 1, by omega, by go_num, by rw [HS.out]; exact congrArg Value.string (mkS_snoc _ _ _ HX.out), hB⟩
          case measure => simp [RowKit.intOf]; omega
        · go_wp2
          go_roundw
          case rel => exact ⟨k + 1, by omega, by go_num, by rw [HS.out]; exact congrArg Value.string (mkS_snoc _ _ _ HX.out), hB⟩
          case measure => simp [RowKit.intOf]; omega
    · obtain rfl : k = s.size := by omega
      have hq : s.data.toList.take s.size = s.data.toList := by rw [← len_toL, List.take_length]
      go_wp2
      go_ret
      exact ⟨by rw [hq]; rfl, hB⟩

end Go.Proofs.YthfkldheflmlmaaGreatDoor
