/- The reference's searches (rectoref03, rectoref05): contracts. -/
import Derived.Test.YthfkldheflmlmaaGreatDoorTagW
namespace Go.Proofs.YthfkldheflmlmaaGreatDoor
open Go.RowKit Go.Lib

set_option maxHeartbeats 1000000 in
theorem rletter_calls (w : World) (c : Int) : Calls Tryz.prog 93 #[.int .u8 c] w fun e w' => e = .returned (.bool (letterI c)) ∧ w = w' := by
  unfold letterI
  by_cases h1 : 65 ≤ c
  · by_cases h2 : c ≤ 90
    · go_enter Tryz.func93, Tryz.ntmps93
      go_wp2
      go_ret
      exact ⟨by simp [h1, h2], rfl⟩
    · by_cases h3 : 97 ≤ c
      · go_enter Tryz.func93, Tryz.ntmps93
        go_wp2
        go_ret
        exact ⟨by simp; omega, rfl⟩
      · go_enter Tryz.func93, Tryz.ntmps93
        go_wp2
        go_ret
        exact ⟨by simp; omega, rfl⟩
  · go_enter Tryz.func93, Tryz.ntmps93
    go_wp2
    go_ret
    exact ⟨by simp; omega, rfl⟩
set_option maxRecDepth 100000 in
set_option maxHeartbeats 1000000 in
theorem ris_calls (w : World) (s x : ByteArray) (i : Nat) (hs : s.size ≤ 1000000) (hx : x.size ≤ 1000000) (hx0 : 0 < x.size) (hi : i ≤ 1000000) :
    Calls Tryz.prog 57 #[.string s, .int .i64 i, .string x] w fun e w' => e = .returned (.bool (hasPrefix (s.data.toList.drop i) x.data.toList)) ∧ w = w' := by
  have e1 : IntKind.i64.wrap ((s.size : Int) - (i : Int)) = (s.size : Int) - (i : Int) := IntWalk.i64_in _ (by omega)
  by_cases h1 : (x.size : Int) ≤ (s.size : Int) - (i : Int)
  · have e2 : IntKind.i64.wrap ((i : Int) + (x.size : Int)) = (i : Int) + (x.size : Int) := IntWalk.i64_in _ (by omega)
    have i1 : (i : Int) ≤ (i : Int) + (x.size : Int) := by omega
    have i2 : (i : Int) + (x.size : Int) ≤ (s.size : Int) := by omega
    have i3 : ((i : Int) + (x.size : Int)).toNat = i + x.size := by omega
    have hq : ((s.extract i (i + x.size)).toList == x.toList) = hasPrefix (s.data.toList.drop i) x.data.toList := by
      rw [ByteArray.toList_eq, ByteArray.toList_eq, toL_extract, hasPrefix, Bool.eq_iff_iff, beq_iff_eq, List.isPrefixOf_iff_prefix, List.prefix_iff_eq_take, len_toL]
      rw [show i + x.size - i = x.size by omega]
      exact ⟨fun h => h.symm, fun h => h.symm⟩
    obtain ⟨r, hr⟩ : ∃ r, hasPrefix (s.data.toList.drop i) x.data.toList = r := ⟨_, rfl⟩
    rw [hr] at hq ⊢
    clear hr
    go_enter Tryz.func57, Tryz.ntmps57
    go_wp2
    go_ret
    exact ⟨rfl, rfl⟩
  · have hq : hasPrefix (s.data.toList.drop i) x.data.toList = false := by
      rw [hasPrefix, Bool.eq_false_iff]
      intro h
      have := (List.isPrefixOf_iff_prefix.1 h).length_le
      rw [List.length_drop, len_toL, len_toL] at this
      omega
    rw [hq]
    clear hq
    go_enter Tryz.func57, Tryz.ntmps57
    go_wp2
    go_ret
    exact ⟨rfl, rfl⟩
/-- Where a text stands first; the length: nowhere. -/
def rfindL (x : List UInt8) : List UInt8 → Nat
  | [] => 0
  | b :: t => if hasPrefix (b :: t) x = true then 0 else 1 + rfindL x t
theorem rfindL_le (x l : List UInt8) : rfindL x l ≤ l.length := by
  induction l with
  | nil => simp [rfindL]
  | cons b t ih => rw [rfindL]; split <;> simp <;> omega
set_option maxRecDepth 100000 in
set_option maxHeartbeats 1000000 in
theorem rfind_calls (w : World) (s x : ByteArray) (i : Nat) (hs : s.size ≤ 1000000) (hx : x.size ≤ 1000000) (hx0 : 0 < x.size) (hi : i ≤ s.size) :
    Calls Tryz.prog 68 #[.string s, .int .i64 i, .string x] w fun e w' => e = .returned (.int .i64 ((i + rfindL x.data.toList (s.data.toList.drop i) : Nat) : Int)) ∧ w = w' := by
  have IC := Lib.hid (fun W k h => ris_calls W s x k hs hx hx0 h)
  go_enter Tryz.func68, Tryz.ntmps68
  go_wp2
  go_loopw [7] (fun a wr => ∃ k : Nat, i ≤ k ∧ k ≤ s.size ∧ a = .int .i64 k ∧ w = wr ∧ Hid (i + rfindL x.data.toList (s.data.toList.drop i) = k + rfindL x.data.toList (s.data.toList.drop k))) (fun a _ => s.size - (RowKit.intOf a).toNat)
  case atStart => exact ⟨i, Nat.le_refl _, hi, rfl, rfl, Lib.hid rfl⟩
  case round =>
    obtain ⟨k, hik, hk, rfl, rfl, HI⟩ := hrel
    by_cases hlt : k < s.size
    · have hlt' : (k : Int) < s.size := by omega
      have hd := drop_uB s k hlt
      cases e1 : hasPrefix (s.data.toList.drop k) x.data.toList with
      | true =>
        have hq : i + rfindL x.data.toList (s.data.toList.drop i) = k := by rw [HI.out, hd, rfindL, if_pos (by rw [← hd]; exact e1)]; omega
        have HQ := Lib.hid hq
        clear hq hd
        go_wp2_with (go_at_call 57; refine (IC.out _ k (by omega)).mono ?_; rintro e w1 ⟨rfl, rfl⟩; rw [e1])
        go_ret
        exact ⟨by rw [HQ.out]; rfl, rfl⟩
      | false =>
        have hq : i + rfindL x.data.toList (s.data.toList.drop i) = (k + 1) + rfindL x.data.toList (s.data.toList.drop (k + 1)) := by rw [HI.out, hd, rfindL, if_neg (by rw [← hd, e1]; simp)]; omega
        have HQ := Lib.hid hq
        clear hq hd
        go_wp2_with (go_at_call 57; refine (IC.out _ k (by omega)).mono ?_; rintro e w1 ⟨rfl, rfl⟩; rw [e1])
        go_roundw
        case rel => exact ⟨k + 1, by omega, by omega, by go_num, trivial, HQ⟩
        case measure => simp [RowKit.intOf]; omega
    · have hq : i + rfindL x.data.toList (s.data.toList.drop i) = k := by rw [HI.out, List.drop_eq_nil_of_le (by rw [len_toL]; omega), rfindL]; omega
      have HQ := Lib.hid hq
      clear hq
      go_wp2_with fail
      go_ret
      exact ⟨by rw [HQ.out]; rfl, rfl⟩
set_option maxRecDepth 100000 in
set_option maxHeartbeats 1000000 in
theorem rletterAt_calls (w : World) (s : ByteArray) (i : Nat) :
    Calls Tryz.prog 65 #[.string s, .int .i64 i] w fun e w' => e = .returned (.bool (decide (i < s.size) && letterI (bI s i))) ∧ w = w' := by
  have LC := Lib.hid (fun W => rletter_calls W)
  have hbt := bI_at s
  by_cases h : i < s.size
  · have hi' : (i : Int) < s.size := by omega
    have hr := bI_range s i
    obtain ⟨r, hr'⟩ : ∃ r, letterI (bI s i) = r := ⟨_, rfl⟩
    have hd : decide (i < s.size) = true := by simpa using h
    rw [hd, hr', Bool.true_and]
    clear hd
    go_enter Tryz.func65, Tryz.ntmps65
    go_wp2_with (go_at_call 93; refine (LC.out _ _).mono ?_; rintro e w1 ⟨rfl, rfl⟩; rw [hr'])
    go_ret
    exact ⟨rfl, rfl⟩
  · have hd : decide (i < s.size) = false := by simpa using h
    rw [hd, Bool.false_and]
    clear hd
    go_enter Tryz.func65, Tryz.ntmps65
    go_wp2
    go_ret
    exact ⟨rfl, rfl⟩

end Go.Proofs.YthfkldheflmlmaaGreatDoor
