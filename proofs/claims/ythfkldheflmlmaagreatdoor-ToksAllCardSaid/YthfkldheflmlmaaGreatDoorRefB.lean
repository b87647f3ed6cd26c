/- The reference's single bytes, small letters, spaces and ends of names (rectoref03, rectoref05): contracts. -/
import Derived.Test.YthfkldheflmlmaaGreatDoorRefA
namespace Go.Proofs.YthfkldheflmlmaaGreatDoor
open Go.RowKit Go.Lib

set_option maxHeartbeats 400000 in
theorem rspace_calls (w : World) (c : Int) :
    Calls Tryz.prog 59 #[.int .u8 c] w fun e w' => e = .returned (.bool (spaceI c)) ∧ w = w' := by
  unfold spaceI
  go_enter Tryz.func59, Tryz.ntmps59
  by_cases h1 : c = 9
  · subst h1; go_wp2; go_ret; exact ⟨rfl, rfl⟩
  have e1 : (c == 9) = false := by simpa using h1
  by_cases h2 : c = 10
  · subst h2; go_wp2; go_ret; exact ⟨rfl, rfl⟩
  have e2 : (c == 10) = false := by simpa using h2
  by_cases h3 : c = 12
  · subst h3; go_wp2; go_ret; exact ⟨rfl, rfl⟩
  have e3 : (c == 12) = false := by simpa using h3
  go_wp2; go_ret; exact ⟨by simp [e1, e2, e3], rfl⟩
set_option maxHeartbeats 400000 in
theorem rdigit_calls (w : World) (c : Int) :
    Calls Tryz.prog 111 #[.int .u8 c] w fun e w' => e = .returned (.bool (digitI c)) ∧ w = w' := by
  unfold digitI
  go_enter Tryz.func111, Tryz.ntmps111
  by_cases h1 : 48 ≤ c <;> (go_wp2; go_ret; exact ⟨by simp [*] <;> omega, rfl⟩)
set_option maxRecDepth 100000 in
set_option maxHeartbeats 1000000 in
theorem rone_calls (w : World) (b : Int) (hb0 : 0 ≤ b) (hb1 : b ≤ 255) :
    Calls Tryz.prog 87 #[.int .u8 b] w fun e w' => e = .returned (.string (mkS [byteL b])) ∧ Below w.heap.size w w' := by
  have KB := Lib.hid (fun W a n c hn hc => run_one_byte (P := Tryz.prog) W a b hb0 hb1 63 9 5 Tryz.underlying63 Tryz.underlying5 Tryz.underlying9 n c hn hc)
  go_enter Tryz.func87, Tryz.ntmps87
  go_wp2
  rw [KB.out _ _ _ _ rfl (by go_simp)]
  go_wp2
  go_ret
  exact ⟨rfl, (Below.refl _ _).alloc (Nat.le_refl _) _⟩
set_option maxRecDepth 100000 in
set_option maxHeartbeats 1000000 in
theorem rskip_calls (w : World) (s : ByteArray) (i : Nat) (hs : s.size ≤ 1000000) (hi : i ≤ s.size) :
    Calls Tryz.prog 61 #[.string s, .int .i64 i] w fun e w' => e = .returned (.int .i64 ((i + spN (s.data.toList.drop i) : Nat) : Int)) ∧ w = w' := by
  have SC := Lib.hid (fun W c => rspace_calls W c)
  have hbt := bI_at s
  go_enter Tryz.func61, Tryz.ntmps61
  go_wp2
  go_loopw [5] (fun a wr => ∃ k : Nat, i ≤ k ∧ k ≤ s.size ∧ a = .int .i64 k ∧ w = wr ∧ Hid (i + spN (s.data.toList.drop i) = k + spN (s.data.toList.drop k))) (fun a _ => s.size - (RowKit.intOf a).toNat)
  case atStart => exact ⟨i, Nat.le_refl _, hi, rfl, rfl, Lib.hid rfl⟩
  case round =>
    obtain ⟨k, hik, hk, rfl, rfl, HI⟩ := hrel
    by_cases hlt : k < s.size
    · have hlt' : (k : Int) < s.size := by omega
      have hd := drop_uB s k hlt
      have hr := bI_range s k
      cases e1 : spaceI (bI s k) with
      | false =>
        have hq : i + spN (s.data.toList.drop i) = k := by rw [HI.out, hd, spN_cons, if_neg (by rw [← bI_uB, e1]; simp)]; omega
        have HQ := Lib.hid hq
        clear hq hd
        go_wp2_with (go_at_call 59; refine (SC.out _ _).mono ?_; rintro e w1 ⟨rfl, rfl⟩; rw [e1])
        go_ret
        exact ⟨by rw [HQ.out]; rfl, rfl⟩
      | true =>
        have hq : i + spN (s.data.toList.drop i) = (k + 1) + spN (s.data.toList.drop (k + 1)) := by rw [HI.out, hd, spN_cons, if_pos (by rw [← bI_uB, e1])]; omega
        have HQ := Lib.hid hq
        clear hq hd
        go_wp2_with (go_at_call 59; refine (SC.out _ _).mono ?_; rintro e w1 ⟨rfl, rfl⟩; rw [e1])
        go_roundw
        case rel => exact ⟨k + 1, by omega, by omega, by go_num, trivial, HQ⟩
        case measure => simp [RowKit.intOf]; omega
    · have hq : i + spN (s.data.toList.drop i) = k := by rw [HI.out, List.drop_eq_nil_of_le (by rw [len_toL]; omega), spN]; simp
      have HQ := Lib.hid hq
      clear hq
      go_wp2_with fail
      go_ret
      exact ⟨by rw [HQ.out]; rfl, rfl⟩

theorem rfindL_one (b : UInt8) (l : List UInt8) : (rfindL [b] l == l.length) = !l.contains b := by
  induction l with
  | nil => rfl
  | cons c t ih =>
    have hp : hasPrefix (c :: t) [b] = (b == c) := by simp [hasPrefix, List.isPrefixOf]
    rw [rfindL, hp, List.contains_cons]
    cases h : (b == c) with
    | true => simp
    | false =>
      simp only [Bool.false_or, Bool.false_eq_true, if_false]
      rw [← ih, List.length_cons, Bool.eq_iff_iff, beq_iff_eq, beq_iff_eq]
      omega
theorem spaceU (b : UInt8) : spaceI b.toNat = (b == 9 || (b == 10 || (b == 12 || b == 32))) := by
  have : ∀ n : Fin 256, spaceI (UInt8.ofNat n.val).toNat = (UInt8.ofNat n.val == 9 || (UInt8.ofNat n.val == 10 || (UInt8.ofNat n.val == 12 || UInt8.ofNat n.val == 32))) := by decide +kernel
  have h := this ⟨b.toNat, b.toNat_lt⟩
  simpa using h
/-- Spaces, and other stops. -/
def spS (stops : List UInt8) : List UInt8 := 9 :: 10 :: 12 :: 32 :: stops
theorem stops_contains (stops : List UInt8) (b : UInt8) : (spS stops).contains b = (spaceI b.toNat || stops.contains b) := by
  rw [spaceU, spS, List.contains_cons, List.contains_cons, List.contains_cons, List.contains_cons, Bool.or_assoc, Bool.or_assoc, Bool.or_assoc]
theorem rfind_one (s : ByteArray) (b : UInt8) : ((((0 + rfindL [b] s.data.toList : Nat) : Int)) == (s.size : Int)) = !s.data.toList.contains b := by
  rw [← rfindL_one, len_toL, Bool.eq_iff_iff, beq_iff_eq, beq_iff_eq]
  omega

set_option maxRecDepth 100000 in
set_option maxHeartbeats 2000000 in
theorem rends_calls (w : World) (s x : ByteArray) (i : Nat) (hs : s.size ≤ 1000000) (hx : x.size ≤ 1000000) (hi : i ≤ s.size) :
    Calls Tryz.prog 60 #[.string s, .int .i64 i, .string x] w fun e w' => e = .returned (.int .i64 ((i + untN (spS x.data.toList) (s.data.toList.drop i) : Nat) : Int)) ∧ Below w.heap.size w w' := by
  have SC := Lib.hid (fun W c => rspace_calls W c)
  have OC := Lib.hid (fun W b h0 h1 => rone_calls W b h0 h1)
  have FC := Lib.hid (fun W (b : UInt8) => rfind_calls W x (mkS [b]) 0 hx (by rw [size_mkS]; simp) (by rw [size_mkS]; simp) (Nat.zero_le _))
  have hbt := bI_at s
  go_enter Tryz.func60, Tryz.ntmps60
  go_wp2
  go_loopw [7] (fun a wr => ∃ k : Nat, i ≤ k ∧ k ≤ s.size ∧ a = .int .i64 k ∧ Below w.heap.size w wr ∧ Hid (i + untN (spS x.data.toList) (s.data.toList.drop i) = k + untN (spS x.data.toList) (s.data.toList.drop k))) (fun a _ => s.size - (RowKit.intOf a).toNat)
  case atStart => exact ⟨i, Nat.le_refl _, hi, rfl, Below.refl _ _, Lib.hid rfl⟩
  case round =>
    obtain ⟨k, hik, hk, rfl, hB, HI⟩ := hrel
    by_cases hlt : k < s.size
    · have hlt' : (k : Int) < s.size := by omega
      have hd := drop_uB s k hlt
      have hr := bI_range s k
      have hbL := byteL_bI s k
      cases e1 : spaceI (bI s k) with
      | true =>
        have hq : i + untN (spS x.data.toList) (s.data.toList.drop i) = k := by rw [HI.out, hd, untN_cons, stops_contains, ← bI_uB, e1]; simp
        have HQ := Lib.hid hq
        clear hq hd
        go_wp2_with (go_at_call 59; refine (SC.out _ _).mono ?_; rintro e w1 ⟨rfl, rfl⟩; rw [e1])
        go_ret
        exact ⟨by rw [HQ.out]; rfl, hB⟩
      | false =>
        have FC1 := fun W => FC.out W (uB s k)
        rw [of_mkS, List.drop_zero] at FC1
        have hf1 := rfind_one x (uB s k)
        generalize rfindL [uB s k] x.data.toList = fz at *
        have FC1 := Lib.hid FC1
        cases e2 : x.data.toList.contains (uB s k) with
        | true =>
          have hq : i + untN (spS x.data.toList) (s.data.toList.drop i) = k := by rw [HI.out, hd, untN_cons, stops_contains, e2]; simp
          have HQ := Lib.hid hq
          rw [e2, Bool.not_true] at hf1
          clear hq hd
          go_wp2_with (first | (go_at_call 59; refine (SC.out _ _).mono ?_; rintro e w1 ⟨rfl, rfl⟩; rw [e1]) | (go_at_call 87; refine (OC.out _ _ hr.1 hr.2).mono ?_; rintro e w2 ⟨rfl, hb2⟩; rw [hbL]) | (go_at_call 68; refine (FC1.out _).mono ?_; rintro e w3 ⟨rfl, rfl⟩))
          go_ret
          exact ⟨by rw [HQ.out]; rfl, below_then hB hB.size hb2⟩
        | false =>
          have hq : i + untN (spS x.data.toList) (s.data.toList.drop i) = (k + 1) + untN (spS x.data.toList) (s.data.toList.drop (k + 1)) := by rw [HI.out, hd, untN_cons, stops_contains, ← bI_uB, e1, e2]; simp; omega
          have HQ := Lib.hid hq
          rw [e2, Bool.not_false] at hf1
          clear hq hd
          go_wp2_with (first | (go_at_call 59; refine (SC.out _ _).mono ?_; rintro e w1 ⟨rfl, rfl⟩; rw [e1]) | (go_at_call 87; refine (OC.out _ _ hr.1 hr.2).mono ?_; rintro e w2 ⟨rfl, hb2⟩; rw [hbL]) | (go_at_call 68; refine (FC1.out _).mono ?_; rintro e w3 ⟨rfl, rfl⟩))
          go_roundw
          case rel => exact ⟨k + 1, by omega, by omega, by go_num, below_then hB hB.size hb2, HQ⟩
          case measure => simp [RowKit.intOf]; omega
    · have hq : i + untN (spS x.data.toList) (s.data.toList.drop i) = k := by rw [HI.out, List.drop_eq_nil_of_le (by rw [len_toL]; omega), untN]; simp
      have HQ := Lib.hid hq
      clear hq
      go_wp2_with fail
      go_ret
      exact ⟨by rw [HQ.out]; rfl, hB⟩

end Go.Proofs.YthfkldheflmlmaaGreatDoor
