/- Walks of package refs: numbers, names, all of a text. -/
import Derived.Test.YthfkldheflmlmaaGreatDoorLib
import Derived.Deep.DeepCutAuto
import Derived.Deep.CutBlock
namespace Go.Proofs.YthfkldheflmlmaaGreatDoor
open Go.RowKit

theorem ret_int {k : IntKind} {a b : Int} (h : a = b) : Ending.returned (.int k a) = .returned (.int k b) := by rw [h]

def uB (s : ByteArray) (i : Nat) : UInt8 := s.data.toList.getD i 0
theorem bI_uB (s : ByteArray) (i : Nat) : bI s i = ((uB s i).toNat : Int) := rfl
theorem len_toL (s : ByteArray) : s.data.toList.length = s.size := Array.length_toList
theorem drop_uB (s : ByteArray) (n : Nat) (h : n < s.size) : s.data.toList.drop n = uB s n :: s.data.toList.drop (n + 1) := by
  have hl : n < s.data.toList.length := by rw [len_toL]; exact h
  rw [List.drop_eq_getElem_cons hl, uB, List.getD, List.getElem?_eq_getElem hl]
  rfl
theorem toL_extract (s : ByteArray) (a b : Nat) : (s.extract a b).data.toList = (s.data.toList.drop a).take (b - a) := by
  rw [← ByteArray.toList_eq]; exact Lib.extract_toList s a b
theorem toL_from (s : ByteArray) (a : Nat) : (s.extract a s.size).data.toList = s.data.toList.drop a := by
  rw [toL_extract, List.take_of_length_le (by simp)]
theorem size_from (s : ByteArray) (a : Nat) : (s.extract a s.size).size = s.size - a := by
  rw [← len_toL, toL_from]; simp
theorem bI_from (s : ByteArray) (a i : Nat) : bI (s.extract a s.size) i = bI s (a + i) := by
  rw [bI, bI, toL_from]
  simp [List.getD]

/-- A digit's value to a base; -1: it is none. -/
def digI (b : Int) (base : Int) : Int :=
  if digitI b then b - 48 else if base = 16 ∧ 97 ≤ b ∧ b ≤ 102 then b - 87 else if base = 16 ∧ 65 ≤ b ∧ b ≤ 70 then b - 55 else -1
theorem digI_le (b base : Int) (_h : 0 ≤ b) : -1 ≤ digI b base ∧ digI b base ≤ 15 := by
  unfold digI digitI
  split
  · rename_i h; simp at h; omega
  split
  · omega
  split <;> omega

set_option maxHeartbeats 1000000 in
theorem dig_calls (w : World) (b base : Int) (h0 : 0 ≤ b) (h1 : b ≤ 255) :
    Calls Tryz.prog 106 #[.int .u8 b, .int .i64 base] w fun e w' => e = .returned (.int .i64 (digI b base)) ∧ w = w' := by
  have DC := Lib.hid (fun w => digit_calls w b)
  by_cases hd : 48 ≤ b ∧ b ≤ 57
  · have hv : digI b base = b - 48 := by simp [digI, digitI, hd]
    have hdig : digitI b = true := by simp [digitI, hd]
    have HD := Lib.hid hdig
    rw [hv]
    clear hv hdig
    obtain ⟨hd0, hd1⟩ := hd
    go_enter Tryz.func106, Tryz.ntmps106
    go_wp2_with (go_at_call 40; refine (DC.out _).mono ?_; rintro e w1 ⟨rfl, rfl⟩; rw [HD.out])
    go_ret
    exact ⟨ret_int (by omega), rfl⟩
  have hdig : digitI b = false := by simp [digitI]; omega
  have HD := Lib.hid hdig
  by_cases hb : base = 16
  · have hb1 : (base == 16) = true := by simp [hb]
    by_cases h2 : 97 ≤ b
    · by_cases h3 : b ≤ 102
      · have hv : digI b base = b - 87 := by simp [digI, hdig, hb, h2, h3]
        rw [hv]
        clear hv hdig hb hd
        go_enter Tryz.func106, Tryz.ntmps106
        go_wp2_with (go_at_call 40; refine (DC.out _).mono ?_; rintro e w1 ⟨rfl, rfl⟩; rw [HD.out])
        go_ret
        exact ⟨ret_int (by omega), rfl⟩
      · have hv : digI b base = -1 := by simp [digI, hdig, hb, h3]; omega
        have h4 : ¬ b ≤ 70 := by omega
        rw [hv]
        clear hv hdig hb hd
        go_enter Tryz.func106, Tryz.ntmps106
        go_wp2_with (go_at_call 40; refine (DC.out _).mono ?_; rintro e w1 ⟨rfl, rfl⟩; rw [HD.out])
        go_ret
        exact ⟨rfl, rfl⟩
    · by_cases h4 : 65 ≤ b
      · by_cases h5 : b ≤ 70
        · have hv : digI b base = b - 55 := by simp [digI, hdig, hb, h2, h4, h5]
          rw [hv]
          clear hv hdig hb hd
          go_enter Tryz.func106, Tryz.ntmps106
          go_wp2_with (go_at_call 40; refine (DC.out _).mono ?_; rintro e w1 ⟨rfl, rfl⟩; rw [HD.out])
          go_ret
          exact ⟨ret_int (by omega), rfl⟩
        · have hv : digI b base = -1 := by simp [digI, hdig, hb, h2, h5]
          rw [hv]
          clear hv hdig hb hd
          go_enter Tryz.func106, Tryz.ntmps106
          go_wp2_with (go_at_call 40; refine (DC.out _).mono ?_; rintro e w1 ⟨rfl, rfl⟩; rw [HD.out])
          go_ret
          exact ⟨rfl, rfl⟩
      · have hv : digI b base = -1 := by simp [digI, hdig, hb, h2, h4]
        rw [hv]
        clear hv hdig hb hd
        go_enter Tryz.func106, Tryz.ntmps106
        go_wp2_with (go_at_call 40; refine (DC.out _).mono ?_; rintro e w1 ⟨rfl, rfl⟩; rw [HD.out])
        go_ret
        exact ⟨rfl, rfl⟩
  · have hv : digI b base = -1 := by simp [digI, hdig, hb]
    have hb1 : (base == 16) = false := by simp [hb]
    rw [hv]
    clear hv hdig hb hd
    go_enter Tryz.func106, Tryz.ntmps106
    go_wp2_with (go_at_call 40; refine (DC.out _).mono ?_; rintro e w1 ⟨rfl, rfl⟩; rw [HD.out])
    go_ret
    exact ⟨rfl, rfl⟩

/-- The lesser of a number and one more than the greatest character. -/
def capI (x : Int) : Int := Min.min x 1114112
theorem capI_range {x : Int} (h : 0 ≤ x) : 0 ≤ capI x ∧ capI x ≤ 1114112 := by unfold capI; omega
/-- The value of the digits with which a list begins, and how many there are. -/
def digsL (base : Int) : List UInt8 → Int → Int × Nat
  | [], v => (v, 0)
  | b :: t, v => if digI b.toNat base < 0 then (v, 0) else ((digsL base t (capI (v * base + digI b.toNat base))).1, (digsL base t (capI (v * base + digI b.toNat base))).2 + 1)
def hexL (l : List UInt8) : Bool := match l with | b :: _ => b.toNat == 120 || b.toNat == 88 | [] => false
def headIs (l : List UInt8) (c : Nat) : Bool := match l with | b :: _ => b.toNat == c | [] => false
/-- The character of a reference by a number with which a list begins, and how many bytes it has. -/
def numL (l : List UInt8) : Int × Nat :=
  let base : Int := if hexL l then 16 else 10
  let k0 : Nat := if hexL l then 1 else 0
  let r := digsL base (l.drop k0) 0
  if r.2 = 0 then (0, 0) else (numberI r.1, if headIs (l.drop (k0 + r.2)) 59 then k0 + r.2 + 1 else k0 + r.2)
theorem digsL_le (base : Int) : ∀ (l : List UInt8) (v : Int), (digsL base l v).2 ≤ l.length
  | [], _ => Nat.le_refl _
  | b :: t, v => by
    unfold digsL
    split
    · simp
    · have := digsL_le base t (capI (v * base + digI b.toNat base))
      simp; omega
theorem headIs_uB (s : ByteArray) (i c : Nat) (h : i < s.size) : headIs (s.data.toList.drop i) c = (bI s i == c) := by
  rw [drop_uB s i h, headIs, bI_uB]
  rw [Bool.eq_iff_iff]; simp; omega
theorem headIs_end (s : ByteArray) (i c : Nat) (h : s.size ≤ i) : headIs (s.data.toList.drop i) c = false := by
  rw [List.drop_eq_nil_of_le (by rw [len_toL]; exact h)]; rfl
theorem nonempty_toL {s : ByteArray} (h : 0 < s.size) : (s.toList.isEmpty) = false := by
  rw [ByteArray.toList_eq]; simpa using fun h' => (by omega : s.size ≠ 0) (by show s.data.size = 0; rw [h']; rfl)
theorem empty_toL {s : ByteArray} (h : s.size = 0) : s.toList = [] := by
  rw [ByteArray.toList_eq]; exact List.length_eq_zero_iff.mp (Array.length_toList.trans h)

set_option maxRecDepth 100000 in
set_option maxHeartbeats 2000000 in
theorem num_calls (w : World) (s : ByteArray) (ht : Glob w 3 turnsCells) (hs : s.size ≤ 1000000000) :
    Calls Tryz.prog 85 #[.string s] w fun e w' => e = .returned (.tuple #[.int .i64 (numL s.data.toList).1, .int .i64 (numL s.data.toList).2]) ∧ Below w.heap.size w w' := by
  have hbt := bI_at s
  have HT := Lib.hid ht
  clear ht
  have hN : numL s.data.toList = if (digsL (if hexL s.data.toList then 16 else 10) (s.data.toList.drop (if hexL s.data.toList then 1 else 0)) 0).2 = 0 then (0, 0) else (numberI (digsL (if hexL s.data.toList then 16 else 10) (s.data.toList.drop (if hexL s.data.toList then 1 else 0)) 0).1, if headIs (s.data.toList.drop ((if hexL s.data.toList then 1 else 0) + (digsL (if hexL s.data.toList then 16 else 10) (s.data.toList.drop (if hexL s.data.toList then 1 else 0)) 0).2)) 59 then ((if hexL s.data.toList then 1 else 0) + (digsL (if hexL s.data.toList then 16 else 10) (s.data.toList.drop (if hexL s.data.toList then 1 else 0)) 0).2) + 1 else ((if hexL s.data.toList then 1 else 0) + (digsL (if hexL s.data.toList then 16 else 10) (s.data.toList.drop (if hexL s.data.toList then 1 else 0)) 0).2)) := rfl
  have HN := Lib.hid hN
  clear hN
  go_enter Tryz.func85, Tryz.ntmps85
  go_upto_region 2 with (fail)
  go_cut [19] (fun t wc => t = .bool (hexL s.data.toList) ∧ w = wc)
  case first =>
    by_cases h0 : s.size = 0
    · have hl := empty_toL h0
      have hv : hexL s.data.toList = false := by rw [← ByteArray.toList_eq, hl]; rfl
      have HV := Lib.hid hv
      clear h0 hv
      go_wp2
      go_meet
      case rel => exact ⟨by rw [HV.out] <;> rfl, rfl⟩
    · have hl := nonempty_toL (s := s) (by omega)
      have hr0 := bI_range s 0
      have hd0 := drop_uB s 0 (by omega)
      have hv : hexL s.data.toList = (bI s 0 == 120 || bI s 0 == 88) := by
        rw [List.drop_zero] at hd0
        rw [hd0, hexL, bI_uB, Bool.eq_iff_iff]; simp; omega
      have HV := Lib.hid hv
      have hsz : 0 < s.size := by omega
      clear h0 hv hd0
      by_cases h1 : bI s 0 = 120
      · have h1' : (bI s 0 == 120) = true := by simp [h1]
        have H1 := Lib.hid h1
        clear h1
        go_wp2
        go_meet
        case rel => exact ⟨by rw [HV.out, h1'] <;> rfl, rfl⟩
      · have h1' : (bI s 0 == 120) = false := by simp [h1]
        go_wp2
        go_meet
        case rel => exact ⟨by rw [HV.out, h1'] <;> rfl, rfl⟩
  case rest =>
    obtain ⟨rfl, rfl⟩ := hcut
    go_upto_if 19 with (fail)
    go_cut [4, 5] (fun b n wc => b = .int .i64 (if hexL s.data.toList then 16 else 10) ∧ n = .int .i64 ((if hexL s.data.toList then 1 else 0 : Nat) : Int) ∧ w = wc)
    case first =>
      cases hv : hexL s.data.toList with
      | true =>
        go_wp2
        go_meet
        case rel => exact ⟨by rw [hv]; rfl, by rw [hv]; rfl, rfl⟩
      | false =>
        go_wp2
        go_meet
        case rel => exact ⟨by rw [hv]; rfl, by rw [hv]; rfl, rfl⟩
    case rest =>
      obtain ⟨rfl, rfl, rfl⟩ := hcut
      have hk0 : (if hexL s.data.toList then 1 else 0) ≤ s.size := by
        split
        · rename_i hv
          have : s.data.toList ≠ [] := fun e => by rw [e] at hv; cases hv
          have h2 := List.length_pos_iff.mpr this
          rw [len_toL] at h2; omega
        · omega
      have hbase : (if hexL s.data.toList then (16 : Int) else 10) = 16 ∨ (if hexL s.data.toList then (16 : Int) else 10) = 10 := by split <;> simp
      generalize (if hexL s.data.toList then (16 : Int) else 10) = base at *
      generalize (if hexL s.data.toList then 1 else 0) = k0 at *
      go_upto_block 0 with (fail)
      go_cut [5, 6] (fun n v wc => ∃ (i : Nat) (x : Int), k0 ≤ i ∧ i ≤ s.size ∧ n = .int .i64 i ∧ v = .int .i64 x ∧ w = wc ∧ Hid (digsL base (s.data.toList.drop k0) 0 = (x, i - k0)))
      case first =>
        go_wp2
        go_loopw [5, 6] (fun n v wr => ∃ (i : Nat) (x : Int), k0 ≤ i ∧ i ≤ s.size ∧ n = .int .i64 i ∧ v = .int .i64 x ∧ 0 ≤ x ∧ x ≤ 1114112 ∧ w = wr ∧
          Hid (digsL base (s.data.toList.drop k0) 0 = ((digsL base (s.data.toList.drop i) x).1, (digsL base (s.data.toList.drop i) x).2 + (i - k0)))) (fun n _ _ => s.size - (intOf n).toNat)
        case atStart => exact ⟨k0, 0, by omega, by omega, rfl, rfl, by omega, by omega, rfl, Lib.hid (by simp)⟩
        case round =>
          obtain ⟨i, x, hi0, hi1, rfl, rfl, hx0, hx1, rfl, HI⟩ := hrel
          by_cases hlt : i < s.size
          · have hr := bI_range s i
            have HDR := Lib.hid (drop_uB s i hlt)
            have hdl := digI_le (bI s i) base hr.1
            have DC := Lib.hid (fun w => dig_calls w (bI s i) base hr.1 hr.2)
            obtain ⟨d, hdv⟩ : ∃ d, digI (bI s i) base = d := ⟨_, rfl⟩
            rw [hdv] at hdl
            have HV := Lib.hid hdv
            clear hdv
            by_cases hd : 0 ≤ d
            · have hstep : digsL base (s.data.toList.drop i) x = ((digsL base (s.data.toList.drop (i + 1)) (capI (x * base + d))).1, (digsL base (s.data.toList.drop (i + 1)) (capI (x * base + d))).2 + 1) := by
                rw [HDR.out, digsL, if_neg (by rw [← bI_uB, HV.out]; omega), ← bI_uB, HV.out]
              have HS := Lib.hid hstep
              clear hstep
              have hcr := capI_range (x := x * base + d) (by rcases hbase with rfl | rfl <;> omega)
              rcases hbase with rfl | rfl
              all_goals
                go_wp2_with (go_at_call 106; refine (DC.out _).mono ?_; rintro e w1 ⟨rfl, rfl⟩; rw [HV.out])
                go_roundw
                case rel => exact ⟨i + 1, capI _, by omega, by omega, by go_num, rfl, hcr.1, hcr.2, trivial, Lib.hid (by rw [HI.out, HS.out]; simp; omega)⟩
                case measure => simp [intOf]; omega
            · have hstop : digsL base (s.data.toList.drop i) x = (x, 0) := by
                rw [HDR.out, digsL, if_pos (by rw [← bI_uB, HV.out]; omega)]
              have HS := Lib.hid hstop
              clear hstop
              go_wp2_with (go_at_call 106; refine (DC.out _).mono ?_; rintro e w1 ⟨rfl, rfl⟩; rw [HV.out])
              go_meet
              case rel => exact ⟨i, x, hi0, hi1, rfl, rfl, rfl, Lib.hid (by rw [HI.out, HS.out]; simp)⟩
          · have hstop : digsL base (s.data.toList.drop i) x = (x, 0) := by
              rw [List.drop_eq_nil_of_le (by rw [len_toL]; omega)]; rfl
            have HS := Lib.hid hstop
            clear hstop
            go_wp2
            go_meet
            case rel => exact ⟨i, x, hi0, hi1, rfl, rfl, rfl, Lib.hid (by rw [HI.out, HS.out]; simp)⟩
      case rest =>
        obtain ⟨i, x, hi0, hi1, rfl, rfl, rfl, HR⟩ := hcut
        have NC := Lib.hid (fun w h => number_calls w x h)
        by_cases hz : i = k0
        · have hres : numL s.data.toList = (0, 0) := by rw [HN.out, HR.out]; simp [hz]
          have HQ := Lib.hid hres
          clear hres
          subst hz
          go_wp2
          go_ret2
          exact ⟨by rw [HQ.out]; rfl, Below.refl _ _⟩
        · have hne : ((i : Int) == (k0 : Int)) = false := by simp; omega
          have hres0 : numL s.data.toList = (numberI x, if headIs (s.data.toList.drop i) 59 then i + 1 else i) := by
            rw [HN.out, HR.out]
            have e1 : k0 + (i - k0) = i := by omega
            simp only [e1]
            rw [if_neg (by omega)]
          by_cases hlt : i < s.size
          · have hr := bI_range s i
            by_cases h59 : bI s i = 59
            · have hres : numL s.data.toList = (numberI x, i + 1) := by rw [hres0, headIs_uB s i 59 hlt]; simp [h59]
              have HQ := Lib.hid hres
              clear hres hres0
              go_wp2_with (go_at_call 107; refine (NC.out _ HT.out).mono ?_; rintro e w1 ⟨rfl, hb1⟩)
              go_ret2
              exact ⟨by rw [HQ.out]; rfl, hb1⟩
            · have h59' : (bI s i == 59) = false := by simp [h59]
              have hres : numL s.data.toList = (numberI x, i) := by rw [hres0, headIs_uB s i 59 hlt]; simp [h59]
              have HQ := Lib.hid hres
              clear hres hres0
              go_wp2_with (go_at_call 107; refine (NC.out _ HT.out).mono ?_; rintro e w1 ⟨rfl, hb1⟩)
              go_ret2
              exact ⟨by rw [HQ.out]; rfl, hb1⟩
          · have hres : numL s.data.toList = (numberI x, i) := by rw [hres0, headIs_end s i 59 (by omega)]; simp
            have HQ := Lib.hid hres
            clear hres hres0
            go_wp2_with (go_at_call 107; refine (NC.out _ HT.out).mono ?_; rintro e w1 ⟨rfl, hb1⟩)
            go_ret2
            exact ⟨by rw [HQ.out]; rfl, hb1⟩

end Go.Proofs.YthfkldheflmlmaaGreatDoor
