/- The reference's first character of a text at a place (rectoref02.At): its contract. -/
import Derived.Test.YthfkldheflmlmaaGreatDoorRefE
namespace Go.Proofs.YthfkldheflmlmaaGreatDoor
open Go.RowKit Go.Lib

theorem lowT_rlow (s : ByteArray) (j k : Nat) : lowT (s.data.toList.drop j) k = rlowI s (j + k) := by
  have e : tI (s.data.toList.drop j) k = bI s (j + k) := by
    rw [tI, bI, List.getD, List.getElem?_drop]; rfl
  rw [lowT, rlowI, e, List.length_drop, len_toL]
  by_cases h : k < s.size - j
  · have : j + k < s.size := by omega
    simp only [h, this]
  · have : ¬ j + k < s.size := by omega
    simp only [h, this]
theorem cand_at (s : ByteArray) (i : Nat) : candL (uB s i) (s.data.toList.drop (i + 1)) = candC (bI s i) (rlowI s (i + 1)) (rlowI s (i + 2)) (rlowI s (i + 3)) := by
  rw [candL, lowT_rlow, lowT_rlow, lowT_rlow]; rfl
theorem rlow_range (s : ByteArray) (i : Nat) : -1 ≤ rlowI s i ∧ rlowI s i ≤ 63 := by
  unfold rlowI
  split <;> omega
theorem prefix_len {l p : List UInt8} (h : hasPrefix l p = true) : p.length ≤ l.length := (List.isPrefixOf_iff_prefix.1 h).length_le
theorem prefix_cut (s x : ByteArray) (i : Nat) : ((s.extract i (i + x.size)).toList == x.toList) = hasPrefix (s.data.toList.drop i) x.data.toList := by
  rw [ByteArray.toList_eq, ByteArray.toList_eq, toL_extract, hasPrefix, Bool.eq_iff_iff, beq_iff_eq, List.isPrefixOf_iff_prefix, List.prefix_iff_eq_take, len_toL]
  rw [show i + x.size - i = x.size by omega]
  exact ⟨fun h => h.symm, fun h => h.symm⟩
theorem charL_len (c : Int) : (charL c).length ≤ 4 := by
  unfold charL
  repeat' split
  all_goals simp
def AtG (f : Int × Int) (e : Ending) : Prop := ∃ q : Bool, e = .returned (.agg #[.int .i64 f.1, .int .i64 f.2, .bool q])
theorem atG {f : Int × Int} {e : Ending} (q : Bool) (h : e = .returned (.agg #[.int .i64 f.1, .int .i64 f.2, .bool q])) : AtG f e := ⟨q, h⟩
set_option maxRecDepth 100000 in
set_option maxHeartbeats 4000000 in
theorem rat_calls (w : World) (s : ByteArray) (i : Nat) (hi : i < s.size) (hs : s.size ≤ 1000000) :
    Calls Tryz.prog 88 #[.string s, .int .i64 i] w fun e w' =>
      AtG (firstI (mkS (s.data.toList.drop i))) e ∧ Below w.heap.size w w' := by
  have hfc := first_cand (uB s i) (s.data.toList.drop (i + 1))
  rw [← drop_uB s i hi, cand_at] at hfc
  have hbt := bI_at s
  have hr := bI_range s i
  have r1 := rlow_range s (i + 1)
  have r2 := rlow_range s (i + 2)
  have r3 := rlow_range s (i + 3)
  have LC := Lib.hid (fun W j => rlow_calls W s j)
  have IC := Lib.hid (fun W c => ris2_calls W c)
  have BC := Lib.hid (fun W c h => rchar_calls W c h)
  have hR := blk_new w #[.int .i64 0, .int .i64 0, .bool false] 109
  have hb0 : Below w.heap.size w (w.alloc (.cells #[.int .i64 0, .int .i64 0, .bool false] 109)) := (Below.refl _ _).alloc (Nat.le_refl _) _
  have HF := Lib.hid hfc
  clear hfc
  have hi' : (i : Int) < s.size := by omega
  go_enter Tryz.func88, Tryz.ntmps88
  go_upto_region 1 with fail
  generalize w.alloc (.cells #[.int .i64 0, .int .i64 0, .bool false] 109) = w0 at *
  go_upto_region 6 with (go_at_call 108; refine (LC.out _ _).mono ?_; rintro e w1 ⟨rfl, rfl⟩)
  obtain ⟨x, hx⟩ : ∃ x, x = rlowI s (i + 1) := ⟨_, rfl⟩
  obtain ⟨y, hy⟩ : ∃ y, y = rlowI s (i + 2) := ⟨_, rfl⟩
  obtain ⟨z, hz⟩ : ∃ z, z = rlowI s (i + 3) := ⟨_, rfl⟩
  rw [← hx, ← hy, ← hz] at HF
  rw [← hx, ← hy, ← hz]
  have hz1 : -1 ≤ z ∧ z ≤ 63 := by rw [hz]; exact r3
  have hy1 : -1 ≤ y ∧ y ≤ 63 := by rw [hy]; exact r2
  have hx1 : -1 ≤ x ∧ x ≤ 63 := by rw [hx]; exact r1
  clear hx hy hz r1 r2 r3 LC
  generalize hB : bI s i = b at *
  go_cut [28] (fun t wc => t = .bool (decide (b < 128)) ∧ w0 = wc)
  case first =>
    go_wp2
    go_meet
    case rel => exact ⟨rfl, rfl⟩
  case rest =>
    obtain ⟨rfl, rfl⟩ := hcut
    go_upto_if 28 with (fail)
    go_cut [9] (fun c wc => c = .int .i64 (candC b x y z) ∧ w0 = wc)
    case first =>
      by_cases g0 : b < 128
      · go_wp2
        go_meet
        case rel => exact ⟨by rw [candC, if_pos (by omega)], rfl⟩
      by_cases g1 : 192 ≤ b ∧ b < 224 ∧ 0 ≤ x
      · obtain ⟨g1a, g1b, g1c⟩ := g1
        go_wp2
        go_meet
        case rel => exact ⟨by rw [candC, if_neg (by omega), if_pos (by omega)], rfl⟩
      by_cases g2 : 224 ≤ b ∧ b < 240 ∧ 0 ≤ x ∧ 0 ≤ y
      · obtain ⟨g1a, g1b, g1c, g1d⟩ := g2
        go_wp2
        go_meet
        case rel => exact ⟨by rw [candC, if_neg (by omega), if_neg (by omega), if_pos (by omega)], rfl⟩
      by_cases g3 : 240 ≤ b ∧ b < 248 ∧ 0 ≤ x ∧ 0 ≤ y ∧ 0 ≤ z
      · obtain ⟨g1a, g1b, g1c, g1d, g1e⟩ := g3
        go_wp2
        go_meet
        case rel => exact ⟨by rw [candC, if_neg (by omega), if_neg (by omega), if_neg (by omega), if_pos (by omega)], rfl⟩
      have hc : candC b x y z = -1 := by rw [candC, if_neg g0, if_neg g1, if_neg g2, if_neg g3]
      have HC := Lib.hid hc
      clear hc
      by_cases g4 : b < 192
      · go_wp2
        go_meet
        case rel => exact ⟨by rw [HC.out], rfl⟩
      by_cases g5 : b < 224
      · have g6 : x < 0 := by omega
        go_wp2
        go_meet
        case rel => exact ⟨by rw [HC.out], rfl⟩
      by_cases g7 : b < 240
      · by_cases g8 : x < 0
        · go_wp2
          go_meet
          case rel => exact ⟨by rw [HC.out], rfl⟩
        · have g9 : y < 0 := by omega
          go_wp2
          go_meet
          case rel => exact ⟨by rw [HC.out], rfl⟩
      by_cases g10 : b < 248
      · by_cases g8 : x < 0
        · go_wp2
          go_meet
          case rel => exact ⟨by rw [HC.out], rfl⟩
        · by_cases g9 : y < 0
          · go_wp2
            go_meet
            case rel => exact ⟨by rw [HC.out], rfl⟩
          · have g11 : z < 0 := by omega
            go_wp2
            go_meet
            case rel => exact ⟨by rw [HC.out], rfl⟩
      · go_wp2
        go_meet
        case rel => exact ⟨by rw [HC.out], rfl⟩
    case rest =>
      obtain ⟨rfl, rfl⟩ := hcut
      generalize candC b x y z = C at *
      have c0 := blk_cell hR 0
      have c1 := blk_cell hR 1
      have c2 := blk_cell hR 2
      have f0 := blk_frozen hR 0
      have f1 := blk_frozen hR 1
      have f2 := blk_frozen hR 2
      have hl := blk_lt hR
      cases hI : isI C with
      | false =>
        have hv : firstI (mkS (s.data.toList.drop i)) = (65533, 1) := by rw [HF.out, hI]; rfl
        have HV := Lib.hid hv
        clear hv HF
        go_wp2_with (go_at_call 109; with_reducible refine (IC.out _ _).mono ?_; rintro e w1 ⟨rfl, rfl⟩; rw [hI])
        refine bodyPost_ret (v := .agg #[.int .i64 65533, .int .i64 1, .bool false]) ?_ rfl ⟨atG _ (by rw [HV.out]), ?_⟩
        · simp [results, Tryz.results88, go_sem, c0, c1, c2]
        · exact Ch.toBelow (O := fun j => w.heap.size ≤ j) (Ch.setCell (Ch.setCell (Ch.setCell (Ch.of_below hb0) (.inr (Nat.le_refl _)) _) (.inr (Nat.le_refl _)) _) (.inr (Nat.le_refl _)) _) (Nat.le_refl _) (fun i hi e => by omega)
      | true =>
        have hpc := prefix_cut s (mkS (charL C)) i
        rw [of_mkS] at hpc
        obtain ⟨n, hn⟩ : ∃ n, (charL C).length = n := ⟨_, rfl⟩
        have hz : (mkS (charL C)).size = n := by rw [size_mkS, hn]
        rw [hz] at hpc
        have hn4 : n ≤ 4 := by rw [← hn]; exact charL_len C
        go_upto_region 17 with (first | (go_at_call 109; with_reducible refine (IC.out _ _).mono ?_; rintro e w1 ⟨rfl, rfl⟩; rw [hI]) | (go_at_call 89; with_reducible refine (BC.out _ _ hI).mono ?_; rintro e w2 ⟨rfl, hb2⟩))
        have hR2 := (hb2.block _ (blk_lt hR)).trans hR
        have d0 := blk_cell hR2 0
        have d1 := blk_cell hR2 1
        have d2 := blk_cell hR2 2
        have e0 := blk_frozen hR2 0
        have e1 := blk_frozen hR2 1
        have e2 := blk_frozen hR2 2
        have hl2 := blk_lt hR2
        have hbb := below_then hb0 hb0.size hb2
        clear c0 c1 c2 f0 f1 f2 hb2 hR2 hR hb0
        cases hp : hasPrefix (s.data.toList.drop i) (charL C) with
        | true =>
          have hv : firstI (mkS (s.data.toList.drop i)) = (C, (n : Int)) := by rw [HF.out, hI, hp, hn]; rfl
          have hle := prefix_len hp
          rw [hn, List.length_drop, len_toL] at hle
          rw [hp] at hpc
          have HV := Lib.hid hv
          have i1 : (i : Int) ≤ (i : Int) + n := by omega
          have i2 : (i : Int) + n ≤ (s.size : Int) := by omega
          have i3 : ((i : Int) + n).toNat = i + n := by omega
          have i4 : ¬ (s.size : Int) - i < n := by omega
          clear hv HF hp
          go_wp2
          refine bodyPost_ret (v := .agg #[.int .i64 C, .int .i64 n, .bool true]) ?_ rfl ⟨atG _ (by rw [HV.out]), ?_⟩
          · simp [results, Tryz.results88, go_sem, d0, d1, d2]
          · exact Ch.toBelow (O := fun j => w.heap.size ≤ j) (Ch.setCell (Ch.setCell (Ch.setCell (Ch.of_below hbb) (.inr (Nat.le_refl _)) _) (.inr (Nat.le_refl _)) _) (.inr (Nat.le_refl _)) _) (Nat.le_refl _) (fun i hi e => by omega)
        | false =>
          have hv : firstI (mkS (s.data.toList.drop i)) = (65533, 1) := by rw [HF.out, hI, hp]; rfl
          rw [hp] at hpc
          have HV := Lib.hid hv
          have i1 : (i : Int) ≤ (i : Int) + n := by omega
          have i3 : ((i : Int) + n).toNat = i + n := by omega
          clear hv HF hp
          by_cases hlen : (s.size : Int) - i < n
          · go_wp2
            refine bodyPost_ret (v := .agg #[.int .i64 65533, .int .i64 1, .bool false]) ?_ rfl ⟨atG _ (by rw [HV.out]), ?_⟩
            · simp [results, Tryz.results88, go_sem, d0, d1, d2]
            · exact Ch.toBelow (O := fun j => w.heap.size ≤ j) (Ch.setCell (Ch.setCell (Ch.setCell (Ch.of_below hbb) (.inr (Nat.le_refl _)) _) (.inr (Nat.le_refl _)) _) (.inr (Nat.le_refl _)) _) (Nat.le_refl _) (fun i hi e => by omega)
          · have i2 : (i : Int) + n ≤ (s.size : Int) := by omega
            go_wp2
            refine bodyPost_ret (v := .agg #[.int .i64 65533, .int .i64 1, .bool false]) ?_ rfl ⟨atG _ (by rw [HV.out]), ?_⟩
            · simp [results, Tryz.results88, go_sem, d0, d1, d2]
            · exact Ch.toBelow (O := fun j => w.heap.size ≤ j) (Ch.setCell (Ch.setCell (Ch.setCell (Ch.of_below hbb) (.inr (Nat.le_refl _)) _) (.inr (Nat.le_refl _)) _) (.inr (Nat.le_refl _)) _) (Nat.le_refl _) (fun i hi e => by omega)

end Go.Proofs.YthfkldheflmlmaaGreatDoor
