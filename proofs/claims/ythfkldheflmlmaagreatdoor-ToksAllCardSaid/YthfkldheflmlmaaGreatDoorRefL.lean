/- The reference's references by name (rectoref04.named): its contract. -/
import Derived.Test.YthfkldheflmlmaaGreatDoorRefK
namespace Go.Proofs.YthfkldheflmlmaaGreatDoor
open Go.RowKit Go.Lib

def rnamL (l : List UInt8) (value : Bool) : List UInt8 × Nat := if (namL l value).2 = 0 then ([], 0) else (bytesL (namL l value).1, (namL l value).2)
def fromCand (x : Int × Nat) : List UInt8 × Nat := if x.2 = 0 then ([], 0) else (bytesL x.1, x.2)
theorem keptB_at (s : ByteArray) (m : Nat) : keptB (s.data.toList.drop m) = (bI s m == 61 || (letterI (bI s m) || digitI (bI s m))) := by
  by_cases h : m < s.size
  · rw [drop_uB s m h]; rfl
  · rw [List.drop_eq_nil_of_le (by rw [len_toL]; omega), bI_end s m (by omega)]; rfl
theorem charN_isI {w : List UInt8} (h : charN w ≠ 0) : isI (charN w) = true := by
  obtain ⟨r, hr, -, hc⟩ := charN_some h
  rw [hc]; exact (charN_tab r hr).2.2.2.1
theorem looseN_char {w : List UInt8} (h : looseN w = true) : charN w ≠ 0 := by
  obtain ⟨r, hr, hw, hc, -⟩ := looseN_some h
  rw [hc]; exact (charN_tab r hr).2.2.1
set_option maxRecDepth 100000 in
set_option maxHeartbeats 8000000 in
theorem rnamed_calls (w : World) (s : ByteArray) (i : Nat) (value : Bool) (hi : i ≤ s.size) (hs : s.size ≤ 1000000) :
    Calls Tryz.prog 91 #[.string s, .int .i64 i, .bool value] w fun e w' => e = .returned (gotE (rnamL (s.data.toList.drop i) value) i) ∧ Below w.heap.size w w' := by
  have NC := Lib.hid (fun W x => rname_calls W x)
  have OC := Lib.hid (fun W x => rloose_calls W x)
  have LC := Lib.hid (fun W c => rletter_calls W c)
  have DC := Lib.hid (fun W c => rdigit_calls W c)
  have BC := Lib.hid (fun W c h => rchar_calls W c h)
  have hR := blk_new w #[.string ⟨#[]⟩, .int .i64 0] 91
  have hb0 : Below w.heap.size w (w.alloc (.cells #[.string ⟨#[]⟩, .int .i64 0] 91)) := (Below.refl _ _).alloc (Nat.le_refl _) _
  obtain ⟨l, hl⟩ : ∃ l, s.data.toList.drop i = l := ⟨_, rfl⟩
  have hll : l.length = s.size - i := by rw [← hl, List.length_drop, len_toL]
  rw [hl]
  obtain ⟨rv, hrv⟩ : ∃ rv, rnamL l value = rv := ⟨_, rfl⟩
  have HV : Hid (rv = fromCand (rnam l value 7)) := Lib.hid (by rw [rnam_eq, ← hrv]; rfl)
  rw [hrv]
  have HL := Lib.hid hl
  clear hrv hl
  go_enter Tryz.func91, Tryz.ntmps91
  go_upto_region 1 with fail
  generalize w.alloc (.cells #[.string ⟨#[]⟩, .int .i64 0] 91) = w0 at *
  go_wp2
  go_loopw [7] (fun a wr => ∃ n : Nat, n ≤ 7 ∧ a = .int .i64 n ∧ Below w.heap.size w wr ∧ wr.heap[w.heap.size]? = some (.cells #[.string ⟨#[]⟩, .int .i64 0] 91 (0, 0)) ∧ Hid (rv = fromCand (rnam l value n))) (fun a _ => (RowKit.intOf a).toNat)
  case atStart => exact ⟨7, by omega, rfl, hb0, hR, HV⟩
  case round =>
    obtain ⟨n, hn7, rfl, hbw, hB, HN⟩ := hrel
    clear hR hb0
    by_cases hn : n = 0
    · subst hn
      have HQ : rv = ([], 0) := HN.out
      have c0 := blk_cell hB 0
      have c1 := blk_cell hB 1
      have f0 := blk_frozen hB 0
      have f1 := blk_frozen hB 1
      have hz := blk_lt hB
      subst HQ
      go_wp2
      exact bodyPost_ret (v := gotE ([], 0) i) (by simp [results, Tryz.results91, go_sem, c0, c1, gotE]; rfl) rfl ⟨rfl, (hbw.setCell (Nat.le_refl _) _).setCell (Nat.le_refl _) _⟩
    obtain ⟨m, rfl⟩ : ∃ m, n = m + 1 := ⟨n - 1, by omega⟩
    clear hn
    by_cases hlen : s.size - i < m + 1
    · have HQ : Hid (rv = fromCand (rnam l value m)) := Lib.hid (by rw [HN.out, rnam, rcand, if_pos (by omega)])
      have hlen' : (s.size : Int) - i < (m : Int) + 1 := by omega
      clear HN hlen
      go_wp2
      go_roundw
      case rel => exact ⟨m, by omega, by go_num, hbw, hB, HQ⟩
      case measure => simp [RowKit.intOf]
    · have hlen' : ¬ (s.size : Int) - i < (m : Int) + 1 := by omega
      obtain ⟨x, hx⟩ : ∃ x, s.extract i (i + (m + 1)) = x := ⟨_, rfl⟩
      obtain ⟨y, hy⟩ : ∃ y, x.extract 0 m = y := ⟨_, rfl⟩
      have hxl : x.data.toList = l.take (m + 1) := by rw [← hx, toL_extract, HL.out]; congr 1; omega
      have hyl : y.data.toList = l.take m := by rw [← hy, toL_extract, List.drop_zero, hxl, List.take_take]; congr 1; omega
      have hxs : x.size = m + 1 := by rw [← len_toL, hxl, List.length_take]; omega
      have hbx : bI x m = ((l.getD m 0).toNat : Int) := by rw [bI, hxl, List.getD, List.getD, List.getElem?_take_of_lt (by omega)]
      have hcnd : rcand l value (m + 1) = if (l.getD m 0 == 59 && charN (l.take m) != 0) = true then some (charN (l.take m)) else if (looseN (l.take (m + 1)) && !(value && keptB (l.drop (m + 1)))) = true then some (charN (l.take (m + 1))) else none := by rw [rcand, if_neg (by omega)]; rfl
      have hkp := keptB_at s (i + (m + 1))
      rw [← List.drop_drop, HL.out] at hkp
      rw [hkp] at hcnd
      have hc1 : (l.getD m 0 == 59) = (bI x m == 59) := by rw [hbx, Bool.eq_iff_iff, beq_iff_eq, beq_iff_eq, ← UInt8.toNat_inj]; show _ = 59 ↔ _; omega
      rw [hc1, ← hxl, ← hyl] at hcnd
      have NY := Lib.hid (fun W => NC.out W y)
      have NX := Lib.hid (fun W => NC.out W x)
      have OX := Lib.hid (fun W => OC.out W x)
      have HIY := Lib.hid (charN_isI (w := y.data.toList))
      have HIX := Lib.hid (charN_isI (w := x.data.toList))
      have HLX := Lib.hid (looseN_char (w := x.data.toList))
      have hbtx := bI_at x
      have AC : Hid (∀ W, Calls Tryz.prog 90 #[.string s, .int .i64 ((i : Int) + ((m : Int) + 1))] W fun e w' => e = .returned (.int .u8 (bI s (i + (m + 1)))) ∧ W = w') := Lib.hid (fun W => by
        have := rat0_calls W s (i + (m + 1))
        rwa [show (((i + (m + 1) : Nat)) : Int) = (i : Int) + ((m : Int) + 1) by omega] at this)
      have hrx := bI_range x m
      have hrs := bI_range s (i + (m + 1))
      generalize charN y.data.toList = cv at *
      generalize charN x.data.toList = xv at *
      generalize looseN x.data.toList = lo at *
      generalize bI s (i + (m + 1)) = bs at *
      clear NC OC hc1 hbx hyl hxl hkp
      have i1 : (i : Int) ≤ (i : Int) + ((m : Int) + 1) := by omega
      have i2 : (i : Int) + ((m : Int) + 1) ≤ (s.size : Int) := by omega
      have i3 : ((i : Int) + ((m : Int) + 1)).toNat = i + (m + 1) := by omega
      have i4 : (m : Int) ≤ (x.size : Int) := by omega
      have i5 : (m : Int) < (x.size : Int) := by omega
      have HCN := Lib.hid hcnd
      have HXS := Lib.hid hxs
      clear hcnd hxs hlen
      have hc59 : (bI x m == 59) = true ∨ (bI x m == 59) = false := by cases bI x m == 59 <;> simp
      obtain ⟨b6, hb6⟩ : ∃ b6, (bI x m == 59 && cv != 0) = b6 := ⟨_, rfl⟩
      have HB6 := Lib.hid hb6
      clear hb6
      go_upto_region 6 with fail
      go_cut [39] (fun t wc => t = .bool b6 ∧ Below w.heap.size w wc ∧ wc.heap[w.heap.size]? = some (.cells #[.string ⟨#[]⟩, .int .i64 0] 91 (0, 0)))
      case first =>
        rcases hc59 with h59 | h59
        · have hb6 := HB6.out
          rw [h59, Bool.true_and] at hb6
          go_wp2_with (go_at_call 110; with_reducible refine (NY.out _).mono ?_; rintro e w1 ⟨rfl, hb1⟩)
          go_meet
          case rel => exact ⟨by rw [← hb6], below_then hbw hbw.size hb1, (hb1.block _ (blk_lt hB)).trans hB⟩
        · have hb6 := HB6.out
          rw [h59, Bool.false_and] at hb6
          subst hb6
          go_wp2
          go_meet
          case rel => exact ⟨rfl, hbw, hB⟩
      case rest =>
        obtain ⟨rfl, hbc, hBc⟩ := hcut
        clear hbw hB hc59 hbtx hrx
        cases b6 with
        | true =>
          have hcv : cv ≠ 0 := by
            have hb6 := HB6.out
            rw [Bool.and_eq_true] at hb6
            simpa using hb6.2
          have HQ : rv = (charL cv, m + 1) := by
            rw [HN.out, rnam, HCN.out, HB6.out, ← bytes_char (HIY.out hcv)]; rfl
          have HI := Lib.hid (HIY.out hcv)
          subst HQ
          clear hcv
          go_wp2_with (first | (go_at_call 110; with_reducible refine (NY.out _).mono ?_; rintro e w1 ⟨rfl, hb1⟩; have hR1 := (hb1.block _ (blk_lt hBc)).trans hBc; have hB1 := below_then hbc hbc.size hb1; clear hb1) | (go_at_call 89; with_reducible refine (BC.out _ _ HI.out).mono ?_; rintro e w2 ⟨rfl, hb2⟩; have hR2 := (hb2.block _ (blk_lt hR1)).trans hR1; have hB2 := below_then hB1 hB1.size hb2; have d0 := blk_cell hR2 0; have d1 := blk_cell hR2 1; have e0 := blk_frozen hR2 0; have e1 := blk_frozen hR2 1; have hl2 := blk_lt hR2; clear hb2))
          exact bodyPost_ret (v := gotE (charL cv, m + 1) i) (by simp [results, Tryz.results91, go_sem, d0, d1, gotE]) rfl ⟨rfl, (hB2.setCell (Nat.le_refl _) _).setCell (Nat.le_refl _) _⟩
        | false =>
          have hcn := HCN.out
          rw [HB6.out, if_neg Bool.false_ne_true] at hcn
          obtain ⟨kp, hkp⟩ : ∃ kp, (value && (bs == 61 || (letterI bs || digitI bs))) = kp := ⟨_, rfl⟩
          rw [hkp] at hcn
          have HKP := Lib.hid hkp
          have HC := Lib.hid hcn
          clear hkp hcn HCN HB6
          have hc61 : (bs == 61) = true ∨ (bs == 61) = false := by cases bs == 61 <;> simp
          go_upto_region 9 with (go_at_call 90; with_reducible refine (AC.out _).mono ?_; rintro e w1 ⟨rfl, rfl⟩)
          go_cut [10] (fun t w9 => t = .bool kp ∧ wc = w9)
          case first =>
            have hkp := HKP.out
            cases value with
            | false =>
              rw [Bool.false_and] at hkp
              subst hkp
              go_wp2
              go_meet
              case rel => exact ⟨rfl, rfl⟩
            | true =>
              rw [Bool.true_and] at hkp
              rcases hc61 with h61 | h61
              · rw [h61, Bool.true_or] at hkp
                subst hkp
                go_wp2
                go_meet
                case rel => exact ⟨rfl, rfl⟩
              · rw [h61, Bool.false_or] at hkp
                have LB := Lib.hid (fun W => LC.out W bs)
                have DB := Lib.hid (fun W => DC.out W bs)
                clear LC DC HC HKP
                generalize letterI bs = lb at *
                generalize digitI bs = db at *
                cases lb with
                | true =>
                  rw [Bool.true_or] at hkp
                  subst hkp
                  go_wp2_with (go_at_call 93; with_reducible refine (LB.out _).mono ?_; rintro e w1 ⟨rfl, rfl⟩)
                  go_meet
                  case rel => exact ⟨rfl, rfl⟩
                | false =>
                  rw [Bool.false_or] at hkp
                  subst hkp
                  go_wp2_with (first | (go_at_call 93; with_reducible refine (LB.out _).mono ?_; rintro e w1 ⟨rfl, rfl⟩) | (go_at_call 111; with_reducible refine (DB.out _).mono ?_; rintro e w1 ⟨rfl, rfl⟩))
                  go_meet
                  case rel => exact ⟨rfl, rfl⟩
          case rest =>
            obtain ⟨rfl, rfl⟩ := hcut
            clear hc61 hrs AC LC DC NY HIY HKP
            by_cases hq : lo = true ∧ kp = false
            · obtain ⟨rfl, rfl⟩ := hq
              have hx0 := HLX.out rfl
              have HQ : rv = (charL xv, m + 1) := by
                rw [HN.out, rnam, HC.out, ← bytes_char (HIX.out hx0)]; rfl
              have HI := Lib.hid (HIX.out hx0)
              subst HQ
              clear hx0
              go_wp2_with (first | (go_at_call 112; with_reducible refine (OX.out _).mono ?_; rintro e w0 ⟨rfl, hb0⟩; have hR0 := (hb0.block _ (blk_lt hBc)).trans hBc; have hB0 := below_then hbc hbc.size hb0; clear hb0) | (go_at_call 110; with_reducible refine (NX.out _).mono ?_; rintro e w1 ⟨rfl, hb1⟩; have hR1 := (hb1.block _ (blk_lt hR0)).trans hR0; have hB1 := below_then hB0 hB0.size hb1; clear hb1) | (go_at_call 89; with_reducible refine (BC.out _ _ HI.out).mono ?_; rintro e w2 ⟨rfl, hb2⟩; have hR2 := (hb2.block _ (blk_lt hR1)).trans hR1; have hB2 := below_then hB1 hB1.size hb2; have d0 := blk_cell hR2 0; have d1 := blk_cell hR2 1; have e0 := blk_frozen hR2 0; have e1 := blk_frozen hR2 1; have hl2 := blk_lt hR2; clear hb2))
              exact bodyPost_ret (v := gotE (charL xv, m + 1) i) (by simp [results, Tryz.results91, go_sem, d0, d1, gotE]) rfl ⟨rfl, (hB2.setCell (Nat.le_refl _) _).setCell (Nat.le_refl _) _⟩
            · have hcb : (lo && !kp) = false := by cases lo <;> cases kp <;> simp_all
              have HQ : Hid (rv = fromCand (rnam l value m)) := Lib.hid (by rw [HN.out, rnam, HC.out, hcb]; rfl)
              clear HN HC
              cases lo with
              | false =>
                clear hcb hq
                go_wp2_with (go_at_call 112; with_reducible refine (OX.out _).mono ?_; rintro e w0 ⟨rfl, hb0⟩)
                go_roundw
                case rel => exact ⟨m, by omega, by go_num, below_then hbc hbc.size hb0, (hb0.block _ (blk_lt hBc)).trans hBc, HQ⟩
                case measure => simp [RowKit.intOf]
              | true =>
                obtain rfl : kp = true := by simpa using hcb
                clear hcb hq
                go_wp2_with (go_at_call 112; with_reducible refine (OX.out _).mono ?_; rintro e w0 ⟨rfl, hb0⟩)
                go_roundw
                case rel => exact ⟨m, by omega, by go_num, below_then hbc hbc.size hb0, (hb0.block _ (blk_lt hBc)).trans hBc, HQ⟩
                case measure => simp [RowKit.intOf]

end Go.Proofs.YthfkldheflmlmaaGreatDoor
