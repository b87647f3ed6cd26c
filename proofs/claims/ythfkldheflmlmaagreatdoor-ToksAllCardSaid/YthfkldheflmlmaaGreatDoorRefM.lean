/- The reference's characters and references at a place (rectoref04.At): its contract. -/
import Derived.Test.YthfkldheflmlmaaGreatDoorRefL
import Derived.Test.YthfkldheflmlmaaGreatDoorRefF
import Derived.Test.YthfkldheflmlmaaGreatDoorLex
namespace Go.Proofs.YthfkldheflmlmaaGreatDoor
open Go.RowKit Go.Lib

theorem below_drew1 {B : Nat} {a w : World} (h : Below B a w) : Below B a w.drew := ⟨h.os, h.tape, h.output, h.size, h.block⟩
theorem first_isI (b : UInt8) (t : List UInt8) : isI (firstI (mkS (b :: t))).1 = true := by
  rw [first_cand]
  generalize candL b t = c
  split
  · rename_i h
    rw [Bool.and_eq_true] at h
    exact h.1
  · show isI 65533 = true
    decide
theorem rnum_num10 (l : List UInt8) (h : hexL l = false) : rnumL l 10 = if (numL l).2 = 0 then ([], 0) else (bytesL (numL l).1, (numL l).2) := by
  obtain ⟨h1, h2⟩ := rdigs_number 10 (.inl rfl) l
  rw [rnumL, numL, h1, h2, h]
  simp only [Bool.false_eq_true, if_false, List.drop_zero, Nat.zero_add]
  by_cases h0 : (digsL 10 l 0).2 = 0
  · rw [if_pos h0, if_pos h0, if_pos rfl]
  · rw [if_neg h0, if_neg h0]
    cases headIs (l.drop (digsL 10 l 0).2) 59 with
    | true => rfl
    | false => exact (if_neg h0).symm
theorem rnum_num16 (l : List UInt8) (h : hexL l = true) : rnumL (l.drop 1) 16 = if (numL l).2 = 0 then ([], 0) else (bytesL (numL l).1, (numL l).2 - 1) := by
  obtain ⟨h1, h2⟩ := rdigs_number 16 (.inr rfl) (l.drop 1)
  rw [rnumL, numL, h1, h2, h]
  simp only [if_true, List.drop_drop]
  by_cases h0 : (digsL 16 (l.drop 1) 0).2 = 0
  · rw [if_pos h0, if_pos h0, if_pos rfl]
  · rw [if_neg h0, if_neg h0]
    cases headIs (l.drop (1 + (digsL 16 (l.drop 1) 0).2)) 59 with
    | true =>
      refine Eq.trans ?_ (if_neg (by show ¬ 1 + (digsL 16 (l.drop 1) 0).2 + 1 = 0; omega)).symm
      exact Prod.ext rfl (show (digsL 16 (l.drop 1) 0).2 + 1 = 1 + (digsL 16 (l.drop 1) 0).2 + 1 - 1 by omega)
    | false =>
      refine Eq.trans ?_ (if_neg (by show ¬ 1 + (digsL 16 (l.drop 1) 0).2 = 0; omega)).symm
      exact Prod.ext rfl (show (digsL 16 (l.drop 1) 0).2 = 1 + (digsL 16 (l.drop 1) 0).2 - 1 by omega)
theorem hexL_at (s : ByteArray) (m : Nat) : hexL (s.data.toList.drop m) = (bI s m == 120 || bI s m == 88) := by
  by_cases h : m < s.size
  · rw [drop_uB s m h, hexL, bI_uB]
    have := (uB s m).toNat_lt
    rw [Bool.eq_iff_iff]; simp; omega
  · rw [List.drop_eq_nil_of_le (by rw [len_toL]; omega), bI_end s m (by omega)]; rfl
/-- What stands here, of what a reference's try has come to. -/
def Came (r : List UInt8 × Nat) (i : Nat) (xs : List UInt8) (E : Int) : Prop := (E = -1 ∧ r = ([38], 1)) ∨ (0 ≤ E ∧ r.1 = xs ∧ E = (i : Int) + r.2)
theorem came_of (r x : List UInt8 × Nat) (i j : Nat) (h0 : x.2 = 0 → r = ([38], 1)) (h1 : x.2 ≠ 0 → r.1 = x.1 ∧ i + r.2 = j + x.2) : Came r i x.1 (if x.2 = 0 then -1 else ((j + x.2 : Nat) : Int)) := by
  by_cases h : x.2 = 0
  · rw [if_pos h]; exact .inl ⟨rfl, h0 h⟩
  · rw [if_neg h]
    obtain ⟨a, b⟩ := h1 h
    exact .inr ⟨by omega, a, by omega⟩
set_option maxRecDepth 100000 in
set_option maxHeartbeats 8000000 in
theorem ratR_calls (w : World) (s : ByteArray) (i : Nat) (value : Bool) (hi : i < s.size) (hs : s.size ≤ 1000000) :
    Calls Tryz.prog 64 #[.string s, .int .i64 i, .bool value] w fun e w' => e = .returned (.agg #[.string (mkS (atL (s.data.toList.drop i) value).1), .int .i64 ((i : Int) + (atL (s.data.toList.drop i) value).2)]) ∧ Below w.heap.size w w' := by
  have hbt := bI_at s
  have hr := bI_range s i
  have hd := drop_uB s i hi
  have hu : bI s i = ((uB s i).toNat : Int) := rfl
  have hi' : (i : Int) < s.size := by omega
  have hR := blk_alloc (blk_new w #[.string ⟨#[]⟩, .int .i64 0] 91) (.cells #[.string ⟨#[38]⟩, .int .i64 ((i : Int) + 1)] 91)
  have hG := blk_new (w.alloc (.cells #[.string ⟨#[]⟩, .int .i64 0] 91)) #[.string ⟨#[38]⟩, .int .i64 ((i : Int) + 1)] 91
  rw [show (w.alloc (.cells #[.string ⟨#[]⟩, .int .i64 0] 91)).heap.size = w.heap.size + 1 by simp] at hG
  have hb0 : Below w.heap.size w ((w.alloc (.cells #[.string ⟨#[]⟩, .int .i64 0] 91)).alloc (.cells #[.string ⟨#[38]⟩, .int .i64 ((i : Int) + 1)] 91)) := ((Below.refl _ _).alloc (Nat.le_refl _) _).alloc (by simp) _
  obtain ⟨rv, hrv⟩ : ∃ rv, atL (s.data.toList.drop i) value = rv := ⟨_, rfl⟩
  rw [hrv]
  have HV := Lib.hid hrv
  have BC := Lib.hid (fun W c h => rchar_calls W c h)
  have HD := Lib.hid hd
  clear hrv hd
  by_cases h38 : bI s i = 38
  · have A1 : Hid (∀ W, Calls Tryz.prog 90 #[.string s, .int .i64 ((i : Int) + 1)] W fun e w' => e = .returned (.int .u8 (bI s (i + 1))) ∧ W = w') := Lib.hid (fun W => by
      have := rat0_calls W s (i + 1)
      rwa [show (((i + 1 : Nat)) : Int) = (i : Int) + 1 by omega] at this)
    have A2 : Hid (∀ W, Calls Tryz.prog 90 #[.string s, .int .i64 ((i : Int) + 2)] W fun e w' => e = .returned (.int .u8 (bI s (i + 2))) ∧ W = w') := Lib.hid (fun W => by
      have := rat0_calls W s (i + 2)
      rwa [show (((i + 2 : Nat)) : Int) = (i : Int) + 2 by omega] at this)
    have MC : Hid (∀ W, Calls Tryz.prog 91 #[.string s, .int .i64 ((i : Int) + 1), .bool value] W fun e w' => e = .returned (gotE (rnamL (s.data.toList.drop (i + 1)) value) (i + 1)) ∧ Below W.heap.size W w') := Lib.hid (fun W => by
      have := rnamed_calls W s (i + 1) value (by omega) hs
      rwa [show (((i + 1 : Nat)) : Int) = (i : Int) + 1 by omega] at this)
    have hat : rv = if headIs (s.data.toList.drop (i + 1)) 35 = true then (if 0 < (numL (s.data.toList.drop (i + 2))).2 then (bytesL (numL (s.data.toList.drop (i + 2))).1, 2 + (numL (s.data.toList.drop (i + 2))).2) else ([38], 1))
        else if 0 < (namL (s.data.toList.drop (i + 1)) value).2 then (bytesL (namL (s.data.toList.drop (i + 1)) value).1, 1 + (namL (s.data.toList.drop (i + 1)) value).2) else ([38], 1) := by
      rw [← HV.out, HD.out, atL, if_neg (by omega), List.drop_drop]
    have HAT := Lib.hid hat
    clear hat
    go_enter Tryz.func64, Tryz.ntmps64
    go_upto_region 4 with fail
    generalize (w.alloc (.cells #[.string ⟨#[]⟩, .int .i64 0] 91)).alloc (.cells #[.string ⟨#[38]⟩, .int .i64 ((i : Int) + 1)] 91) = w0 at *
    have hR1 := blk_alloc hR (.cells #[.string ⟨#[]⟩, .int .i64 (-1)] 91)
    have hG1 := blk_alloc hG (.cells #[.string ⟨#[]⟩, .int .i64 (-1)] 91)
    have hT1 := blk_new w0 #[.string ⟨#[]⟩, .int .i64 (-1)] 91
    have hb1 := hb0.alloc hb0.size (.cells #[.string ⟨#[]⟩, .int .i64 (-1)] 91)
    go_upto_region 8 with fail
    generalize w0.alloc (.cells #[.string ⟨#[]⟩, .int .i64 (-1)] 91) = w1 at *
    have hzz := blk_lt hG
    generalize w0.heap.size = t9 at *
    go_upto_if 44 with (go_at_call 90; with_reducible refine (A1.out _).mono ?_; rintro e w2 ⟨rfl, rfl⟩)
    go_cut [9] (fun t wc => t = .pointer (some ⟨t9, 0, none⟩) ∧ ∃ xs E, Came rv i xs E ∧ Below w.heap.size w wc ∧ wc.heap[w.heap.size]? = some (.cells #[.string ⟨#[]⟩, .int .i64 0] 91 (0, 0)) ∧ wc.heap[w.heap.size + 1]? = some (.cells #[.string ⟨#[38]⟩, .int .i64 ((i : Int) + 1)] 91 (0, 0)) ∧ wc.heap[t9]? = some (.cells #[.string (mkS xs), .int .i64 E] 91 (0, 0)))
    case first =>
      cases h35 : bI s (i + 1) == 35 with
      | false =>
        have hh : headIs (s.data.toList.drop (i + 1)) 35 = false := by
          by_cases h : i + 1 < s.size
          · rw [headIs_uB s (i + 1) 35 h]; exact h35
          · exact headIs_end s (i + 1) 35 (by omega)
        have hcm : Came rv i (rnamL (s.data.toList.drop (i + 1)) value).1 (if (rnamL (s.data.toList.drop (i + 1)) value).2 = 0 then -1 else (((i + 1) + (rnamL (s.data.toList.drop (i + 1)) value).2 : Nat) : Int)) := by
          have hat := HAT.out
          rw [hh, if_neg (by simp)] at hat
          refine came_of rv _ i (i + 1) (fun h => ?_) (fun h => ?_)
          · unfold rnamL at h
            by_cases h0 : (namL (s.data.toList.drop (i + 1)) value).2 = 0
            · rw [hat, if_neg (by omega)]
            · rw [if_neg h0] at h; exact absurd h h0
          · unfold rnamL at h ⊢
            by_cases h0 : (namL (s.data.toList.drop (i + 1)) value).2 = 0
            · rw [if_pos h0] at h; exact absurd rfl h
            · rw [if_neg h0, hat, if_pos (by omega)]
              exact ⟨rfl, by simp only; omega⟩
        generalize rnamL (s.data.toList.drop (i + 1)) value = x at *
        have h35' : ¬ bI s (i + 1) = 35 := by simpa using h35
        generalize bI s (i + 1) = b1 at *
        unfold gotE at MC
        generalize (if x.2 = 0 then -1 else (((i + 1) + x.2 : Nat) : Int)) = E at *
        go_wp2_with (go_at_call 91; with_reducible refine (MC.out _).mono ?_; rintro e w2 ⟨rfl, hb2⟩; have hR2 := (hb2.block _ (blk_lt hR1)).trans hR1; have hG2 := (hb2.block _ (blk_lt hG1)).trans hG1; have hT2 := (hb2.block _ (blk_lt hT1)).trans hT1; have hB2 := below_then hb1 hb1.size hb2; have d0 := blk_frozen hT2 0; have d1 := blk_frozen hT2 1; have dc0 := blk_cell hT2 0; have dc1 := blk_cell hT2 1; have hl2 := blk_lt hT2; clear hb2)
        go_meet
        case rel => exact ⟨rfl, x.1, E, hcm, (hB2.setCell (by show w.heap.size ≤ t9; omega) _).setCell (by show w.heap.size ≤ t9; omega) _, blk_far (blk_far hR2 (by show w.heap.size ≠ t9; omega) _) (by show w.heap.size ≠ t9; omega) _, blk_far (blk_far hG2 (by show w.heap.size + 1 ≠ t9; omega) _) (by show w.heap.size + 1 ≠ t9; omega) _, blk_set (blk_set hT2 0 _) 1 _⟩
      | true =>
        have h1s : i + 1 < s.size := by
          apply Nat.lt_of_not_le; intro h; rw [bI_end s (i + 1) h] at h35; exact absurd h35 (by decide)
        have hh : headIs (s.data.toList.drop (i + 1)) 35 = true := by rw [headIs_uB s (i + 1) 35 h1s]; exact h35
        have hat := HAT.out
        rw [hh, if_pos rfl] at hat
        have hxa := hexL_at s (i + 2)
        have h35' : bI s (i + 1) = 35 := by simpa using h35
        have h88 : (bI s (i + 2) == 120) = true ∨ (bI s (i + 2) == 120) = false := by cases bI s (i + 2) == 120 <;> simp
        cases hx : hexL (s.data.toList.drop (i + 2)) with
        | true =>
          have h2s : i + 2 < s.size := by
            apply Nat.lt_of_not_le; intro h; rw [bI_end s (i + 2) h, hx] at hxa; exact absurd hxa (by decide)
          have UC : Hid (∀ W, Calls Tryz.prog 92 #[.string s, .int .i64 ((i : Int) + 3), .int .i64 16] W fun e w' => e = .returned (gotE (rnumL (s.data.toList.drop (i + 3)) 16) (i + 3)) ∧ Below W.heap.size W w') := Lib.hid (fun W => by
            have := rnumref_calls W s (i + 3) 16 (.inr rfl) (by omega) hs
            rwa [show (((i + 3 : Nat)) : Int) = (i : Int) + 3 by omega] at this)
          have hn := rnum_num16 (s.data.toList.drop (i + 2)) hx
          rw [List.drop_drop] at hn
          have hcm : Came rv i (rnumL (s.data.toList.drop (i + 3)) 16).1 (if (rnumL (s.data.toList.drop (i + 3)) 16).2 = 0 then -1 else (((i + 3) + (rnumL (s.data.toList.drop (i + 3)) 16).2 : Nat) : Int)) := by
            have h16 : (numL (s.data.toList.drop (i + 2))).2 ≠ 1 := by
              intro h1
              have : (numL (s.data.toList.drop (i + 2))).2 = 0 ∨ 2 ≤ (numL (s.data.toList.drop (i + 2))).2 := by
                unfold numL
                rw [hx]
                simp only [if_true]
                split
                · exact .inl rfl
                · right; simp only; split <;> omega
              omega
            refine came_of rv _ i (i + 3) (fun h => ?_) (fun h => ?_)
            · rw [hn] at h
              by_cases h0 : (numL (s.data.toList.drop (i + 2))).2 = 0
              · rw [hat, if_neg (by omega)]
              · rw [if_neg h0] at h; simp only at h; omega
            · rw [hn] at h ⊢
              by_cases h0 : (numL (s.data.toList.drop (i + 2))).2 = 0
              · rw [if_pos h0] at h; exact absurd rfl h
              · rw [if_neg h0, hat, if_pos (by omega)]
                exact ⟨rfl, by simp only; omega⟩
          have h8 : bI s (i + 2) = 120 ∨ ((bI s (i + 2) == 120) = false ∧ bI s (i + 2) = 88) := by
            rw [hx] at hxa
            have := hxa.symm
            rw [Bool.or_eq_true, beq_iff_eq, beq_iff_eq] at this
            by_cases h : bI s (i + 2) = 120
            · exact .inl h
            · exact .inr ⟨beq_eq_false_iff_ne.2 h, by omega⟩
          clear hn hxa hx hat h88 hh h35 HV
          generalize rnumL (s.data.toList.drop (i + 3)) 16 = x at *
          generalize bI s (i + 1) = b1 at *
          subst h35'
          have hr2 := bI_range s (i + 2)
          generalize bI s (i + 2) = b2 at *
          unfold gotE at UC
          generalize (if x.2 = 0 then -1 else (((i + 3) + x.2 : Nat) : Int)) = E at *
          rcases h8 with h8 | ⟨h7, h8⟩
          all_goals
            go_wp2_with (first | (go_at_call 90; with_reducible refine (A2.out _).mono ?_; rintro e w2 ⟨rfl, rfl⟩) | (go_at_call 92; with_reducible refine (UC.out _).mono ?_; rintro e w2 ⟨rfl, hb2⟩; have hR2 := (hb2.block _ (blk_lt hR1)).trans hR1; have hG2 := (hb2.block _ (blk_lt hG1)).trans hG1; have hT2 := (hb2.block _ (blk_lt hT1)).trans hT1; have hB2 := below_then hb1 hb1.size hb2; have d0 := blk_frozen hT2 0; have d1 := blk_frozen hT2 1; have dc0 := blk_cell hT2 0; have dc1 := blk_cell hT2 1; have hl2 := blk_lt hT2; clear hb2))
            go_meet
            case rel => exact ⟨rfl, x.1, E, hcm, (hB2.setCell (by show w.heap.size ≤ t9; omega) _).setCell (by show w.heap.size ≤ t9; omega) _, blk_far (blk_far hR2 (by show w.heap.size ≠ t9; omega) _) (by show w.heap.size ≠ t9; omega) _, blk_far (blk_far hG2 (by show w.heap.size + 1 ≠ t9; omega) _) (by show w.heap.size + 1 ≠ t9; omega) _, blk_set (blk_set hT2 0 _) 1 _⟩
        | false =>
          have UC : Hid (∀ W, Calls Tryz.prog 92 #[.string s, .int .i64 ((i : Int) + 2), .int .i64 10] W fun e w' => e = .returned (gotE (rnumL (s.data.toList.drop (i + 2)) 10) (i + 2)) ∧ Below W.heap.size W w') := Lib.hid (fun W => by
            have := rnumref_calls W s (i + 2) 10 (.inl rfl) (by omega) hs
            rwa [show (((i + 2 : Nat)) : Int) = (i : Int) + 2 by omega] at this)
          have hn := rnum_num10 (s.data.toList.drop (i + 2)) hx
          have hcm : Came rv i (rnumL (s.data.toList.drop (i + 2)) 10).1 (if (rnumL (s.data.toList.drop (i + 2)) 10).2 = 0 then -1 else (((i + 2) + (rnumL (s.data.toList.drop (i + 2)) 10).2 : Nat) : Int)) := by
            refine came_of rv _ i (i + 2) (fun h => ?_) (fun h => ?_)
            · rw [hn] at h
              by_cases h0 : (numL (s.data.toList.drop (i + 2))).2 = 0
              · rw [hat, if_neg (by omega)]
              · rw [if_neg h0] at h; exact absurd h h0
            · rw [hn] at h ⊢
              by_cases h0 : (numL (s.data.toList.drop (i + 2))).2 = 0
              · rw [if_pos h0] at h; exact absurd rfl h
              · rw [if_neg h0, hat, if_pos (by omega)]
                exact ⟨rfl, by simp only; omega⟩
          have h8 : (bI s (i + 2) == 120) = false ∧ (bI s (i + 2) == 88) = false := by
            rw [hx] at hxa
            have := hxa.symm
            rw [Bool.or_eq_false_iff] at this
            exact this
          obtain ⟨h7, h8⟩ := h8
          clear hn hxa hx hat h88 hh h35 HV
          generalize rnumL (s.data.toList.drop (i + 2)) 10 = x at *
          generalize bI s (i + 1) = b1 at *
          subst h35'
          have hr2 := bI_range s (i + 2)
          generalize bI s (i + 2) = b2 at *
          unfold gotE at UC
          generalize (if x.2 = 0 then -1 else (((i + 2) + x.2 : Nat) : Int)) = E at *
          go_wp2_with (first | (go_at_call 90; with_reducible refine (A2.out _).mono ?_; rintro e w2 ⟨rfl, rfl⟩) | (go_at_call 92; with_reducible refine (UC.out _).mono ?_; rintro e w2 ⟨rfl, hb2⟩; have hR2 := (hb2.block _ (blk_lt hR1)).trans hR1; have hG2 := (hb2.block _ (blk_lt hG1)).trans hG1; have hT2 := (hb2.block _ (blk_lt hT1)).trans hT1; have hB2 := below_then hb1 hb1.size hb2; have d0 := blk_frozen hT2 0; have d1 := blk_frozen hT2 1; have dc0 := blk_cell hT2 0; have dc1 := blk_cell hT2 1; have hl2 := blk_lt hT2; clear hb2))
          go_meet
          case rel => exact ⟨rfl, x.1, E, hcm, (hB2.setCell (by show w.heap.size ≤ t9; omega) _).setCell (by show w.heap.size ≤ t9; omega) _, blk_far (blk_far hR2 (by show w.heap.size ≠ t9; omega) _) (by show w.heap.size ≠ t9; omega) _, blk_far (blk_far hG2 (by show w.heap.size + 1 ≠ t9; omega) _) (by show w.heap.size + 1 ≠ t9; omega) _, blk_set (blk_set hT2 0 _) 1 _⟩
    case rest =>
      obtain ⟨rfl, xs, E, hcame, hbc, hRc, hGc, hTc⟩ := hcut
      clear hR1 hG1 hT1 hb1 hR hG hb0 A1 A2 MC HAT HV HD hbt
      have hz1 := blk_lt hRc
      have hz2 := blk_lt hGc
      have hz3 := blk_lt hTc
      have r0 := blk_frozen hRc 0
      have r1 := blk_frozen hRc 1
      have rc0 := blk_cell hRc 0
      have rc1 := blk_cell hRc 1
      have gc0 := blk_cell hGc 0
      have gc1 := blk_cell hGc 1
      have tc0 := blk_cell hTc 0
      have tc1 := blk_cell hTc 1
      rcases hcame with ⟨rfl, rfl⟩ | ⟨hE, hrx, hre⟩
      · go_wp2
        refine bodyPost_ret (v := .agg #[.string ⟨#[38]⟩, .int .i64 ((i : Int) + 1)]) (by simp [results, Tryz.results64, go_sem, rc0, rc1]) rfl ⟨rfl, (hbc.setCell (Nat.le_refl _) _).setCell (Nat.le_refl _) _⟩
      · have HX := Lib.hid hrx
        have HE := Lib.hid hre
        clear hrx hre
        go_wp2
        refine bodyPost_ret (v := .agg #[.string (mkS xs), .int .i64 E]) (by simp [results, Tryz.results64, go_sem, rc0, rc1]) rfl ⟨by rw [HX.out, ← HE.out], (hbc.setCell (Nat.le_refl _) _).setCell (Nat.le_refl _) _⟩
  · have hat : rv = (bytesL (firstI (mkS (s.data.toList.drop i))).1, (firstI (mkS (s.data.toList.drop i))).2.toNat) := by
      rw [← HV.out, HD.out, atL, if_pos (by omega)]
    have hC := first_isI (uB s i) (s.data.toList.drop (i + 1))
    have hN := firstI_pos (mkS (s.data.toList.drop i)) (by rw [size_mkS, List.length_drop, len_toL]; omega)
    rw [size_mkS, List.length_drop, len_toL] at hN
    rw [← HD.out] at hC
    rw [bytes_char hC] at hat
    have TC := Lib.hid (fun W => rat_calls W s i hi hs)
    generalize hf : firstI (mkS (s.data.toList.drop i)) = f at *
    clear hf
    obtain ⟨C, N⟩ := f
    simp only at hat hC hN TC
    obtain ⟨n, rfl⟩ : ∃ n : Nat, N = n := ⟨N.toNat, by omega⟩
    rw [Int.toNat_natCast] at hat
    have hW : IntKind.i64.wrap ((i : Int) + n) = (i : Int) + n := IntWalk.i64_in _ (by omega)
    have HW := Lib.hid hW
    clear hW
    subst hat
    have HC := Lib.hid hC
    clear hC HV HD
    go_enter Tryz.func64, Tryz.ntmps64
    go_upto_region 4 with fail
    generalize (w.alloc (.cells #[.string ⟨#[]⟩, .int .i64 0] 91)).alloc (.cells #[.string ⟨#[38]⟩, .int .i64 ((i : Int) + 1)] 91) = w0 at *
    clear hG
    go_upto_region 6 with (go_at_call 88; (with_reducible refine (TC.out _).mono ?_); rintro e w1 ⟨⟨q, rfl⟩, hb1⟩; have hR1 := blk_alloc ((hb1.block _ (blk_lt hR)).trans hR) (.cells #[.int .i64 C, .int .i64 n, .bool q] 109); have hT1 := blk_new w1 #[.int .i64 C, .int .i64 n, .bool q] 109; have hB1 := (below_then hb0 hb0.size hb1).alloc (below_then hb0 hb0.size hb1).size (.cells #[.int .i64 C, .int .i64 n, .bool q] 109); have hlw := blk_lt hR; have hsz := hb1.size)
    generalize w1.alloc (.cells #[.int .i64 C, .int .i64 n, .bool q] 109) = w2 at *
    have hlt2 : w.heap.size < w1.heap.size := by omega
    generalize w1.heap.size = t8 at *
    clear hR hb0 hb1 hsz hlw TC
    have HR1 := Lib.hid hR1
    have HT1 := Lib.hid hT1
    have HB1 := Lib.hid hB1
    have tc0 := blk_cell hT1 0
    have tc1 := blk_cell hT1 1
    have rf0 := blk_frozen hR1 0
    have rf1 := blk_frozen hR1 1
    have hl1 := blk_lt hR1
    clear hR1 hT1 hB1
    go_region_law (first | (go_simp; go_at_call 89; refine (BC.out _ _ HC.out).mono ?_; rintro e w3 ⟨rfl, hb3⟩; have hR3 := (hb3.block _ (blk_lt HR1.out)).trans HR1.out; have hT3 := (hb3.block _ (blk_lt HT1.out)).trans HT1.out; have hB3 := below_then (below_drew1 HB1.out) HB1.out.size hb3; have d0 := blk_cell hT3 0; have d1 := blk_cell hT3 1; have r0 := blk_cell hR3 0; have r1 := blk_cell hR3 1; have e0 := blk_frozen hR3 0; have e1 := blk_frozen hR3 1; have hl3 := blk_lt hR3; clear hb3))
    all_goals go_wp2
    all_goals exact bodyPost_ret (v := .agg #[.string (mkS (charL C)), .int .i64 ((i : Int) + n)]) (by simp [results, Tryz.results64, go_sem, r0, r1, HW.out]) rfl ⟨rfl, (hB3.setCell (Nat.le_refl _) _).setCell (Nat.le_refl _) _⟩

end Go.Proofs.YthfkldheflmlmaaGreatDoor
