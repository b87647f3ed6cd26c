/- What a < begins, as the reference has it (rectoref05.markup): its contract. -/
import Derived.Test.YthfkldheflmlmaaGreatDoorRefT
import Derived.Test.YthfkldheflmlmaaGreatDoorRefR
namespace Go.Proofs.YthfkldheflmlmaaGreatDoor
open Go.RowKit Go.Lib

theorem GotV.slice {w : World} {B : Nat} {t : TokM} {n : Nat} {v : Value} (h : GotV w B t n v) : ∃ A c, v = .agg #[.int .i64 t.k, .string (mkS t.name), .slice A t.attrs.length c, .bool t.self, .string (mkS t.text), .int .i64 n] ∧ w.ownsRow B 48 2 (.slice A t.attrs.length c) t.attrs.length (attrCells t.attrs) := by
  obtain ⟨va, rfl, h⟩ := h
  obtain ⟨A, c, rfl, _, _⟩ := own_attrs h
  exact ⟨A, c, rfl, h⟩
/-- The six cells of the result's box, written from what a call has made. -/
def set6 (w : World) (R : Nat) (t : TokM) (va : Value) (n : Nat) : World :=
  (((((w.setCell ⟨R, 0, none⟩ (.int .i64 t.k)).setCell ⟨R, 1, none⟩ (.string (mkS t.name))).setCell ⟨R, 2, none⟩ va).setCell ⟨R, 3, none⟩ (.bool t.self)).setCell ⟨R, 4, none⟩ (.string (mkS t.text))).setCell ⟨R, 5, none⟩ (.int .i64 n)
theorem set6_got {w : World} {B R : Nat} {t : TokM} {n : Nat} {va : Value} (h : w.ownsRow B 48 2 va t.attrs.length (attrCells t.attrs)) (hR : R < B) : GotV (set6 w R t va n) R t n (.agg #[.int .i64 t.k, .string (mkS t.name), va, .bool t.self, .string (mkS t.text), .int .i64 n]) :=
  ⟨va, rfl, own_lower (own_keep h (O := fun j => j = R) ((((((Ch.refl (fun j => j = R) w).setCell (.inl rfl) _).setCell (.inl rfl) _).setCell (.inl rfl) _).setCell (.inl rfl) _).setCell (.inl rfl) _ |>.setCell (.inl rfl) _) (fun i hi _ e => by omega)) (by omega)⟩
theorem set6_below {a w : World} {B R : Nat} (h : Below B a w) (hR : B ≤ R) (t : TokM) (va : Value) (n : Nat) : Below B a (set6 w R t va n) :=
  (((((h.setCell hR _).setCell hR _).setCell hR _).setCell hR _).setCell hR _).setCell hR _
/-- What a < begins, by the bytes behind it. -/
theorem mark_letter (s : ByteArray) (i : Nat) (cd : Bool) (h : letterI (bI s (i + 1)) = true) : markL cd (s.data.toList.drop i) = ((tagL 1 (s.data.toList.drop (i + 1))).1, 1 + (tagL 1 (s.data.toList.drop (i + 1))).2) := by
  have hb : bI s (i + 1) ≠ 33 ∧ bI s (i + 1) ≠ 63 ∧ bI s (i + 1) ≠ 47 := by
    simp only [letterI, Bool.or_eq_true, Bool.and_eq_true, decide_eq_true_eq] at h; omega
  rw [markL, List.drop_drop, ← bI_head s (i + 1) 33 (by decide), ← bI_head s (i + 1) 63 (by decide), ← bI_head s (i + 1) 47 (by decide), if_neg (by simpa using hb.1), if_neg (by simpa using hb.2.1), if_pos (by simpa using hb.2.2)]
theorem mark_slash (s : ByteArray) (i : Nat) (cd : Bool) (h : bI s (i + 1) = 47) : markL cd (s.data.toList.drop i) =
    if letterI (bI s (i + 2)) = true then ((tagL 2 (s.data.toList.drop (i + 2))).1, 2 + (tagL 2 (s.data.toList.drop (i + 2))).2)
    else if (bI s (i + 2) == 62) = true then (zeroTok, 3) else ((oddL (s.data.toList.drop (i + 2))).1, 2 + (oddL (s.data.toList.drop (i + 2))).2) := by
  rw [markL, List.drop_drop, List.drop_drop, ← bI_head s (i + 1) 33 (by decide), ← bI_head s (i + 1) 63 (by decide), ← bI_head s (i + 1) 47 (by decide), ← bI_let, ← bI_head s (i + 2) 62 (by decide), h]
  rfl
theorem mark_quest (s : ByteArray) (i : Nat) (cd : Bool) (h : bI s (i + 1) = 63) : markL cd (s.data.toList.drop i) = ((oddL (s.data.toList.drop (i + 1))).1, 1 + (oddL (s.data.toList.drop (i + 1))).2) := by
  rw [markL, List.drop_drop, ← bI_head s (i + 1) 33 (by decide), ← bI_head s (i + 1) 63 (by decide), h]
  rfl
theorem mark_bang (s : ByteArray) (i : Nat) (cd : Bool) (h : bI s (i + 1) = 33) : markL cd (s.data.toList.drop i) = ((bangL cd (s.data.toList.drop (i + 2))).1, 2 + (bangL cd (s.data.toList.drop (i + 2))).2) := by
  rw [markL, List.drop_drop, List.drop_drop, ← bI_head s (i + 1) 33 (by decide), h]
  rfl
theorem prefix_cons {l : List UInt8} {a : UInt8} {p : List UInt8} (b : UInt8) : hasPrefix (b :: l) (a :: p) = ((a == b) && hasPrefix l p) := rfl
/-- Two bytes stand at a place, and more behind them. -/
theorem prefix2 (s : ByteArray) (i : Nat) (a b : UInt8) (p : List UInt8) (h0 : headIs (s.data.toList.drop i) a.toNat = true) (hb : 0 < b.toNat) : hasPrefix (s.data.toList.drop i) (a :: b :: p) = ((bI s (i + 1) == (b.toNat : Int)) && hasPrefix (s.data.toList.drop (i + 2)) p) := by
  have hi : i < s.size := by
    apply Nat.lt_of_not_le; intro h; rw [headIs_end s i _ h] at h0; cases h0
  rw [headIs_uB s i _ hi] at h0
  have ha : a = uB s i := by rw [bI_uB] at h0; rw [← UInt8.toNat_inj]; have : ((uB s i).toNat : Int) = a.toNat := by simpa using h0
                             omega
  rw [drop_uB s i hi, prefix_cons, show (a == uB s i) = true by simpa using ha, Bool.true_and]
  by_cases h1 : i + 1 < s.size
  · rw [drop_uB s (i + 1) h1, prefix_cons, bI_uB]
    congr 1
    rw [Bool.eq_iff_iff, beq_iff_eq, beq_iff_eq, ← UInt8.toNat_inj]
    omega
  · rw [List.drop_eq_nil_of_le (by rw [len_toL]; omega), bI_end s (i + 1) (by omega)]
    have : ((0 : Int) == (b.toNat : Int)) = false := beq_eq_false_iff_ne.2 (by omega)
    rw [this]; rfl
theorem rfind_skip (s : ByteArray) (i : Nat) (hi : i < s.size) (h : headIs (s.data.toList.drop i) 62 = false) : rfindL [62] (s.data.toList.drop i) = 1 + rfindL [62] (s.data.toList.drop (i + 1)) := by
  rw [drop_uB s i hi] at h ⊢
  rw [rfindL, if_neg (by rw [hasPrefix_one, show ((62 : UInt8).toNat) = 62 from rfl, h]; simp)]
/-- What begins with <!, by what stands there. -/
theorem bang_cases (s : ByteArray) (i : Nat) (cd : Bool) : bangL cd (s.data.toList.drop (i + 2)) =
    if hasPrefix (s.data.toList.drop (i + 2)) [45, 45] = true then ((noteL (s.data.toList.drop (i + 4))).1, 2 + (noteL (s.data.toList.drop (i + 4))).2)
    else if i + 9 ≤ s.size ∧ (lowL ((s.data.toList.drop (i + 2)).take 7) == doctypeB) = true then (docT, (toL [62] (s.data.toList.drop (i + 2))).2)
    else if cd = true ∧ hasPrefix (s.data.toList.drop (i + 2)) cdataB = true then ((if (toL [93, 93, 62] (s.data.toList.drop (i + 9))).1.isEmpty then zeroTok else charsT (toL [93, 93, 62] (s.data.toList.drop (i + 9))).1), 7 + (toL [93, 93, 62] (s.data.toList.drop (i + 9))).2)
    else oddL (s.data.toList.drop (i + 2)) := by
  rw [bangL, List.drop_drop, List.drop_drop, List.length_drop, len_toL]
  by_cases h : i + 9 ≤ s.size
  · simp only [h, show 7 ≤ s.size - (i + 2) by omega]
  · simp only [h, show ¬ 7 ≤ s.size - (i + 2) by omega]
set_option maxRecDepth 100000 in
set_option maxHeartbeats 16000000 in
theorem rmarkR_calls (w : World) (s : ByteArray) (i : Nat) (cd : Bool) (hst : stopL (s.data.toList.drop i) = true) (hs : s.size ≤ 1000000) :
    Calls Tryz.prog 31 #[.string s, .int .i64 i, .bool cd] w fun e w' => ∃ v, e = .returned v ∧ GotV w' w.heap.size (markL cd (s.data.toList.drop i)).1 (i + (markL cd (s.data.toList.drop i)).2) v ∧ Below w.heap.size w w' := by
  rw [stopL_at, Bool.and_eq_true] at hst
  obtain ⟨h60, hst⟩ := hst
  have hi : i < s.size := by
    apply Nat.lt_of_not_le; intro h; rw [headIs_end s i 60 h] at h60; cases h60
  obtain ⟨tv, htv⟩ : ∃ tv, markL cd (s.data.toList.drop i) = tv := ⟨_, rfl⟩
  rw [htv]
  obtain ⟨N, hN⟩ : ∃ N, i + tv.2 = N := ⟨_, rfl⟩
  rw [hN]
  have p1 := prefix2 s i 60 47 [62] h60 (by decide)
  have p2 := prefix2 s i 60 47 [] h60 (by decide)
  have p3 := prefix2 s i 60 63 [] h60 (by decide)
  have p4 := prefix2 s i 60 33 [45, 45] h60 (by decide)
  have p5 := prefix2 s i 60 33 cdataB h60 (by decide)
  rw [hasPrefix_one, show ((62 : UInt8).toNat) = 62 from rfl, ← bI_head s (i + 2) 62 (by decide), show ((62 : Nat) : Int) = 62 from rfl] at p1
  simp only [show ((47 : UInt8).toNat : Int) = 47 from rfl, show ((63 : UInt8).toNat : Int) = 63 from rfl, show ((33 : UInt8).toNat : Int) = 33 from rfl] at p1 p2 p3 p4 p5
  have L1 : Hid (∀ W, Calls Tryz.prog 65 #[.string s, .int .i64 ((i : Int) + 1)] W fun e w' => e = .returned (.bool (letterI (bI s (i + 1)))) ∧ W = w') := Lib.hid (fun W => by
    have := rletterAt_calls W s (i + 1)
    rwa [letter_at, show (((i + 1 : Nat)) : Int) = (i : Int) + 1 by omega] at this)
  have L2 : Hid (∀ W, Calls Tryz.prog 65 #[.string s, .int .i64 ((i : Int) + 2)] W fun e w' => e = .returned (.bool (letterI (bI s (i + 2)))) ∧ W = w') := Lib.hid (fun W => by
    have := rletterAt_calls W s (i + 2)
    rwa [letter_at, show (((i + 2 : Nat)) : Int) = (i : Int) + 2 by omega] at this)
  have hR := blk_new w #[.int .i64 0, .string ⟨#[]⟩, .slice none 0 0, .bool false, .string ⟨#[]⟩, .int .i64 0] 42
  have hb0 : Below w.heap.size w (w.alloc (.cells #[.int .i64 0, .string ⟨#[]⟩, .slice none 0 0, .bool false, .string ⟨#[]⟩, .int .i64 0] 42)) := (Below.refl _ _).alloc (Nat.le_refl _) _
  cases l1 : letterI (bI s (i + 1)) with
  | true =>
    have hm := mark_letter s i cd l1
    rw [htv] at hm
    have TCL : Hid (∀ W, Calls Tryz.prog 28 #[.string s, .int .i64 ((i : Int) + 1), .int .i64 1] W fun e w' => ∃ v, e = .returned v ∧ GotV w' W.heap.size tv.1 N v ∧ Below W.heap.size W w') := Lib.hid (fun W => by
          have := rtag_calls W s (i + 1) 1 (by omega) hs
          rw [show (((i + 1 : Nat)) : Int) = (i : Int) + 1 by omega] at this
          rwa [← show tv.1 = (tagL 1 (s.data.toList.drop (i + 1))).1 by rw [hm], show i + 1 + (tagL 1 (s.data.toList.drop (i + 1))).2 = N by rw [← hN, hm, Nat.add_assoc]] at this)
    rw [l1] at L1
    clear l1 hm p1 p2 p3 p4 p5 hst htv hN L2
    go_enter Tryz.func31, Tryz.ntmps31
    go_upto_region 1 with fail
    generalize w.alloc (.cells #[.int .i64 0, .string ⟨#[]⟩, .slice none 0 0, .bool false, .string ⟨#[]⟩, .int .i64 0] 42) = w0 at *
    have hlt0 := blk_lt hR
    go_wp2_with (first | (go_at_call 65; (first | (with_reducible refine (L1.out _).mono ?_) | (with_reducible refine (L2.out _).mono ?_)); rintro v w4 ⟨rfl, rfl⟩) | (go_at_call 28; (with_reducible refine (TCL.out _).mono ?_); rintro _ w1 ⟨v, rfl, hgv, hb1⟩; obtain ⟨A, c, rfl, hown⟩ := hgv.slice; have hR1 := (hb1.block _ (blk_lt hR)).trans hR; have r0 := blk_cell hR1 0; have r1 := blk_cell hR1 1; have r2 := blk_cell hR1 2; have r3 := blk_cell hR1 3; have r4 := blk_cell hR1 4; have r5 := blk_cell hR1 5; have f0 := blk_frozen hR1 0; have f1 := blk_frozen hR1 1; have f2 := blk_frozen hR1 2; have f3 := blk_frozen hR1 3; have f4 := blk_frozen hR1 4; have f5 := blk_frozen hR1 5; have hlt1 := blk_lt hR1; have hB1 := below_then hb0 hb0.size hb1; have HOWN := Lib.hid hown; have HB1 := Lib.hid hB1; clear hown hB1 hb1 hR1 hgv))
    refine bodyPost_ret (v := .agg #[.int .i64 tv.1.k, .string (mkS tv.1.name), .slice A tv.1.attrs.length c, .bool tv.1.self, .string (mkS tv.1.text), .int .i64 (N : Int)]) ?_ rfl ⟨_, rfl, set6_got HOWN.out hlt0, set6_below HB1.out (Nat.le_refl _) _ _ _⟩
    simp [results, Tryz.results31, go_sem, r0, r1, r2, r3, r4, r5]
  | false =>
    rw [l1, Bool.false_or] at hst
    rw [l1] at L1
    by_cases b47 : bI s (i + 1) = 47
    · have hm := mark_slash s i cd b47
      rw [htv] at hm
      rw [b47] at hst p1 p2
      have hi2 : i + 2 < s.size := by simpa using hst
      rw [show ((47 : Int) == 47) = true from rfl, Bool.true_and] at p1 p2
      have J2 := Lib.hid (is_pat s i [60, 47] hs (by omega) ⟨#[60, 47]⟩ rfl (by decide) true p2 i rfl)
      cases b62 : bI s (i + 2) == 62 with
      | true =>
        have hl2 : letterI (bI s (i + 2)) = false := by rw [show bI s (i + 2) = 62 by simpa using b62]; rfl
        rw [hl2, b62, if_neg (by simp), if_pos rfl] at hm
        have J1 := Lib.hid (is_pat s i [60, 47, 62] hs (by omega) ⟨#[60, 47, 62]⟩ rfl (by decide) true (by rw [p1, b62]) i rfl)
        have hNN : N = i + 3 := by rw [← hN, hm]
        subst hm
        have HN := Lib.hid hNN
        clear hNN l1 p1 p2 p3 p4 p5 hst htv hN hl2 b62 b47 L2
        go_enter Tryz.func31, Tryz.ntmps31
        go_upto_region 1 with fail
        generalize w.alloc (.cells #[.int .i64 0, .string ⟨#[]⟩, .slice none 0 0, .bool false, .string ⟨#[]⟩, .int .i64 0] 42) = w0 at *
        have hlt0 := blk_lt hR
        have HB0 : Hid (∀ u0 u1 u2 u3 u4 u5, Below w.heap.size w ((((((w0.setCell ⟨w.heap.size, 0, none⟩ u0).setCell ⟨w.heap.size, 1, none⟩ u1).setCell ⟨w.heap.size, 2, none⟩ u2).setCell ⟨w.heap.size, 3, none⟩ u3).setCell ⟨w.heap.size, 4, none⟩ u4).setCell ⟨w.heap.size, 5, none⟩ u5)) :=
          Lib.hid (fun _ _ _ _ _ _ => (((((hb0.setCell (Nat.le_refl _) _).setCell (Nat.le_refl _) _).setCell (Nat.le_refl _) _).setCell (Nat.le_refl _) _).setCell (Nat.le_refl _) _).setCell (Nat.le_refl _) _)
        have r0 := blk_cell hR 0
        have r1 := blk_cell hR 1
        have r2 := blk_cell hR 2
        have r3 := blk_cell hR 3
        have r4 := blk_cell hR 4
        have r5 := blk_cell hR 5
        have f0 := blk_frozen hR 0
        have f1 := blk_frozen hR 1
        have f2 := blk_frozen hR 2
        have f3 := blk_frozen hR 3
        have f4 := blk_frozen hR 4
        have f5 := blk_frozen hR 5
        go_wp2_with (first | (go_at_call 65; (first | (with_reducible refine (L1.out _).mono ?_) | (with_reducible refine (L2.out _).mono ?_)); rintro v w4 ⟨rfl, rfl⟩) | (go_at_call 57; (with_reducible refine (J1.out _).mono ?_); rintro v w4 ⟨rfl, rfl⟩))
        refine bodyPost_ret (v := .agg #[.int .i64 0, .string ⟨#[]⟩, .slice none 0 0, .bool false, .string ⟨#[]⟩, .int .i64 ((i : Int) + 3)]) ?_ rfl ⟨_, rfl, GotV.of rfl (zero_owns _ _ _ _) (by rw [HN.out]; push_cast; rfl), HB0.out _ _ _ _ _ _⟩
        simp [results, Tryz.results31, go_sem, r0, r1, r2, r3, r4, r5]
      | false =>
        rw [b62] at hm p1
        have J1 := Lib.hid (is_pat s i [60, 47, 62] hs (by omega) ⟨#[60, 47, 62]⟩ rfl (by decide) false p1 i rfl)
        cases l2 : letterI (bI s (i + 2)) with
        | true =>
          rw [l2, if_pos rfl] at hm
          rw [l2] at L2
          have TC2 : Hid (∀ W, Calls Tryz.prog 28 #[.string s, .int .i64 ((i : Int) + 2), .int .i64 2] W fun e w' => ∃ v, e = .returned v ∧ GotV w' W.heap.size tv.1 N v ∧ Below W.heap.size W w') := Lib.hid (fun W => by
            have := rtag_calls W s (i + 2) 2 (by omega) hs
            rw [show (((i + 2 : Nat)) : Int) = (i : Int) + 2 by omega] at this
            rwa [← show tv.1 = (tagL 2 (s.data.toList.drop (i + 2))).1 by rw [hm], show i + 2 + (tagL 2 (s.data.toList.drop (i + 2))).2 = N by rw [← hN, hm, Nat.add_assoc]] at this)
          clear l1 hm p1 p2 p3 p4 p5 hst htv hN b62 b47 l2
          go_enter Tryz.func31, Tryz.ntmps31
          go_upto_region 1 with fail
          generalize w.alloc (.cells #[.int .i64 0, .string ⟨#[]⟩, .slice none 0 0, .bool false, .string ⟨#[]⟩, .int .i64 0] 42) = w0 at *
          have hlt0 := blk_lt hR
          go_wp2_with (first | (go_at_call 65; (first | (with_reducible refine (L1.out _).mono ?_) | (with_reducible refine (L2.out _).mono ?_)); rintro v w4 ⟨rfl, rfl⟩) | (go_at_call 57; (first | (with_reducible refine (J1.out _).mono ?_) | (with_reducible refine (J2.out _).mono ?_)); rintro v w4 ⟨rfl, rfl⟩) | (go_at_call 28; (with_reducible refine (TC2.out _).mono ?_); rintro _ w1 ⟨v, rfl, hgv, hb1⟩; obtain ⟨A, c, rfl, hown⟩ := hgv.slice; have hR1 := (hb1.block _ (blk_lt hR)).trans hR; have r0 := blk_cell hR1 0; have r1 := blk_cell hR1 1; have r2 := blk_cell hR1 2; have r3 := blk_cell hR1 3; have r4 := blk_cell hR1 4; have r5 := blk_cell hR1 5; have f0 := blk_frozen hR1 0; have f1 := blk_frozen hR1 1; have f2 := blk_frozen hR1 2; have f3 := blk_frozen hR1 3; have f4 := blk_frozen hR1 4; have f5 := blk_frozen hR1 5; have hlt1 := blk_lt hR1; have hB1 := below_then hb0 hb0.size hb1; have HOWN := Lib.hid hown; have HB1 := Lib.hid hB1; clear hown hB1 hb1 hR1 hgv))
          refine bodyPost_ret (v := .agg #[.int .i64 tv.1.k, .string (mkS tv.1.name), .slice A tv.1.attrs.length c, .bool tv.1.self, .string (mkS tv.1.text), .int .i64 (N : Int)]) ?_ rfl ⟨_, rfl, set6_got HOWN.out hlt0, set6_below HB1.out (Nat.le_refl _) _ _ _⟩
          simp [results, Tryz.results31, go_sem, r0, r1, r2, r3, r4, r5]
        | false =>
          rw [l2, if_neg (by simp), if_neg (by simp)] at hm
          rw [l2] at L2
          have OC2 : Hid (∀ W, Calls Tryz.prog 66 #[.string s, .int .i64 ((i : Int) + 2)] W fun e w' => ∃ v, e = .returned v ∧ GotV w' W.heap.size tv.1 N v ∧ Below W.heap.size W w') := Lib.hid (fun W => by
            have := rodd_calls W s (i + 2) (by omega) hs
            rw [show (((i + 2 : Nat)) : Int) = (i : Int) + 2 by omega] at this
            rwa [← show tv.1 = (oddL (s.data.toList.drop (i + 2))).1 by rw [hm], show i + 2 + (oddL (s.data.toList.drop (i + 2))).2 = N by rw [← hN, hm, Nat.add_assoc]] at this)
          clear l1 hm p1 p2 p3 p4 p5 hst htv hN b62 b47 l2
          go_enter Tryz.func31, Tryz.ntmps31
          go_upto_region 1 with fail
          generalize w.alloc (.cells #[.int .i64 0, .string ⟨#[]⟩, .slice none 0 0, .bool false, .string ⟨#[]⟩, .int .i64 0] 42) = w0 at *
          have hlt0 := blk_lt hR
          go_wp2_with (first | (go_at_call 65; (first | (with_reducible refine (L1.out _).mono ?_) | (with_reducible refine (L2.out _).mono ?_)); rintro v w4 ⟨rfl, rfl⟩) | (go_at_call 57; (first | (with_reducible refine (J1.out _).mono ?_) | (with_reducible refine (J2.out _).mono ?_)); rintro v w4 ⟨rfl, rfl⟩) | (go_at_call 66; (with_reducible refine (OC2.out _).mono ?_); rintro _ w1 ⟨v, rfl, hgv, hb1⟩; obtain ⟨A, c, rfl, hown⟩ := hgv.slice; have hR1 := (hb1.block _ (blk_lt hR)).trans hR; have r0 := blk_cell hR1 0; have r1 := blk_cell hR1 1; have r2 := blk_cell hR1 2; have r3 := blk_cell hR1 3; have r4 := blk_cell hR1 4; have r5 := blk_cell hR1 5; have f0 := blk_frozen hR1 0; have f1 := blk_frozen hR1 1; have f2 := blk_frozen hR1 2; have f3 := blk_frozen hR1 3; have f4 := blk_frozen hR1 4; have f5 := blk_frozen hR1 5; have hlt1 := blk_lt hR1; have hB1 := below_then hb0 hb0.size hb1; have HOWN := Lib.hid hown; have HB1 := Lib.hid hB1; clear hown hB1 hb1 hR1 hgv))
          refine bodyPost_ret (v := .agg #[.int .i64 tv.1.k, .string (mkS tv.1.name), .slice A tv.1.attrs.length c, .bool tv.1.self, .string (mkS tv.1.text), .int .i64 (N : Int)]) ?_ rfl ⟨_, rfl, set6_got HOWN.out hlt0, set6_below HB1.out (Nat.le_refl _) _ _ _⟩
          simp [results, Tryz.results31, go_sem, r0, r1, r2, r3, r4, r5]
    · have e47 : (bI s (i + 1) == 47) = false := beq_eq_false_iff_ne.2 b47
      rw [e47, Bool.false_and] at p1 p2
      have J1 := Lib.hid (is_pat s i [60, 47, 62] hs (by omega) ⟨#[60, 47, 62]⟩ rfl (by decide) false p1 i rfl)
      have J2 := Lib.hid (is_pat s i [60, 47] hs (by omega) ⟨#[60, 47]⟩ rfl (by decide) false p2 i rfl)
      by_cases b63 : bI s (i + 1) = 63
      · have hm := mark_quest s i cd b63
        rw [htv] at hm
        rw [b63] at p3
        have J3 := Lib.hid (is_pat s i [60, 63] hs (by omega) ⟨#[60, 63]⟩ rfl (by decide) true p3 i rfl)
        have OC1 : Hid (∀ W, Calls Tryz.prog 66 #[.string s, .int .i64 ((i : Int) + 1)] W fun e w' => ∃ v, e = .returned v ∧ GotV w' W.heap.size tv.1 N v ∧ Below W.heap.size W w') := Lib.hid (fun W => by
          have := rodd_calls W s (i + 1) (by omega) hs
          rw [show (((i + 1 : Nat)) : Int) = (i : Int) + 1 by omega] at this
          rwa [← show tv.1 = (oddL (s.data.toList.drop (i + 1))).1 by rw [hm], show i + 1 + (oddL (s.data.toList.drop (i + 1))).2 = N by rw [← hN, hm, Nat.add_assoc]] at this)
        clear l1 hm p1 p2 p3 p4 p5 hst htv hN e47 b47 b63 L2
        go_enter Tryz.func31, Tryz.ntmps31
        go_upto_region 1 with fail
        generalize w.alloc (.cells #[.int .i64 0, .string ⟨#[]⟩, .slice none 0 0, .bool false, .string ⟨#[]⟩, .int .i64 0] 42) = w0 at *
        have hlt0 := blk_lt hR
        go_wp2_with (first | (go_at_call 65; (with_reducible refine (L1.out _).mono ?_); rintro v w4 ⟨rfl, rfl⟩) | (go_at_call 57; (first | (with_reducible refine (J1.out _).mono ?_) | (with_reducible refine (J2.out _).mono ?_) | (with_reducible refine (J3.out _).mono ?_)); rintro v w4 ⟨rfl, rfl⟩) | (go_at_call 66; (with_reducible refine (OC1.out _).mono ?_); rintro _ w1 ⟨v, rfl, hgv, hb1⟩; obtain ⟨A, c, rfl, hown⟩ := hgv.slice; have hR1 := (hb1.block _ (blk_lt hR)).trans hR; have r0 := blk_cell hR1 0; have r1 := blk_cell hR1 1; have r2 := blk_cell hR1 2; have r3 := blk_cell hR1 3; have r4 := blk_cell hR1 4; have r5 := blk_cell hR1 5; have f0 := blk_frozen hR1 0; have f1 := blk_frozen hR1 1; have f2 := blk_frozen hR1 2; have f3 := blk_frozen hR1 3; have f4 := blk_frozen hR1 4; have f5 := blk_frozen hR1 5; have hlt1 := blk_lt hR1; have hB1 := below_then hb0 hb0.size hb1; have HOWN := Lib.hid hown; have HB1 := Lib.hid hB1; clear hown hB1 hb1 hR1 hgv))
        refine bodyPost_ret (v := .agg #[.int .i64 tv.1.k, .string (mkS tv.1.name), .slice A tv.1.attrs.length c, .bool tv.1.self, .string (mkS tv.1.text), .int .i64 (N : Int)]) ?_ rfl ⟨_, rfl, set6_got HOWN.out hlt0, set6_below HB1.out (Nat.le_refl _) _ _ _⟩
        simp [results, Tryz.results31, go_sem, r0, r1, r2, r3, r4, r5]
      · have b33 : bI s (i + 1) = 33 := by
          rw [Bool.or_eq_true, Bool.or_eq_true, Bool.and_eq_true, beq_iff_eq, beq_iff_eq, beq_iff_eq] at hst
          rcases hst with h | h | h
          · exact h
          · exact absurd h b63
          · exact absurd h.1 b47
        have hm := mark_bang s i cd b33
        rw [htv, bang_cases] at hm
        have e63 : (bI s (i + 1) == 63) = false := beq_eq_false_iff_ne.2 b63
        have e33 : (bI s (i + 1) == 33) = true := by rw [b33]; rfl
        rw [e63, Bool.false_and] at p3
        rw [e33, Bool.true_and] at p4 p5
        have J3 := Lib.hid (is_pat s i [60, 63] hs (by omega) ⟨#[60, 63]⟩ rfl (by decide) false p3 i rfl)
        cases c4 : hasPrefix (s.data.toList.drop (i + 2)) [45, 45] with
        | true =>
          have hle := prefix_len c4
          rw [List.length_drop, len_toL] at hle
          simp only [List.length_cons, List.length_nil] at hle
          rw [c4] at p4
          rw [c4, if_pos rfl] at hm
          have J4 := Lib.hid (is_pat s i [60, 33, 45, 45] hs (by omega) ⟨#[60, 33, 45, 45]⟩ rfl (by decide) true p4 i rfl)
          have NC : Hid (∀ W, Calls Tryz.prog 67 #[.string s, .int .i64 ((i : Int) + 4)] W fun e w' => ∃ v, e = .returned v ∧ GotV w' W.heap.size tv.1 N v ∧ Below W.heap.size W w') := Lib.hid (fun W => by
            have := rnoteR_calls W s (i + 4) (by omega) hs
            rw [show (((i + 4 : Nat)) : Int) = (i : Int) + 4 by omega] at this
            rwa [← show tv.1 = (noteL (s.data.toList.drop (i + 4))).1 by rw [hm], show i + 4 + (noteL (s.data.toList.drop (i + 4))).2 = N by rw [← hN, hm]; dsimp only; omega] at this)
          clear l1 hm p1 p2 p3 p4 p5 hst htv hN e47 b47 b63 e63 e33 b33 c4 hle L2
          go_enter Tryz.func31, Tryz.ntmps31
          go_upto_region 1 with fail
          generalize w.alloc (.cells #[.int .i64 0, .string ⟨#[]⟩, .slice none 0 0, .bool false, .string ⟨#[]⟩, .int .i64 0] 42) = w0 at *
          have hlt0 := blk_lt hR
          go_wp2_with (first | (go_at_call 65; (with_reducible refine (L1.out _).mono ?_); rintro v w4 ⟨rfl, rfl⟩) | (go_at_call 57; (first | (with_reducible refine (J1.out _).mono ?_) | (with_reducible refine (J2.out _).mono ?_) | (with_reducible refine (J3.out _).mono ?_) | (with_reducible refine (J4.out _).mono ?_)); rintro v w4 ⟨rfl, rfl⟩) | (go_at_call 67; (with_reducible refine (NC.out _).mono ?_); rintro _ w1 ⟨v, rfl, hgv, hb1⟩; obtain ⟨A, c, rfl, hown⟩ := hgv.slice; have hR1 := (hb1.block _ (blk_lt hR)).trans hR; have r0 := blk_cell hR1 0; have r1 := blk_cell hR1 1; have r2 := blk_cell hR1 2; have r3 := blk_cell hR1 3; have r4 := blk_cell hR1 4; have r5 := blk_cell hR1 5; have f0 := blk_frozen hR1 0; have f1 := blk_frozen hR1 1; have f2 := blk_frozen hR1 2; have f3 := blk_frozen hR1 3; have f4 := blk_frozen hR1 4; have f5 := blk_frozen hR1 5; have hlt1 := blk_lt hR1; have hB1 := below_then hb0 hb0.size hb1; have HOWN := Lib.hid hown; have HB1 := Lib.hid hB1; clear hown hB1 hb1 hR1 hgv))
          refine bodyPost_ret (v := .agg #[.int .i64 tv.1.k, .string (mkS tv.1.name), .slice A tv.1.attrs.length c, .bool tv.1.self, .string (mkS tv.1.text), .int .i64 (N : Int)]) ?_ rfl ⟨_, rfl, set6_got HOWN.out hlt0, set6_below HB1.out (Nat.le_refl _) _ _ _⟩
          simp [results, Tryz.results31, go_sem, r0, r1, r2, r3, r4, r5]
        | false =>
          rw [c4] at p4
          rw [c4, if_neg (by simp)] at hm
          have J4 := Lib.hid (is_pat s i [60, 33, 45, 45] hs (by omega) ⟨#[60, 33, 45, 45]⟩ rfl (by decide) false p4 i rfl)
          clear c4 p1 p2 p3 p4 hst e47 e33 L2 l1
          obtain ⟨dt, hdt⟩ : ∃ b, (lowL ((s.data.toList.drop (i + 2)).take 7) == doctypeB) = b := ⟨_, rfl⟩
          rw [hdt] at hm
          have LCm : i + 9 ≤ s.size → ∀ W, Calls Tryz.prog 58 #[.string (s.extract (i + 2) (i + 9))] W fun v w' => v = .returned (.string (mkS (lowL ((s.data.toList.drop (i + 2)).take 7)))) ∧ Below W.heap.size W w' := fun h9 W => by
            have hz : (s.extract (i + 2) (i + 9)).size ≤ 1000000 := by rw [← len_toL, toL_extract, List.length_take, List.length_drop, len_toL]; omega
            have := rlower_calls W (s.extract (i + 2) (i + 9)) hz
            rwa [toL_extract, show i + 9 - (i + 2) = 7 by omega] at this
          have hq : ((mkS (lowL ((s.data.toList.drop (i + 2)).take 7))).toList == [100, 111, 99, 116, 121, 112, 101]) = dt := by rw [ByteArray.toList_eq, of_mkS]; exact hdt
          generalize lowL ((s.data.toList.drop (i + 2)).take 7) = lo at *
          have OC : (tv = ((oddL (s.data.toList.drop (i + 2))).1, 2 + (oddL (s.data.toList.drop (i + 2))).2)) → ∀ W, Calls Tryz.prog 66 #[.string s, .int .i64 ((i : Int) + 2)] W fun e w' => ∃ v, e = .returned v ∧ GotV w' W.heap.size tv.1 N v ∧ Below W.heap.size W w' := fun hm W => by
            have := rodd_calls W s (i + 2) (by have : i + 1 < s.size := Nat.lt_of_not_le (fun h => by rw [bI_end s (i + 1) h] at b33; cases b33)
                                               omega) hs
            rw [show (((i + 2 : Nat)) : Int) = (i : Int) + 2 by omega] at this
            rwa [← show tv.1 = (oddL (s.data.toList.drop (i + 2))).1 by rw [hm], show i + 2 + (oddL (s.data.toList.drop (i + 2))).2 = N by rw [← hN, hm, Nat.add_assoc]] at this
          by_cases h9 : i + 9 ≤ s.size
          · have LC := Lib.hid (LCm h9)
            have g1 : (9 : Int) ≤ (s.size : Int) - i := by omega
            have g2 : (i : Int) + 2 ≤ (i : Int) + 9 := by omega
            have g3 : (i : Int) + 9 ≤ (s.size : Int) := by omega
            have g4 : ((i : Int) + 2).toNat = i + 2 := by omega
            have g5 : ((i : Int) + 9).toNat = i + 9 := by omega
            cases dt with
            | true =>
              rw [if_pos ⟨h9, rfl⟩] at hm
              have hul := rfindL_le [62] (s.data.toList.drop i)
              rw [List.length_drop, len_toL] at hul
              obtain ⟨z, hz⟩ : ∃ z, i + rfindL [62] (s.data.toList.drop i) = z := ⟨_, rfl⟩
              have hrf : rfindL [62] (s.data.toList.drop i) = 2 + rfindL [62] (s.data.toList.drop (i + 2)) := by
                have h62 : headIs (s.data.toList.drop i) 62 = false := by
                  rw [headIs_uB s i 62 hi]
                  rw [headIs_uB s i 60 hi] at h60
                  rw [show bI s i = 60 by simpa using h60]; rfl
                have h62' : headIs (s.data.toList.drop (i + 1)) 62 = false := by rw [← bI_head s (i + 1) 62 (by decide), b33]; rfl
                have a1 := rfind_skip s i hi h62
                have a2 := rfind_skip s (i + 1) (by omega) h62'
                rw [a1, a2]
                show 1 + (1 + rfindL [62] (s.data.toList.drop (i + 2))) = _
                omega
              have hNz : (if s.size ≤ z then s.size else z + 1) = N := by
                rw [← hN, hm, toL_find _ _ (by simp), List.length_drop, len_toL]
                dsimp only
                by_cases h : s.size ≤ z
                · rw [if_pos h, if_pos (by omega)]; omega
                · rw [if_neg h, if_neg (by omega)]; simp; omega
              have F1 := Lib.hid (find_pat s i [62] hs (by omega) ⟨#[62]⟩ rfl (by decide) z hz i rfl)
              have P1 : Hid (∀ W, Calls Tryz.prog 69 #[.string s, .int .i64 (z : Int), .string ⟨#[62]⟩] W fun y w' => y = .returned (.int .i64 (N : Int)) ∧ W = w') := Lib.hid (fun W => by
                have := past_calls W s ⟨#[62]⟩ z hs (by decide)
                rwa [show (⟨#[62]⟩ : ByteArray).size = 1 from rfl, hNz] at this)
              have HM := Lib.hid hm
              clear hm htv hN b47 b63 e63 b33 hdt hrf hNz hz hul OC LCm h9 p5
              go_enter Tryz.func31, Tryz.ntmps31
              go_upto_region 1 with fail
              generalize w.alloc (.cells #[.int .i64 0, .string ⟨#[]⟩, .slice none 0 0, .bool false, .string ⟨#[]⟩, .int .i64 0] 42) = w0 at *
              have hlt0 := blk_lt hR
              go_upto_region 14 with (first | (go_at_call 65; (with_reducible refine (L1.out _).mono ?_); rintro v w4 ⟨rfl, rfl⟩) | (go_at_call 57; (first | (with_reducible refine (J1.out _).mono ?_) | (with_reducible refine (J2.out _).mono ?_) | (with_reducible refine (J3.out _).mono ?_) | (with_reducible refine (J4.out _).mono ?_)); rintro v w4 ⟨rfl, rfl⟩) | (go_at_call 58; (with_reducible refine (LC.out _).mono ?_); rintro v w2 ⟨rfl, hb2⟩; have hR2 := (hb2.block _ (blk_lt hR)).trans hR; have hB2 := below_then hb0 hb0.size hb2; have hlt2 := blk_lt hR2))
              have HB0 : Hid (∀ u0 u1 u2 u3 u4 u5, Below w.heap.size w ((((((w2.setCell ⟨w.heap.size, 0, none⟩ u0).setCell ⟨w.heap.size, 1, none⟩ u1).setCell ⟨w.heap.size, 2, none⟩ u2).setCell ⟨w.heap.size, 3, none⟩ u3).setCell ⟨w.heap.size, 4, none⟩ u4).setCell ⟨w.heap.size, 5, none⟩ u5)) :=
                Lib.hid (fun _ _ _ _ _ _ => (((((hB2.setCell (Nat.le_refl _) _).setCell (Nat.le_refl _) _).setCell (Nat.le_refl _) _).setCell (Nat.le_refl _) _).setCell (Nat.le_refl _) _).setCell (Nat.le_refl _) _)
              have r0 := blk_cell hR2 0
              have r1 := blk_cell hR2 1
              have r2 := blk_cell hR2 2
              have r3 := blk_cell hR2 3
              have r4 := blk_cell hR2 4
              have r5 := blk_cell hR2 5
              have f0 := blk_frozen hR2 0
              have f1 := blk_frozen hR2 1
              have f2 := blk_frozen hR2 2
              have f3 := blk_frozen hR2 3
              have f4 := blk_frozen hR2 4
              have f5 := blk_frozen hR2 5
              clear hb2 hB2 hR2
              go_wp2_with (first | (go_at_call 68; (with_reducible refine (F1.out _).mono ?_); rintro v w4 ⟨rfl, rfl⟩) | (go_at_call 69; (with_reducible refine (P1.out _).mono ?_); rintro v w4 ⟨rfl, rfl⟩))
              refine bodyPost_ret (v := .agg #[.int .i64 5, .string ⟨#[]⟩, .slice none 0 0, .bool false, .string ⟨#[]⟩, .int .i64 (N : Int)]) ?_ rfl ⟨_, rfl, ?_, HB0.out _ _ _ _ _ _⟩
              · simp [results, Tryz.results31, go_sem, r0, r1, r2, r3, r4, r5]
              · rw [HM.out]; exact GotV.of rfl (zero_owns _ _ _ _) rfl
            | false =>
              rw [if_neg (by simp)] at hm
              by_cases c5 : cd = true ∧ hasPrefix (s.data.toList.drop (i + 2)) cdataB = true
              · obtain ⟨rfl, c5⟩ := c5
                rw [c5] at p5
                rw [if_pos ⟨rfl, c5⟩, toL_find _ _ (by simp)] at hm
                have J5 := Lib.hid (is_pat s i [60, 33, 91, 67, 68, 65, 84, 65, 91] hs (by omega) ⟨#[60, 33, 91, 67, 68, 65, 84, 65, 91]⟩ rfl (by decide) true p5 i rfl)
                have hul := rfindL_le [93, 93, 62] (s.data.toList.drop (i + 9))
                rw [List.length_drop, len_toL] at hul hm
                obtain ⟨r, hr⟩ : ∃ r, rfindL [93, 93, 62] (s.data.toList.drop (i + 9)) = r := ⟨_, rfl⟩
                obtain ⟨z, hz⟩ : ∃ z, i + 9 + r = z := ⟨_, rfl⟩
                rw [hr] at hm hul
                have hNz : (if s.size ≤ z then s.size else z + 3) = N := by
                  rw [← hN, hm]
                  dsimp only
                  by_cases h : s.size ≤ z
                  · rw [if_pos h, if_pos (by omega)]; omega
                  · rw [if_neg h, if_neg (by omega)]; simp; omega
                have F9 := Lib.hid (find_pat s (i + 9) [93, 93, 62] hs (by omega) ⟨#[93, 93, 62]⟩ rfl (by decide) z (by rw [hr, hz]) ((i : Int) + 9) (by omega))
                have P9 : Hid (∀ W, Calls Tryz.prog 69 #[.string s, .int .i64 (z : Int), .string ⟨#[93, 93, 62]⟩] W fun y w' => y = .returned (.int .i64 (N : Int)) ∧ W = w') := Lib.hid (fun W => by
                  have := past_calls W s ⟨#[93, 93, 62]⟩ z hs (by decide)
                  rwa [show (⟨#[93, 93, 62]⟩ : ByteArray).size = 3 from rfl, hNz] at this)
                by_cases hr0 : r = 0
                · have hm1 : tv.1 = zeroTok := by rw [hm, hr0]; rfl
                  have HM := Lib.hid hm1
                  have hzz : ((z : Int) == (i : Int) + 9) = true := beq_iff_eq.2 (by omega)
                  clear hm hm1 htv hN b47 b63 e63 b33 hdt hNz hz hul OC LCm h9 p5 c5 hr hr0
                  go_enter Tryz.func31, Tryz.ntmps31
                  go_upto_region 1 with fail
                  generalize w.alloc (.cells #[.int .i64 0, .string ⟨#[]⟩, .slice none 0 0, .bool false, .string ⟨#[]⟩, .int .i64 0] 42) = w0 at *
                  have hlt0 := blk_lt hR
                  go_upto_region 18 with (first | (go_at_call 65; (with_reducible refine (L1.out _).mono ?_); rintro v w4 ⟨rfl, rfl⟩) | (go_at_call 57; (first | (with_reducible refine (J1.out _).mono ?_) | (with_reducible refine (J2.out _).mono ?_) | (with_reducible refine (J3.out _).mono ?_) | (with_reducible refine (J4.out _).mono ?_) | (with_reducible refine (J5.out _).mono ?_)); rintro v w4 ⟨rfl, rfl⟩) | (go_at_call 58; (with_reducible refine (LC.out _).mono ?_); rintro v w2 ⟨rfl, hb2⟩; have hR2 := (hb2.block _ (blk_lt hR)).trans hR; have hB2 := below_then hb0 hb0.size hb2; have hlt2 := blk_lt hR2) | (go_at_call 68; (with_reducible refine (F9.out _).mono ?_); rintro v w4 ⟨rfl, rfl⟩))
                  have HB0 : Hid (∀ u0 u1 u2 u3 u4 u5, Below w.heap.size w ((((((w2.setCell ⟨w.heap.size, 0, none⟩ u0).setCell ⟨w.heap.size, 1, none⟩ u1).setCell ⟨w.heap.size, 2, none⟩ u2).setCell ⟨w.heap.size, 3, none⟩ u3).setCell ⟨w.heap.size, 4, none⟩ u4).setCell ⟨w.heap.size, 5, none⟩ u5)) :=
                    Lib.hid (fun _ _ _ _ _ _ => (((((hB2.setCell (Nat.le_refl _) _).setCell (Nat.le_refl _) _).setCell (Nat.le_refl _) _).setCell (Nat.le_refl _) _).setCell (Nat.le_refl _) _).setCell (Nat.le_refl _) _)
                  have r0 := blk_cell hR2 0
                  have r1 := blk_cell hR2 1
                  have r2 := blk_cell hR2 2
                  have r3 := blk_cell hR2 3
                  have r4 := blk_cell hR2 4
                  have r5 := blk_cell hR2 5
                  have f0 := blk_frozen hR2 0
                  have f1 := blk_frozen hR2 1
                  have f2 := blk_frozen hR2 2
                  have f3 := blk_frozen hR2 3
                  have f4 := blk_frozen hR2 4
                  have f5 := blk_frozen hR2 5
                  clear hb2 hB2 hR2
                  go_wp2_with (go_at_call 69; (with_reducible refine (P9.out _).mono ?_); rintro v w4 ⟨rfl, rfl⟩)
                  refine bodyPost_ret (v := .agg #[.int .i64 0, .string ⟨#[]⟩, .slice none 0 0, .bool false, .string ⟨#[]⟩, .int .i64 (N : Int)]) ?_ rfl ⟨_, rfl, ?_, HB0.out _ _ _ _ _ _⟩
                  · simp [results, Tryz.results31, go_sem, r0, r1, r2, r3, r4, r5]
                  · rw [HM.out]; exact GotV.of rfl (zero_owns _ _ _ _) rfl
                · have hrl : 0 < (s.data.toList.drop (i + 9)).length := by
                    rw [List.length_drop, len_toL]
                    apply Nat.pos_of_ne_zero; intro h; rw [h] at hul; omega
                  have hm1 : tv.1 = charsT ((s.data.toList.drop (i + 9)).take r) := by
                    rw [hm]
                    dsimp only
                    rw [if_neg]
                    rw [List.isEmpty_iff_length_eq_zero, List.length_take]; omega
                  have hex : s.extract (i + 9) z = mkS ((s.data.toList.drop (i + 9)).take r) := by rw [← mkS_of (s.extract (i + 9) z), toL_extract, show z - (i + 9) = r by omega]
                  have HM := Lib.hid hm1
                  have HEX := Lib.hid hex
                  have hzz : ((z : Int) == (i : Int) + 9) = false := beq_eq_false_iff_ne.2 (by omega)
                  have k1 : (i : Int) + 9 ≤ (z : Int) := by omega
                  have k2 : (z : Int) ≤ (s.size : Int) := by omega
                  clear hm hm1 hex htv hN b47 b63 e63 b33 hdt hNz hz hul OC LCm h9 p5 c5 hr hr0 hrl
                  go_enter Tryz.func31, Tryz.ntmps31
                  go_upto_region 1 with fail
                  generalize w.alloc (.cells #[.int .i64 0, .string ⟨#[]⟩, .slice none 0 0, .bool false, .string ⟨#[]⟩, .int .i64 0] 42) = w0 at *
                  have hlt0 := blk_lt hR
                  go_upto_region 18 with (first | (go_at_call 65; (with_reducible refine (L1.out _).mono ?_); rintro v w4 ⟨rfl, rfl⟩) | (go_at_call 57; (first | (with_reducible refine (J1.out _).mono ?_) | (with_reducible refine (J2.out _).mono ?_) | (with_reducible refine (J3.out _).mono ?_) | (with_reducible refine (J4.out _).mono ?_) | (with_reducible refine (J5.out _).mono ?_)); rintro v w4 ⟨rfl, rfl⟩) | (go_at_call 58; (with_reducible refine (LC.out _).mono ?_); rintro v w2 ⟨rfl, hb2⟩; have hR2 := (hb2.block _ (blk_lt hR)).trans hR; have hB2 := below_then hb0 hb0.size hb2; have hlt2 := blk_lt hR2) | (go_at_call 68; (with_reducible refine (F9.out _).mono ?_); rintro v w4 ⟨rfl, rfl⟩))
                  have HB0 : Hid (∀ u0 u1 u2 u3 u4 u5, Below w.heap.size w ((((((w2.setCell ⟨w.heap.size, 0, none⟩ u0).setCell ⟨w.heap.size, 1, none⟩ u1).setCell ⟨w.heap.size, 2, none⟩ u2).setCell ⟨w.heap.size, 3, none⟩ u3).setCell ⟨w.heap.size, 4, none⟩ u4).setCell ⟨w.heap.size, 5, none⟩ u5)) :=
                    Lib.hid (fun _ _ _ _ _ _ => (((((hB2.setCell (Nat.le_refl _) _).setCell (Nat.le_refl _) _).setCell (Nat.le_refl _) _).setCell (Nat.le_refl _) _).setCell (Nat.le_refl _) _).setCell (Nat.le_refl _) _)
                  have r0 := blk_cell hR2 0
                  have r1 := blk_cell hR2 1
                  have r2 := blk_cell hR2 2
                  have r3 := blk_cell hR2 3
                  have r4 := blk_cell hR2 4
                  have r5 := blk_cell hR2 5
                  have f0 := blk_frozen hR2 0
                  have f1 := blk_frozen hR2 1
                  have f2 := blk_frozen hR2 2
                  have f3 := blk_frozen hR2 3
                  have f4 := blk_frozen hR2 4
                  have f5 := blk_frozen hR2 5
                  clear hb2 hB2 hR2
                  go_wp2_with fail
                  refine region_tail 10 (by kernel_rfl) (by kernel_rfl) ?_
                  simp only [List.take_succ_cons, List.take_zero, List.drop_succ_cons, List.drop_zero]
                  repeat (go_big_quiet_step (first | exact tail_same (P9.out _) _))
                  refine wpQuiet_nil ?_
                  go_wp2
                  refine bodyPost_ret (v := .agg #[.int .i64 3, .string ⟨#[]⟩, .slice none 0 0, .bool false, .string (s.extract (i + 9) z), .int .i64 (N : Int)]) ?_ rfl ⟨_, rfl, ?_, below_drew1 (HB0.out _ _ _ _ _ _)⟩
                  · simp [results, Tryz.results31, go_sem, r0, r1, r2, r3, r4, r5]
                  · rw [HM.out]; exact GotV.of HEX.out (zero_owns _ _ _ _) rfl
              · rw [if_neg c5] at hm
                have OD := Lib.hid (OC hm)
                have J5 := Lib.hid (is_pat s i [60, 33, 91, 67, 68, 65, 84, 65, 91] hs (by omega) ⟨#[60, 33, 91, 67, 68, 65, 84, 65, 91]⟩ rfl (by decide) _ p5 i rfl)
                have c5' : cd = false ∨ hasPrefix (s.data.toList.drop (i + 2)) cdataB = false := by
                  cases cd
                  · exact .inl rfl
                  · right; rw [Bool.eq_false_iff]; exact fun h => c5 ⟨rfl, h⟩
                clear hm htv hN b47 b63 e63 b33 hdt OC LCm h9 c5 p5
                generalize hasPrefix (s.data.toList.drop (i + 2)) cdataB = b5 at *
                rcases c5' with rfl | rfl
                · go_enter Tryz.func31, Tryz.ntmps31
                  go_upto_region 1 with fail
                  generalize w.alloc (.cells #[.int .i64 0, .string ⟨#[]⟩, .slice none 0 0, .bool false, .string ⟨#[]⟩, .int .i64 0] 42) = w0 at *
                  have hlt0 := blk_lt hR
                  go_wp2_with (first | (go_at_call 65; (with_reducible refine (L1.out _).mono ?_); rintro v w4 ⟨rfl, rfl⟩) | (go_at_call 57; (first | (with_reducible refine (J1.out _).mono ?_) | (with_reducible refine (J2.out _).mono ?_) | (with_reducible refine (J3.out _).mono ?_) | (with_reducible refine (J4.out _).mono ?_) | (with_reducible refine (J5.out _).mono ?_)); rintro v w4 ⟨rfl, rfl⟩) | (go_at_call 58; (with_reducible refine (LC.out _).mono ?_); rintro v w2 ⟨rfl, hb2⟩; have hR2 := (hb2.block _ (blk_lt hR)).trans hR; have hB2 := below_then hb0 hb0.size hb2; have hlt2 := blk_lt hR2) | (go_at_call 66; (with_reducible refine (OD.out _).mono ?_); rintro _ w1 ⟨v, rfl, hgv, hb1⟩; obtain ⟨A, c, rfl, hown⟩ := hgv.slice; have hR1 := (hb1.block _ (blk_lt hR2)).trans hR2; have r0 := blk_cell hR1 0; have r1 := blk_cell hR1 1; have r2 := blk_cell hR1 2; have r3 := blk_cell hR1 3; have r4 := blk_cell hR1 4; have r5 := blk_cell hR1 5; have f0 := blk_frozen hR1 0; have f1 := blk_frozen hR1 1; have f2 := blk_frozen hR1 2; have f3 := blk_frozen hR1 3; have f4 := blk_frozen hR1 4; have f5 := blk_frozen hR1 5; have hlt1 := blk_lt hR1; have hB1 := below_then hB2 hB2.size hb1; have HOWN := Lib.hid hown; have HB1 := Lib.hid hB1; clear hown hB1 hb1 hR1 hgv))
                  refine bodyPost_ret (v := .agg #[.int .i64 tv.1.k, .string (mkS tv.1.name), .slice A tv.1.attrs.length c, .bool tv.1.self, .string (mkS tv.1.text), .int .i64 (N : Int)]) ?_ rfl ⟨_, rfl, set6_got HOWN.out hlt2, set6_below HB1.out (Nat.le_refl _) _ _ _⟩
                  simp [results, Tryz.results31, go_sem, r0, r1, r2, r3, r4, r5]
                · cases cd
                  all_goals
                    go_enter Tryz.func31, Tryz.ntmps31
                    go_upto_region 1 with fail
                    generalize w.alloc (.cells #[.int .i64 0, .string ⟨#[]⟩, .slice none 0 0, .bool false, .string ⟨#[]⟩, .int .i64 0] 42) = w0 at *
                    have hlt0 := blk_lt hR
                    go_wp2_with (first | (go_at_call 65; (with_reducible refine (L1.out _).mono ?_); rintro v w4 ⟨rfl, rfl⟩) | (go_at_call 57; (first | (with_reducible refine (J1.out _).mono ?_) | (with_reducible refine (J2.out _).mono ?_) | (with_reducible refine (J3.out _).mono ?_) | (with_reducible refine (J4.out _).mono ?_) | (with_reducible refine (J5.out _).mono ?_)); rintro v w4 ⟨rfl, rfl⟩) | (go_at_call 58; (with_reducible refine (LC.out _).mono ?_); rintro v w2 ⟨rfl, hb2⟩; have hR2 := (hb2.block _ (blk_lt hR)).trans hR; have hB2 := below_then hb0 hb0.size hb2; have hlt2 := blk_lt hR2) | (go_at_call 66; (with_reducible refine (OD.out _).mono ?_); rintro _ w1 ⟨v, rfl, hgv, hb1⟩; obtain ⟨A, c, rfl, hown⟩ := hgv.slice; have hR1 := (hb1.block _ (blk_lt hR2)).trans hR2; have r0 := blk_cell hR1 0; have r1 := blk_cell hR1 1; have r2 := blk_cell hR1 2; have r3 := blk_cell hR1 3; have r4 := blk_cell hR1 4; have r5 := blk_cell hR1 5; have f0 := blk_frozen hR1 0; have f1 := blk_frozen hR1 1; have f2 := blk_frozen hR1 2; have f3 := blk_frozen hR1 3; have f4 := blk_frozen hR1 4; have f5 := blk_frozen hR1 5; have hlt1 := blk_lt hR1; have hB1 := below_then hB2 hB2.size hb1; have HOWN := Lib.hid hown; have HB1 := Lib.hid hB1; clear hown hB1 hb1 hR1 hgv))
                    refine bodyPost_ret (v := .agg #[.int .i64 tv.1.k, .string (mkS tv.1.name), .slice A tv.1.attrs.length c, .bool tv.1.self, .string (mkS tv.1.text), .int .i64 (N : Int)]) ?_ rfl ⟨_, rfl, set6_got HOWN.out hlt2, set6_below HB1.out (Nat.le_refl _) _ _ _⟩
                    simp [results, Tryz.results31, go_sem, r0, r1, r2, r3, r4, r5]
          · have g1 : ¬ (9 : Int) ≤ (s.size : Int) - i := by omega
            have c5 : hasPrefix (s.data.toList.drop (i + 2)) cdataB = false := by
              rw [Bool.eq_false_iff]; intro h
              have := prefix_len h
              rw [List.length_drop, len_toL] at this
              simp only [cdataB, List.length_cons, List.length_nil] at this
              omega
            rw [c5] at p5 hm
            rw [if_neg (fun h => h9 h.1), if_neg (by simp)] at hm
            have J5 := Lib.hid (is_pat s i [60, 33, 91, 67, 68, 65, 84, 65, 91] hs (by omega) ⟨#[60, 33, 91, 67, 68, 65, 84, 65, 91]⟩ rfl (by decide) false p5 i rfl)
            have OD := Lib.hid (OC hm)
            clear hm htv hN b47 b63 e63 b33 hdt OC LCm h9 p5 c5
            cases cd
            all_goals
              go_enter Tryz.func31, Tryz.ntmps31
              go_upto_region 1 with fail
              generalize w.alloc (.cells #[.int .i64 0, .string ⟨#[]⟩, .slice none 0 0, .bool false, .string ⟨#[]⟩, .int .i64 0] 42) = w0 at *
              have hlt0 := blk_lt hR
              go_wp2_with (first | (go_at_call 65; (with_reducible refine (L1.out _).mono ?_); rintro v w4 ⟨rfl, rfl⟩) | (go_at_call 57; (first | (with_reducible refine (J1.out _).mono ?_) | (with_reducible refine (J2.out _).mono ?_) | (with_reducible refine (J3.out _).mono ?_) | (with_reducible refine (J4.out _).mono ?_) | (with_reducible refine (J5.out _).mono ?_)); rintro v w4 ⟨rfl, rfl⟩) | (go_at_call 66; (with_reducible refine (OD.out _).mono ?_); rintro _ w1 ⟨v, rfl, hgv, hb1⟩; obtain ⟨A, c, rfl, hown⟩ := hgv.slice; have hR1 := (hb1.block _ (blk_lt hR)).trans hR; have r0 := blk_cell hR1 0; have r1 := blk_cell hR1 1; have r2 := blk_cell hR1 2; have r3 := blk_cell hR1 3; have r4 := blk_cell hR1 4; have r5 := blk_cell hR1 5; have f0 := blk_frozen hR1 0; have f1 := blk_frozen hR1 1; have f2 := blk_frozen hR1 2; have f3 := blk_frozen hR1 3; have f4 := blk_frozen hR1 4; have f5 := blk_frozen hR1 5; have hlt1 := blk_lt hR1; have hB1 := below_then hb0 hb0.size hb1; have HOWN := Lib.hid hown; have HB1 := Lib.hid hB1; clear hown hB1 hb1 hR1 hgv))
              refine bodyPost_ret (v := .agg #[.int .i64 tv.1.k, .string (mkS tv.1.name), .slice A tv.1.attrs.length c, .bool tv.1.self, .string (mkS tv.1.text), .int .i64 (N : Int)]) ?_ rfl ⟨_, rfl, set6_got HOWN.out hlt0, set6_below HB1.out (Nat.le_refl _) _ _ _⟩
              simp [results, Tryz.results31, go_sem, r0, r1, r2, r3, r4, r5]

end Go.Proofs.YthfkldheflmlmaaGreatDoor
