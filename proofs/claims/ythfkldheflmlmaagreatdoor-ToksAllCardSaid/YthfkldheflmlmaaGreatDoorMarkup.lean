/- Walks of the lexer: markup. -/
import Derived.Test.YthfkldheflmlmaaGreatDoorBang
namespace Go.Proofs.YthfkldheflmlmaaGreatDoor
open Go.RowKit

theorem bI_head (s : ByteArray) (j c : Nat) (hc : 0 < c) : (bI s j == (c : Int)) = headIs (s.data.toList.drop j) c := by
  rcases Nat.lt_or_ge j s.size with h | h
  · rw [headIs_uB s j c h]
  · rw [headIs_end s j c h, bI_end s j h]
    simp
    omega
def letH (l : List UInt8) : Bool := match l with | b :: _ => letterI b.toNat | [] => false
theorem bI_let (s : ByteArray) (j : Nat) : letterI (bI s j) = letH (s.data.toList.drop j) := by
  rcases Nat.lt_or_ge j s.size with h | h
  · rw [drop_uB s j h, letH, bI_uB]
  · rw [bI_end s j h, List.drop_eq_nil_of_le (by rw [len_toL]; exact h)]
    rfl
/-- What a < begins, at which a list begins. -/
def markL (cd : Bool) (l : List UInt8) : TokM × Nat :=
  if headIs (l.drop 1) 33 = true then ((bangL cd (l.drop 2)).1, 2 + (bangL cd (l.drop 2)).2)
  else if headIs (l.drop 1) 63 = true then ((oddL (l.drop 1)).1, 1 + (oddL (l.drop 1)).2)
  else if headIs (l.drop 1) 47 = false then ((tagL 1 (l.drop 1)).1, 1 + (tagL 1 (l.drop 1)).2)
  else if letH (l.drop 2) = true then ((tagL 2 (l.drop 2)).1, 2 + (tagL 2 (l.drop 2)).2)
  else if headIs (l.drop 2) 62 = true then (zeroTok, 3)
  else ((oddL (l.drop 2)).1, 2 + (oddL (l.drop 2)).2)

set_option maxRecDepth 100000 in
set_option maxHeartbeats 4000000 in
theorem markup_calls (w : World) (g : Nat) (s last : ByteArray) (mk : Int) (cd : Bool) (i : Nat) (h : LexAt w g s i) (hi : i < s.size) (hg : nG ≤ g) (ht : Tab w) (hs : s.size ≤ 10000000) :
    Calls Tryz.prog 47 #[.pointer (some ⟨g, 0, none⟩), .agg #[.int .i64 mk, .string last, .bool cd]] w fun e w' =>
      ∃ v, e = .returned v ∧ TokV w' w.heap.size (markL cd (s.data.toList.drop i)).1 v ∧ LexAt w' g s (i + (markL cd (s.data.toList.drop i)).2) ∧ Ch (· = g) w w' := by
  have hlt := h.lt
  have hneR : w.heap.size + 1 ≠ g := by omega
  have hneM : w.heap.size ≠ g := by omega
  have hRle : w.heap.size ≤ w.heap.size + 1 := Nat.le_succ _
  have c0 := h.c0
  have c1 := h.c1
  have f1 := h.f1
  have hz0 : (w.setCell ⟨g, 1, none⟩ (.int .i64 ((i : Int) + 1))).heap.size = w.heap.size := by simp
  have hz1 : ((w.setCell ⟨g, 1, none⟩ (.int .i64 ((i : Int) + 1))).alloc (.cells #[.int .i64 mk, .string last, .bool cd] 40)).heap.size = w.heap.size + 1 := by simp
  have hb0 : Below (w.setCell ⟨g, 1, none⟩ (.int .i64 ((i : Int) + 1))).heap.size (w.setCell ⟨g, 1, none⟩ (.int .i64 ((i : Int) + 1))) (((w.setCell ⟨g, 1, none⟩ (.int .i64 ((i : Int) + 1))).alloc (.cells #[.int .i64 mk, .string last, .bool cd] 40)).alloc (.cells #[.int .i64 0, .string ⟨#[]⟩, .slice none 0 0, .bool false, .string ⟨#[]⟩] 30)) := ((Below.refl _ _).alloc (Nat.le_refl _) _).alloc (by simp) _
  have hL1 := (LexAt.set_ (j := i + 1) h (v := .int .i64 ((i : Int) + 1)) rfl).below hb0
  have hR1 := blk_new ((w.setCell ⟨g, 1, none⟩ (.int .i64 ((i : Int) + 1))).alloc (.cells #[.int .i64 mk, .string last, .bool cd] 40)) #[.int .i64 0, .string ⟨#[]⟩, .slice none 0 0, .bool false, .string ⟨#[]⟩] 30
  have hM1 := blk_alloc (blk_new (w.setCell ⟨g, 1, none⟩ (.int .i64 ((i : Int) + 1))) #[.int .i64 mk, .string last, .bool cd] 40) (.cells #[.int .i64 0, .string ⟨#[]⟩, .slice none 0 0, .bool false, .string ⟨#[]⟩] 30)
  rw [hz1] at hR1
  rw [hz0] at hM1
  have hC1 := (Ch.setCell (Ch.refl (· = g) w) (p := ⟨g, 1, none⟩) (.inl rfl) (.int .i64 ((i : Int) + 1))).then_below hb0
  have hT1 := ht.keep hC1 (fun j hj e => by omega)
  have hw1 : w.heap.size + 2 ≤ (((w.setCell ⟨g, 1, none⟩ (.int .i64 ((i : Int) + 1))).alloc (.cells #[.int .i64 mk, .string last, .bool cd] 40)).alloc (.cells #[.int .i64 0, .string ⟨#[]⟩, .slice none 0 0, .bool false, .string ⟨#[]⟩] 30)).heap.size := by simp
  have PC := Lib.hid (fun w h => peek_calls w g s (i + 1) h (by omega) (by omega))
  have hno := markL.eq_1 cd (s.data.toList.drop i)
  have h33 : ∀ j, (bI s j == 33) = headIs (s.data.toList.drop j) 33 := fun j => bI_head s j 33 (by decide)
  have h63 : ∀ j, (bI s j == 63) = headIs (s.data.toList.drop j) 63 := fun j => bI_head s j 63 (by decide)
  have h47 : ∀ j, (bI s j == 47) = headIs (s.data.toList.drop j) 47 := fun j => bI_head s j 47 (by decide)
  have h62 : ∀ j, (bI s j == 62) = headIs (s.data.toList.drop j) 62 := fun j => bI_head s j 62 (by decide)
  rw [List.drop_drop, List.drop_drop, ← bI_let, ← h33, ← h63, ← h47, ← h62] at hno
  clear h33 h63 h47 h62
  have HNO := Lib.hid hno
  have hbt := bI_at s
  have HNO := Lib.hid hno
  have HL1 := Lib.hid hL1
  have HR1 := Lib.hid hR1
  have HM1 := Lib.hid hM1
  have HC1 := Lib.hid hC1
  have HT1 := Lib.hid hT1
  clear hno hL1 hR1 hM1 hC1 hT1 h ht hb0
  go_enter Tryz.func47, Tryz.ntmps47
  go_wp2_with (first | (go_at_call 77; fail))
  generalize (((w.setCell ⟨g, 1, none⟩ (.int .i64 ((i : Int) + 1))).alloc (.cells #[.int .i64 mk, .string last, .bool cd] 40)).alloc (.cells #[.int .i64 0, .string ⟨#[]⟩, .slice none 0 0, .bool false, .string ⟨#[]⟩] 30)) = w1 at *
  refine (PC.out _ HL1.out).mono ?_
  rintro e w2 ⟨rfl, n2, rfl⟩
  clear c0 c1 f1
  have c0 := HL1.out.c0
  have c1 := HL1.out.c1
  have f1 := HL1.out.f1
  have m0 := blk_cell HM1.out 0
  have m1 := blk_cell HM1.out 1
  have m2 := blk_cell HM1.out 2
  have r0 := blk_cell HR1.out 0
  have r1 := blk_cell HR1.out 1
  have r2 := blk_cell HR1.out 2
  have r3 := blk_cell HR1.out 3
  have r4 := blk_cell HR1.out 4
  have rf0 := blk_frozen HR1.out 0
  have rf1 := blk_frozen HR1.out 1
  have rf2 := blk_frozen HR1.out 2
  have rf3 := blk_frozen HR1.out 3
  have rf4 := blk_frozen HR1.out 4
  cases e33 : (bI s (i + 1) == 33) with
  | true =>
    have hi2 : i + 2 ≤ s.size := by
      rcases Nat.lt_or_ge (i + 1) s.size with h | h
      · omega
      · rw [bI_end s _ h] at e33; cases e33
    have BC := Lib.hid (fun w h h' => bang_calls w g s last mk cd (i + 2) h hi2 hg h' hs)
    have hres := HNO.out
    rw [if_pos e33] at hres
    obtain ⟨x, hx⟩ : ∃ x, x = bangL cd (s.data.toList.drop (i + 2)) := ⟨_, rfl⟩
    rw [← hx] at hres BC
    have HRES := Lib.hid hres
    clear hres hx
    go_wp2_with fail
    refine (BC.out _ (LexAt.set_ (j := i + 2) (HL1.out.drewN _) (by go_num)) (HT1.out.keep (O := (· = g)) (Ch.setCell ((Ch.refl _ _).drewN _) (.inl (show g = g from rfl)) _) (fun j hj e => by omega))).mono ?_
    rintro e w5 ⟨v, rfl, hv, hL5, hc5⟩
    obtain ⟨A, c, rfl, hown⟩ := hv.slice
    have hR5 := hc5.blk (blk_far (blk_drewN HR1.out _) hneR _) hneR
    have HV := Lib.hid hv
    have HL5 := Lib.hid hL5
    have HC5 := Lib.hid hc5
    clear r0 r1 r2 r3 r4 rf0 rf1 rf2 rf3 rf4 c0 c1 f1 m0 m1 m2
    have r0 := blk_cell hR5 0
    have r1 := blk_cell hR5 1
    have r2 := blk_cell hR5 2
    have r3 := blk_cell hR5 3
    have r4 := blk_cell hR5 4
    have rf0 := blk_frozen hR5 0
    have rf1 := blk_frozen hR5 1
    have rf2 := blk_frozen hR5 2
    have rf3 := blk_frozen hR5 3
    have rf4 := blk_frozen hR5 4
    clear hL5 hc5 hown hv hR5
    go_wp2
    refine bodyPost_ret (v := .agg #[.int .i64 x.1.k, .string (mkS x.1.name), .slice A x.1.attrs.length c, .bool x.1.self, .string (mkS x.1.text)]) ?_ rfl ⟨_, rfl, ?_, ?_, ?_⟩
    · simp [results, Tryz.results47, go_sem, r0, r1, r2, r3, r4]
    · rw [HRES.out]
      exact TokV.lower (TokV.keep HV.out (O := fun j => j ≤ w.heap.size + 1) (Ch.setCell (Ch.setCell (Ch.setCell (Ch.setCell (Ch.setCell (Ch.refl _ _) (.inl (show w.heap.size + 1 ≤ w.heap.size + 1 from Nat.le_refl _)) _) (.inl (show w.heap.size + 1 ≤ w.heap.size + 1 from Nat.le_refl _)) _) (.inl (show w.heap.size + 1 ≤ w.heap.size + 1 from Nat.le_refl _)) _) (.inl (show w.heap.size + 1 ≤ w.heap.size + 1 from Nat.le_refl _)) _) (.inl (show w.heap.size + 1 ≤ w.heap.size + 1 from Nat.le_refl _)) _) (fun j hj _ e => by first | omega | (simp at hj; omega))) (by first | omega | (simp; omega))
    · rw [HRES.out]
      exact LexAt.cast (j := i + (2 + x.2)) (show LexAt _ g s (i + 2 + x.2) from (blk_far (blk_far (blk_far (blk_far (blk_far HL5.out (Ne.symm hneR) _) (Ne.symm hneR) _) (Ne.symm hneR) _) (Ne.symm hneR) _) (Ne.symm hneR) _)) (by omega)
    · exact (Ch.setCell (Ch.setCell (Ch.setCell (Ch.setCell (Ch.setCell (((Ch.setCell (HC1.out.drewN _) (.inl (show g = g from rfl)) _)).same HC5.out) (.inr hRle) _) (.inr hRle) _) (.inr hRle) _) (.inr hRle) _) (.inr hRle) _)
  | false =>
    have hno := HNO.out
    rw [if_neg (by rw [e33]; simp)] at hno
    have HNO := Lib.hid hno
    clear hno
    cases e63 : (bI s (i + 1) == 63) with
    | true =>
      have OC := Lib.hid (fun w h h' => odd_calls w g s (i + 1) h (by omega) h' hs)
      have hres := HNO.out
      rw [if_pos e63] at hres
      obtain ⟨x, hx⟩ : ∃ x, x = oddL (s.data.toList.drop (i + 1)) := ⟨_, rfl⟩
      rw [← hx] at hres OC
      have HRES := Lib.hid hres
      clear hres hx
      go_wp2_with fail
      refine (OC.out _ (HL1.out.drewN _) (HT1.out.below (below_drewN (Below.refl _ _) _))).mono ?_
      rintro e w5 ⟨v, rfl, hv, hL5, hc5⟩
      obtain ⟨A, c, rfl, hown⟩ := hv.slice
      have hR5 := hc5.blk (blk_drewN HR1.out _) hneR
      have HV := Lib.hid hv
      have HL5 := Lib.hid hL5
      have HC5 := Lib.hid hc5
      clear r0 r1 r2 r3 r4 rf0 rf1 rf2 rf3 rf4 c0 c1 f1 m0 m1 m2
      have r0 := blk_cell hR5 0
      have r1 := blk_cell hR5 1
      have r2 := blk_cell hR5 2
      have r3 := blk_cell hR5 3
      have r4 := blk_cell hR5 4
      have rf0 := blk_frozen hR5 0
      have rf1 := blk_frozen hR5 1
      have rf2 := blk_frozen hR5 2
      have rf3 := blk_frozen hR5 3
      have rf4 := blk_frozen hR5 4
      clear hL5 hc5 hown hv hR5
      go_wp2
      refine bodyPost_ret (v := .agg #[.int .i64 x.1.k, .string (mkS x.1.name), .slice A x.1.attrs.length c, .bool x.1.self, .string (mkS x.1.text)]) ?_ rfl ⟨_, rfl, ?_, ?_, ?_⟩
      · simp [results, Tryz.results47, go_sem, r0, r1, r2, r3, r4]
      · rw [HRES.out]
        exact TokV.lower (TokV.keep HV.out (O := fun j => j ≤ w.heap.size + 1) (Ch.setCell (Ch.setCell (Ch.setCell (Ch.setCell (Ch.setCell (Ch.refl _ _) (.inl (show w.heap.size + 1 ≤ w.heap.size + 1 from Nat.le_refl _)) _) (.inl (show w.heap.size + 1 ≤ w.heap.size + 1 from Nat.le_refl _)) _) (.inl (show w.heap.size + 1 ≤ w.heap.size + 1 from Nat.le_refl _)) _) (.inl (show w.heap.size + 1 ≤ w.heap.size + 1 from Nat.le_refl _)) _) (.inl (show w.heap.size + 1 ≤ w.heap.size + 1 from Nat.le_refl _)) _) (fun j hj _ e => by first | omega | (simp at hj; omega))) (by first | omega | (simp; omega))
      · rw [HRES.out]
        exact LexAt.cast (j := i + (1 + x.2)) (show LexAt _ g s (i + 1 + x.2) from (blk_far (blk_far (blk_far (blk_far (blk_far HL5.out (Ne.symm hneR) _) (Ne.symm hneR) _) (Ne.symm hneR) _) (Ne.symm hneR) _) (Ne.symm hneR) _)) (by omega)
      · exact (Ch.setCell (Ch.setCell (Ch.setCell (Ch.setCell (Ch.setCell ((HC1.out.drewN _).same HC5.out) (.inr hRle) _) (.inr hRle) _) (.inr hRle) _) (.inr hRle) _) (.inr hRle) _)
    | false =>
      have hno := HNO.out
      rw [if_neg (by rw [e63]; simp)] at hno
      have HNO := Lib.hid hno
      clear hno
      cases e47 : (bI s (i + 1) == 47) with
      | false =>
        have n47 : (bI s (i + 1) != 47) = true := by simp [bne, e47]
        have GC := Lib.hid (fun w h h' => tag_calls w g s (i + 1) 1 h (by omega) hg h' hs)
        have hres := HNO.out
        rw [if_pos e47] at hres
        obtain ⟨x, hx⟩ : ∃ x, x = tagL 1 (s.data.toList.drop (i + 1)) := ⟨_, rfl⟩
        rw [← hx] at hres GC
        have HRES := Lib.hid hres
        clear hres hx
        go_wp2_with fail
        refine (GC.out _ (HL1.out.drewN _) (HT1.out.below (below_drewN (Below.refl _ _) _))).mono ?_
        rintro e w5 ⟨v, rfl, hv, hL5, hc5⟩
        obtain ⟨A, c, rfl, hown⟩ := hv.slice
        have hR5 := hc5.blk (blk_drewN HR1.out _) hneR
        have HV := Lib.hid hv
        have HL5 := Lib.hid hL5
        have HC5 := Lib.hid hc5
        clear r0 r1 r2 r3 r4 rf0 rf1 rf2 rf3 rf4 c0 c1 f1 m0 m1 m2
        have r0 := blk_cell hR5 0
        have r1 := blk_cell hR5 1
        have r2 := blk_cell hR5 2
        have r3 := blk_cell hR5 3
        have r4 := blk_cell hR5 4
        have rf0 := blk_frozen hR5 0
        have rf1 := blk_frozen hR5 1
        have rf2 := blk_frozen hR5 2
        have rf3 := blk_frozen hR5 3
        have rf4 := blk_frozen hR5 4
        clear hL5 hc5 hown hv hR5
        go_wp2
        refine bodyPost_ret (v := .agg #[.int .i64 x.1.k, .string (mkS x.1.name), .slice A x.1.attrs.length c, .bool x.1.self, .string (mkS x.1.text)]) ?_ rfl ⟨_, rfl, ?_, ?_, ?_⟩
        · simp [results, Tryz.results47, go_sem, r0, r1, r2, r3, r4]
        · rw [HRES.out]
          exact TokV.lower (TokV.keep HV.out (O := fun j => j ≤ w.heap.size + 1) (Ch.setCell (Ch.setCell (Ch.setCell (Ch.setCell (Ch.setCell (Ch.refl _ _) (.inl (show w.heap.size + 1 ≤ w.heap.size + 1 from Nat.le_refl _)) _) (.inl (show w.heap.size + 1 ≤ w.heap.size + 1 from Nat.le_refl _)) _) (.inl (show w.heap.size + 1 ≤ w.heap.size + 1 from Nat.le_refl _)) _) (.inl (show w.heap.size + 1 ≤ w.heap.size + 1 from Nat.le_refl _)) _) (.inl (show w.heap.size + 1 ≤ w.heap.size + 1 from Nat.le_refl _)) _) (fun j hj _ e => by first | omega | (simp at hj; omega))) (by first | omega | (simp; omega))
        · rw [HRES.out]
          exact LexAt.cast (j := i + (1 + x.2)) (show LexAt _ g s (i + 1 + x.2) from (blk_far (blk_far (blk_far (blk_far (blk_far HL5.out (Ne.symm hneR) _) (Ne.symm hneR) _) (Ne.symm hneR) _) (Ne.symm hneR) _) (Ne.symm hneR) _)) (by omega)
        · exact (Ch.setCell (Ch.setCell (Ch.setCell (Ch.setCell (Ch.setCell ((HC1.out.drewN _).same HC5.out) (.inr hRle) _) (.inr hRle) _) (.inr hRle) _) (.inr hRle) _) (.inr hRle) _)
      | true =>
        have n47 : (bI s (i + 1) != 47) = false := by simp [bne, e47]
        have hi2 : i + 2 ≤ s.size := by
          rcases Nat.lt_or_ge (i + 1) s.size with h | h
          · omega
          · rw [bI_end s _ h] at e47; cases e47
        have hno := HNO.out
        rw [if_neg (by rw [e47]; simp)] at hno
        have HNO := Lib.hid hno
        have PC2 := Lib.hid (fun w h => peek_calls w g s (i + 2) h hi2 (by omega))
        have XC := Lib.hid (fun w => letter_calls w (bI s (i + 2)))
        have HL3 := Lib.hid (show LexAt ((w1.drewN n2).setCell ⟨g, 1, none⟩ (.int .i64 ((i : Int) + 1 + 1))) g s (i + 2) from LexAt.set_ (HL1.out.drewN n2) (by go_num))
        have HR3 := Lib.hid (blk_far (p := ⟨g, 1, none⟩) (blk_drewN HR1.out n2) hneR (.int .i64 ((i : Int) + 1 + 1)))
        have HC3 := Lib.hid (Ch.setCell (p := ⟨g, 1, none⟩) (HC1.out.drewN n2) (.inl (show g = g from rfl)) (.int .i64 ((i : Int) + 1 + 1)))
        have HT3 := Lib.hid (HT1.out.keep (O := (· = g)) (Ch.setCell (O := (· = g)) (p := ⟨g, 1, none⟩) ((Ch.refl _ _).drewN n2) (.inl (show g = g from rfl)) (.int .i64 ((i : Int) + 1 + 1))) (fun j hj e => by omega))
        have hw3 : w.heap.size + 2 ≤ ((w1.drewN n2).setCell ⟨g, 1, none⟩ (.int .i64 ((i : Int) + 1 + 1))).heap.size := by simpa using hw1
        clear hno
        go_wp2_with fail
        generalize (w1.drewN n2).setCell ⟨g, 1, none⟩ (.int .i64 ((i : Int) + 1 + 1)) = w3 at *
        clear c0 c1 f1 m0 m1 m2 r0 r1 r2 r3 r4 rf0 rf1 rf2 rf3 rf4 HL1 HR1 HC1 HT1 HM1
        refine (PC2.out _ HL3.out).mono ?_
        rintro e w4 ⟨rfl, n4, rfl⟩
        have c0 := HL3.out.c0
        have c1 := HL3.out.c1
        have f1 := HL3.out.f1
        have r0 := blk_cell HR3.out 0
        have r1 := blk_cell HR3.out 1
        have r2 := blk_cell HR3.out 2
        have r3 := blk_cell HR3.out 3
        have r4 := blk_cell HR3.out 4
        have rf0 := blk_frozen HR3.out 0
        have rf1 := blk_frozen HR3.out 1
        have rf2 := blk_frozen HR3.out 2
        have rf3 := blk_frozen HR3.out 3
        have rf4 := blk_frozen HR3.out 4
        go_wp2_with fail
        refine (XC.out _).mono ?_
        rintro e w4 ⟨rfl, rfl⟩
        cases el : letterI (bI s (i + 2)) with
        | true =>
          have GC := Lib.hid (fun w h h' => tag_calls w g s (i + 2) 2 h hi2 hg h' hs)
          have hres := HNO.out
          rw [if_pos el] at hres
          obtain ⟨x, hx⟩ : ∃ x, x = tagL 2 (s.data.toList.drop (i + 2)) := ⟨_, rfl⟩
          rw [← hx] at hres GC
          have HRES := Lib.hid hres
          clear hres hx
          go_wp2_with fail
          refine (GC.out _ (HL3.out.drewN _) (HT3.out.below (below_drewN (Below.refl _ _) _))).mono ?_
          rintro e w5 ⟨v, rfl, hv, hL5, hc5⟩
          obtain ⟨A, c, rfl, hown⟩ := hv.slice
          have hR5 := hc5.blk (blk_drewN HR3.out _) hneR
          have HV := Lib.hid hv
          have HL5 := Lib.hid hL5
          have HC5 := Lib.hid hc5
          clear r0 r1 r2 r3 r4 rf0 rf1 rf2 rf3 rf4 c0 c1 f1
          have r0 := blk_cell hR5 0
          have r1 := blk_cell hR5 1
          have r2 := blk_cell hR5 2
          have r3 := blk_cell hR5 3
          have r4 := blk_cell hR5 4
          have rf0 := blk_frozen hR5 0
          have rf1 := blk_frozen hR5 1
          have rf2 := blk_frozen hR5 2
          have rf3 := blk_frozen hR5 3
          have rf4 := blk_frozen hR5 4
          clear hL5 hc5 hown hv hR5
          go_wp2
          refine bodyPost_ret (v := .agg #[.int .i64 x.1.k, .string (mkS x.1.name), .slice A x.1.attrs.length c, .bool x.1.self, .string (mkS x.1.text)]) ?_ rfl ⟨_, rfl, ?_, ?_, ?_⟩
          · simp [results, Tryz.results47, go_sem, r0, r1, r2, r3, r4]
          · rw [HRES.out]
            exact TokV.lower (TokV.keep HV.out (O := fun j => j ≤ w.heap.size + 1) (Ch.setCell (Ch.setCell (Ch.setCell (Ch.setCell (Ch.setCell (Ch.refl _ _) (.inl (show w.heap.size + 1 ≤ w.heap.size + 1 from Nat.le_refl _)) _) (.inl (show w.heap.size + 1 ≤ w.heap.size + 1 from Nat.le_refl _)) _) (.inl (show w.heap.size + 1 ≤ w.heap.size + 1 from Nat.le_refl _)) _) (.inl (show w.heap.size + 1 ≤ w.heap.size + 1 from Nat.le_refl _)) _) (.inl (show w.heap.size + 1 ≤ w.heap.size + 1 from Nat.le_refl _)) _) (fun j hj _ e => by first | omega | (simp at hj; omega))) (by first | omega | (simp; omega))
          · rw [HRES.out]
            exact LexAt.cast (j := i + (2 + x.2)) (show LexAt _ g s (i + 2 + x.2) from (blk_far (blk_far (blk_far (blk_far (blk_far HL5.out (Ne.symm hneR) _) (Ne.symm hneR) _) (Ne.symm hneR) _) (Ne.symm hneR) _) (Ne.symm hneR) _)) (by omega)
          · exact (Ch.setCell (Ch.setCell (Ch.setCell (Ch.setCell (Ch.setCell ((HC3.out.drewN _).same HC5.out) (.inr hRle) _) (.inr hRle) _) (.inr hRle) _) (.inr hRle) _) (.inr hRle) _)
        | false =>
          have hno := HNO.out
          rw [if_neg (by rw [el]; simp)] at hno
          have HNO := Lib.hid hno
          clear hno
          cases e62 : (bI s (i + 2) == 62) with
          | true =>
            have hres := HNO.out
            rw [if_pos e62] at hres
            have HRES := Lib.hid hres
            clear hres
            go_wp2
            refine bodyPost_ret (v := .agg #[.int .i64 0, .string ⟨#[]⟩, .slice none 0 0, .bool false, .string ⟨#[]⟩]) ?_ rfl ⟨_, rfl, ?_, ?_, ?_⟩
            · simp [results, Tryz.results47, go_sem, r0, r1, r2, r3, r4]
            · rw [HRES.out]
              exact TokV.zero _ _
            · rw [HRES.out]
              exact LexAt.cast (j := i + 3) (show LexAt _ g s (i + 3) from (blk_far (blk_far (blk_far (blk_far (blk_far (LexAt.set_ (HL3.out.drewN _) (by go_num)) (Ne.symm hneR) _) (Ne.symm hneR) _) (Ne.symm hneR) _) (Ne.symm hneR) _) (Ne.symm hneR) _)) rfl
            · exact (Ch.setCell (Ch.setCell (Ch.setCell (Ch.setCell (Ch.setCell (Ch.setCell (HC3.out.drewN _) (.inl (show g = g from rfl)) _) (.inr hRle) _) (.inr hRle) _) (.inr hRle) _) (.inr hRle) _) (.inr hRle) _)
          | false =>
            have OC := Lib.hid (fun w h h' => odd_calls w g s (i + 2) h hi2 h' hs)
            have hres := HNO.out
            rw [if_neg (by rw [e62]; simp)] at hres
            obtain ⟨x, hx⟩ : ∃ x, x = oddL (s.data.toList.drop (i + 2)) := ⟨_, rfl⟩
            rw [← hx] at hres OC
            have HRES := Lib.hid hres
            clear hres hx
            go_wp2_with fail
            refine (OC.out _ (HL3.out.drewN _) (HT3.out.below (below_drewN (Below.refl _ _) _))).mono ?_
            rintro e w5 ⟨v, rfl, hv, hL5, hc5⟩
            obtain ⟨A, c, rfl, hown⟩ := hv.slice
            have hR5 := hc5.blk (blk_drewN HR3.out _) hneR
            have HV := Lib.hid hv
            have HL5 := Lib.hid hL5
            have HC5 := Lib.hid hc5
            clear r0 r1 r2 r3 r4 rf0 rf1 rf2 rf3 rf4 c0 c1 f1
            have r0 := blk_cell hR5 0
            have r1 := blk_cell hR5 1
            have r2 := blk_cell hR5 2
            have r3 := blk_cell hR5 3
            have r4 := blk_cell hR5 4
            have rf0 := blk_frozen hR5 0
            have rf1 := blk_frozen hR5 1
            have rf2 := blk_frozen hR5 2
            have rf3 := blk_frozen hR5 3
            have rf4 := blk_frozen hR5 4
            clear hL5 hc5 hown hv hR5
            go_wp2
            refine bodyPost_ret (v := .agg #[.int .i64 x.1.k, .string (mkS x.1.name), .slice A x.1.attrs.length c, .bool x.1.self, .string (mkS x.1.text)]) ?_ rfl ⟨_, rfl, ?_, ?_, ?_⟩
            · simp [results, Tryz.results47, go_sem, r0, r1, r2, r3, r4]
            · rw [HRES.out]
              exact TokV.lower (TokV.keep HV.out (O := fun j => j ≤ w.heap.size + 1) (Ch.setCell (Ch.setCell (Ch.setCell (Ch.setCell (Ch.setCell (Ch.refl _ _) (.inl (show w.heap.size + 1 ≤ w.heap.size + 1 from Nat.le_refl _)) _) (.inl (show w.heap.size + 1 ≤ w.heap.size + 1 from Nat.le_refl _)) _) (.inl (show w.heap.size + 1 ≤ w.heap.size + 1 from Nat.le_refl _)) _) (.inl (show w.heap.size + 1 ≤ w.heap.size + 1 from Nat.le_refl _)) _) (.inl (show w.heap.size + 1 ≤ w.heap.size + 1 from Nat.le_refl _)) _) (fun j hj _ e => by first | omega | (simp at hj; omega))) (by first | omega | (simp; omega))
            · rw [HRES.out]
              exact LexAt.cast (j := i + (2 + x.2)) (show LexAt _ g s (i + 2 + x.2) from (blk_far (blk_far (blk_far (blk_far (blk_far HL5.out (Ne.symm hneR) _) (Ne.symm hneR) _) (Ne.symm hneR) _) (Ne.symm hneR) _) (Ne.symm hneR) _)) (by omega)
            · exact (Ch.setCell (Ch.setCell (Ch.setCell (Ch.setCell (Ch.setCell ((HC3.out.drewN _).same HC5.out) (.inr hRle) _) (.inr hRle) _) (.inr hRle) _) (.inr hRle) _) (.inr hRle) _)

end Go.Proofs.YthfkldheflmlmaaGreatDoor
