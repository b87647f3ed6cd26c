/- Walks of the lexer: bang. -/
import Derived.Test.YthfkldheflmlmaaGreatDoorNote
namespace Go.Proofs.YthfkldheflmlmaaGreatDoor
open Go.RowKit

def cdataB : List UInt8 := [91, 67, 68, 65, 84, 65, 91]
def doctypeB : List UInt8 := [100, 111, 99, 116, 121, 112, 101]
def charsT (l : List UInt8) : TokM := ⟨3, [], [], false, l⟩
theorem TokV.chars (w : World) (B : Nat) (l : List UInt8) : TokV w B (charsT l) (.agg #[.int .i64 3, .string ⟨#[]⟩, .slice none 0 0, .bool false, .string (mkS l)]) := ⟨_, rfl, zero_owns _ _ _ _⟩
def docT : TokM := ⟨5, [], [], false, []⟩
theorem TokV.doc (w : World) (B : Nat) : TokV w B docT (.agg #[.int .i64 5, .string ⟨#[]⟩, .slice none 0 0, .bool false, .string ⟨#[]⟩]) := ⟨_, rfl, zero_owns _ _ _ _⟩
/-- What begins with <!, from behind that on. -/
def bangL (cd : Bool) (l : List UInt8) : TokM × Nat :=
  if Lib.hasPrefix l [45, 45] then ((noteL (l.drop 2)).1, 2 + (noteL (l.drop 2)).2)
  else if 7 ≤ l.length ∧ (lowL (l.take 7) == doctypeB) = true then (docT, (toL [62] l).2)
  else if cd = true ∧ Lib.hasPrefix l cdataB = true then ((if (toL [93, 93, 62] (l.drop 7)).1.isEmpty then zeroTok else charsT (toL [93, 93, 62] (l.drop 7)).1), 7 + (toL [93, 93, 62] (l.drop 7)).2)
  else oddL l
theorem blk_drewN {w : World} {b : Nat} {o : Obj} (h : w.heap[b]? = some o) (n : Nat) : (w.drewN n).heap[b]? = some o := h
theorem TokV.keep {w w' : World} {O : Nat → Prop} {B : Nat} {t : TokM} {v : Value} (h : TokV w B t v) (hc : Ch O w w') (hO : ∀ i, B ≤ i → i < w.heap.size → ¬ O i) : TokV w' B t v := by
  obtain ⟨va, rfl, h⟩ := h
  exact ⟨va, rfl, own_keep h hc hO⟩
theorem TokV.lower {w : World} {B B' : Nat} {t : TokM} {v : Value} (h : TokV w B t v) (hB : B' ≤ B) : TokV w B' t v := by
  obtain ⟨va, rfl, h⟩ := h
  exact ⟨va, rfl, own_lower h hB⟩
theorem hasPrefix_le {l p : List UInt8} (h : Lib.hasPrefix l p = true) : p.length ≤ l.length := by
  induction p generalizing l with
  | nil => exact Nat.zero_le _
  | cons b p ih =>
    cases l with
    | nil => cases h
    | cons a l =>
      simp [Lib.hasPrefix] at h
      have := ih (l := l) (by simpa [Lib.hasPrefix] using h.2)
      simp
      omega

set_option maxRecDepth 100000 in
set_option maxHeartbeats 4000000 in
theorem bang_calls (w : World) (g : Nat) (s last : ByteArray) (mk : Int) (cd : Bool) (i : Nat) (h : LexAt w g s i) (hi : i ≤ s.size) (hg : nG ≤ g) (ht : Tab w) (hs : s.size ≤ 10000000) :
    Calls Tryz.prog 78 #[.pointer (some ⟨g, 0, none⟩), .agg #[.int .i64 mk, .string last, .bool cd]] w fun e w' =>
      ∃ v, e = .returned v ∧ TokV w' w.heap.size (bangL cd (s.data.toList.drop i)).1 v ∧ LexAt w' g s (i + (bangL cd (s.data.toList.drop i)).2) ∧ Ch (· = g) w w' := by
  have hlt := h.lt
  have hneR : w.heap.size + 1 ≠ g := by omega
  have hRle : w.heap.size ≤ w.heap.size + 1 := Nat.le_succ _
  have hb0 : Below w.heap.size w ((w.alloc (.cells #[.int .i64 mk, .string last, .bool cd] 40)).alloc (.cells #[.int .i64 0, .string ⟨#[]⟩, .slice none 0 0, .bool false, .string ⟨#[]⟩] 30)) := ((Below.refl _ _).alloc (Nat.le_refl _) _).alloc (by simp) _
  have hL0 := h.below hb0
  have hR0 := blk_new (w.alloc (.cells #[.int .i64 mk, .string last, .bool cd] 40)) #[.int .i64 0, .string ⟨#[]⟩, .slice none 0 0, .bool false, .string ⟨#[]⟩] 30
  have hM0 := blk_alloc (blk_new w #[.int .i64 mk, .string last, .bool cd] 40) (.cells #[.int .i64 0, .string ⟨#[]⟩, .slice none 0 0, .bool false, .string ⟨#[]⟩] 30)
  have hT0 := ht.below hb0
  have hC0 : Ch (· = g) w _ := Ch.of_below hb0
  have hs0 : (w.alloc (.cells #[.int .i64 mk, .string last, .bool cd] 40)).heap.size = w.heap.size + 1 := by simp
  rw [hs0] at hR0
  have hw0 : w.heap.size + 2 ≤ ((w.alloc (.cells #[.int .i64 mk, .string last, .bool cd] 40)).alloc (.cells #[.int .i64 0, .string ⟨#[]⟩, .slice none 0 0, .bool false, .string ⟨#[]⟩] 30)).heap.size := by simp
  have hel := toL_from s i
  have hsz : (s.extract i s.size).size ≤ 1000000000 := by rw [size_from]; omega
  have hszi : (s.extract i s.size).size = s.size - i := size_from s i
  have P1 := Lib.hid (fun w => hasPrefix_calls w (s.extract i s.size) (mkS [45, 45]))
  have P2 := Lib.hid (fun w => hasPrefix_calls w (s.extract i s.size) (mkS cdataB))
  have hlen : (s.data.toList.drop i).length = s.size - i := by rw [List.length_drop, len_toL]
  rw [hel, of_mkS] at P1 P2
  have hno := bangL.eq_1 cd (s.data.toList.drop i)
  rw [List.drop_drop, List.drop_drop] at hno
  obtain ⟨L, hL⟩ : ∃ L, L = s.data.toList.drop i := ⟨_, rfl⟩
  rw [← hL] at P1 P2 hno hlen ⊢
  have hex : ((s.extract i s.size).extract 0 7).data.toList = L.take 7 := by rw [toL_extract, hel, ← hL]; simp
  have LC := Lib.hid (fun w => lower_calls w ((s.extract i s.size).extract 0 7) (by rw [← len_toL, hex, List.length_take]; omega))
  rw [hex] at LC
  obtain ⟨lo, hlo⟩ : ∃ lo, lo = mkS (lowL (L.take 7)) := ⟨_, rfl⟩
  have hloe : (lo.toList == doctypeB) = (lowL (L.take 7) == doctypeB) := by rw [hlo, ByteArray.toList_eq, of_mkS]
  rw [← hlo] at LC
  have HNO := Lib.hid hno
  have HL := Lib.hid hL0
  have HR := Lib.hid hR0
  have HMB := Lib.hid hM0
  have HC := Lib.hid hC0
  have HT := Lib.hid hT0
  have HLEN := Lib.hid hlen
  have HLL := Lib.hid hL
  have HLO := Lib.hid hloe
  have c0 := hL0.c0
  have c1 := hL0.c1
  have f1 := hL0.f1
  have m2 := blk_cell hM0 2
  have r0 := blk_cell hR0 0
  have r1 := blk_cell hR0 1
  have r2 := blk_cell hR0 2
  have r3 := blk_cell hR0 3
  have r4 := blk_cell hR0 4
  have rf0 := blk_frozen hR0 0
  have rf1 := blk_frozen hR0 1
  have rf2 := blk_frozen hR0 2
  have rf3 := blk_frozen hR0 3
  have rf4 := blk_frozen hR0 4
  clear hel hno hL hL0 hR0 hM0 hC0 hT0 h ht hb0 hlo hloe hex
  go_enter Tryz.func78, Tryz.ntmps78
  go_wp2
  generalize (w.alloc (.cells #[.int .i64 mk, .string last, .bool cd] 40)).alloc (.cells #[.int .i64 0, .string ⟨#[]⟩, .slice none 0 0, .bool false, .string ⟨#[]⟩] 30) = w0 at *
  go_quiet (fail)
  generalize s.extract i s.size = r at *
  go_wp2_with fail
  refine (P1.out _).mono ?_
  rintro e w3 ⟨rfl, rfl⟩
  cases e1 : Lib.hasPrefix L [45, 45] with
  | true =>
    have hl2 := hasPrefix_le e1
    have hi2 : i + 2 ≤ s.size := by have := HLEN.out; simp at hl2; omega
    have NC := Lib.hid (fun w h h' => note_calls w g s (i + 2) h hi2 hg h' hs)
    have hres := HNO.out
    rw [if_pos e1] at hres
    obtain ⟨x, hx⟩ : ∃ x, x = noteL (s.data.toList.drop (i + 2)) := ⟨_, rfl⟩
    rw [← hx] at hres NC
    have HRES := Lib.hid hres
    clear hres e1 hx hl2
    go_wp2_with fail
    refine (NC.out _ (LexAt.set_ (HL.out.drewN _) (by go_num)) (HT.out.keep (O := (· = g)) (Ch.setCell ((Ch.refl _ _).drewN _) (.inl (show g = g from rfl)) _) (fun j hj e => by omega))).mono ?_
    rintro e w5 ⟨v, rfl, hv, hL5, hc5⟩
    obtain ⟨A, c, rfl, hown⟩ := hv.slice
    have hR5 := hc5.blk (show (World.heap _)[w.heap.size + 1]? = _ from blk_far HR.out hneR _) hneR
    have HV := Lib.hid hv
    have HL5 := Lib.hid hL5
    have HC5 := Lib.hid hc5
    clear r0 r1 r2 r3 r4 rf0 rf1 rf2 rf3 rf4 c0 c1 f1 m2
    have r0 := blk_cell hR5 0
    have r1 := blk_cell hR5 1
    have r2 := blk_cell hR5 2
    have r3 := blk_cell hR5 3
    have r4 := blk_cell hR5 4
    have rf0 := blk_frozen hR5 0
    have rf1 := blk_frozen hR5 1
    have rf2 := blk_frozen hR5 2
    have rf3 := blk_frozen hR5 3
    have rf4 := blk_frozen hR5 4
    clear hL5 hc5 hown hv hR5
    go_wp2
    refine bodyPost_ret (v := .agg #[.int .i64 x.1.k, .string (mkS x.1.name), .slice A x.1.attrs.length c, .bool x.1.self, .string (mkS x.1.text)]) ?_ rfl ⟨_, rfl, ?_, ?_, ?_⟩
    · simp [results, Tryz.results78, go_sem, r0, r1, r2, r3, r4]
    · rw [HRES.out]
      exact TokV.lower (TokV.keep HV.out (O := fun j => j ≤ w.heap.size + 1) (Ch.setCell (Ch.setCell (Ch.setCell (Ch.setCell (Ch.setCell (Ch.refl _ _) (.inl (show w.heap.size + 1 ≤ w.heap.size + 1 from Nat.le_refl _)) _) (.inl (show w.heap.size + 1 ≤ w.heap.size + 1 from Nat.le_refl _)) _) (.inl (show w.heap.size + 1 ≤ w.heap.size + 1 from Nat.le_refl _)) _) (.inl (show w.heap.size + 1 ≤ w.heap.size + 1 from Nat.le_refl _)) _) (.inl (show w.heap.size + 1 ≤ w.heap.size + 1 from Nat.le_refl _)) _) (fun j hj _ e => by first | omega | (simp at hj; omega))) (by first | omega | (simp; omega))
    · rw [HRES.out]
      exact LexAt.cast (j := i + (2 + x.2)) (show LexAt _ g s (i + 2 + x.2) from (blk_far (blk_far (blk_far (blk_far (blk_far HL5.out (Ne.symm hneR) _) (Ne.symm hneR) _) (Ne.symm hneR) _) (Ne.symm hneR) _) (Ne.symm hneR) _)) (by omega)
    · exact (Ch.setCell (Ch.setCell (Ch.setCell (Ch.setCell (Ch.setCell ((Ch.setCell (HC.out.drewN _) (.inl (show g = g from rfl)) _).same HC5.out) (.inr hRle) _) (.inr hRle) _) (.inr hRle) _) (.inr hRle) _) (.inr hRle) _)
  | false =>
    have hno := HNO.out
    rw [if_neg (by rw [e1]; simp)] at hno
    have HNO := Lib.hid hno
    clear hno e1
    by_cases h7 : 7 ≤ r.size ∧ (lowL (L.take 7) == doctypeB) = true
    · obtain ⟨h71, h72⟩ := h7
      have hres := HNO.out
      rw [if_pos ⟨by rw [HLEN.out]; omega, h72⟩] at hres
      have hi7 : (7 : Int) ≤ r.size := by omega
      have hlo : (lo.toList == [100, 111, 99, 116, 121, 112, 101]) = true := by rw [← h72]; exact HLO.out
      have TC := Lib.hid (fun w h h' => to_calls w g s (mkS [62]) i h hi h' (by omega) (by decide))
      rw [of_mkS, ← HLL.out] at TC
      obtain ⟨x, hx⟩ : ∃ x, x = toL [62] L := ⟨_, rfl⟩
      rw [← hx] at hres TC
      have HRES := Lib.hid hres
      clear hres hx h72
      go_wp2_with fail
      refine (LC.out _).mono ?_
      rintro e w4 ⟨rfl, hb4⟩
      have hL4 := LexAt.below (HL.out.drewN _) hb4
      have hR4 := blk_below (blk_drewN HR.out _) hb4
      have hT4 := (HT.out.below (below_drewN (Below.refl _ _) _)).below hb4
      have hC4 := (HC.out.drewN _).then_below hb4
      have HL4 := Lib.hid hL4
      have HR4 := Lib.hid hR4
      have HT4 := Lib.hid hT4
      have HC4 := Lib.hid hC4
      clear hL4 hR4 hT4 hC4 hb4 r0 r1 r2 r3 r4 rf0 rf1 rf2 rf3 rf4 c0 c1 f1 m2
      go_wp2_with fail
      refine (TC.out _ HL4.out HT4.out.2).mono ?_
      rintro e w5 ⟨rfl, hL5, hc5⟩
      have hR5 := hc5.blk HR4.out hneR
      have r0 := blk_cell hR5 0
      have r1 := blk_cell hR5 1
      have r2 := blk_cell hR5 2
      have r3 := blk_cell hR5 3
      have r4 := blk_cell hR5 4
      have rf0 := blk_frozen hR5 0
      have rf1 := blk_frozen hR5 1
      have rf2 := blk_frozen hR5 2
      have rf3 := blk_frozen hR5 3
      have rf4 := blk_frozen hR5 4
      have HL5 := Lib.hid hL5
      have HC5 := Lib.hid hc5
      clear hL5 hR5 hc5
      go_wp2
      refine bodyPost_ret (v := .agg #[.int .i64 5, .string ⟨#[]⟩, .slice none 0 0, .bool false, .string ⟨#[]⟩]) ?_ rfl ⟨_, rfl, ?_, ?_, ?_⟩
      · simp [results, Tryz.results78, go_sem, r0, r1, r2, r3, r4]
      · rw [HRES.out]
        exact TokV.doc _ _
      · rw [HRES.out]
        exact LexAt.cast (j := i + x.2) (show LexAt _ g s (i + x.2) from (blk_far (blk_far (blk_far (blk_far (blk_far HL5.out (Ne.symm hneR) _) (Ne.symm hneR) _) (Ne.symm hneR) _) (Ne.symm hneR) _) (Ne.symm hneR) _)) rfl
      · exact (Ch.setCell (Ch.setCell (Ch.setCell (Ch.setCell (Ch.setCell (HC4.out.same HC5.out) (.inr hRle) _) (.inr hRle) _) (.inr hRle) _) (.inr hRle) _) (.inr hRle) _)
    · have hno := HNO.out
      rw [if_neg (by rw [HLEN.out, ← hszi]; exact h7)] at hno
      have HNO := Lib.hid hno
      clear hno
      by_cases h71 : 7 ≤ r.size
      · have h72 : (lowL (L.take 7) == doctypeB) = false := by
          cases hq : lowL (L.take 7) == doctypeB with
          | false => rfl
          | true => exact absurd ⟨h71, hq⟩ h7
        have hi7 : (7 : Int) ≤ r.size := by omega
        have hlo : (lo.toList == [100, 111, 99, 116, 121, 112, 101]) = false := by rw [← h72]; exact HLO.out
        clear h7 h72
        go_wp2_with fail
        refine (LC.out _).mono ?_
        rintro e w4 ⟨rfl, hb4⟩
        have HL4 := Lib.hid (LexAt.below (HL.out.drewN _) hb4)
        have HR4 := Lib.hid (blk_below (blk_drewN HR.out _) hb4)
        have HM4 := Lib.hid (blk_below (blk_drewN HMB.out _) hb4)
        have HT4 := Lib.hid ((HT.out.below (below_drewN (Below.refl _ _) _)).below hb4)
        have HC4 := Lib.hid ((HC.out.drewN _).then_below hb4)
        clear hb4 r0 r1 r2 r3 r4 rf0 rf1 rf2 rf3 rf4 c0 c1 f1 m2
        have c0 := HL4.out.c0
        have c1 := HL4.out.c1
        have f1 := HL4.out.f1
        have m2 := blk_cell HM4.out 2
        have hw4 := blk_lt HR4.out
        cases cd with
        | false =>
          have hres := HNO.out
          rw [if_neg (by simp)] at hres
          have OC := Lib.hid (fun w h h' => odd_calls w g s i h hi h' hs)
          rw [← HLL.out] at OC
          obtain ⟨x, hx⟩ : ∃ x, x = oddL L := ⟨_, rfl⟩
          rw [← hx] at hres OC
          have HRES := Lib.hid hres
          clear hres hx
          go_wp2_with fail
          refine (OC.out _ HL4.out HT4.out).mono ?_
          rintro e w5 ⟨v, rfl, hv, hL5, hc5⟩
          obtain ⟨A, c, rfl, hown⟩ := hv.slice
          have hR5 := hc5.blk HR4.out hneR
          have HV := Lib.hid hv
          have HL5 := Lib.hid hL5
          have HC5 := Lib.hid hc5
          clear c0 c1 f1 m2
          have r0 := blk_cell hR5 0
          have r1 := blk_cell hR5 1
          have r2 := blk_cell hR5 2
          have r3 := blk_cell hR5 3
          have r4 := blk_cell hR5 4
          have rf0 := blk_frozen hR5 0
          have rf1 := blk_frozen hR5 1
          have rf2 := blk_frozen hR5 2
          have rf3 := blk_frozen hR5 3
          have rf4 := blk_frozen hR5 4
          clear hL5 hc5 hown hv hR5
          go_wp2
          refine bodyPost_ret (v := .agg #[.int .i64 x.1.k, .string (mkS x.1.name), .slice A x.1.attrs.length c, .bool x.1.self, .string (mkS x.1.text)]) ?_ rfl ⟨_, rfl, ?_, ?_, ?_⟩
          · simp [results, Tryz.results78, go_sem, r0, r1, r2, r3, r4]
          · rw [HRES.out]
            exact TokV.lower (TokV.keep HV.out (O := fun j => j ≤ w.heap.size + 1) (Ch.setCell (Ch.setCell (Ch.setCell (Ch.setCell (Ch.setCell (Ch.refl _ _) (.inl (show w.heap.size + 1 ≤ w.heap.size + 1 from Nat.le_refl _)) _) (.inl (show w.heap.size + 1 ≤ w.heap.size + 1 from Nat.le_refl _)) _) (.inl (show w.heap.size + 1 ≤ w.heap.size + 1 from Nat.le_refl _)) _) (.inl (show w.heap.size + 1 ≤ w.heap.size + 1 from Nat.le_refl _)) _) (.inl (show w.heap.size + 1 ≤ w.heap.size + 1 from Nat.le_refl _)) _) (fun j hj _ e => by omega)) (by omega)
          · rw [HRES.out]
            exact LexAt.cast (j := i + x.2) (show LexAt _ g s (i + x.2) from (blk_far (blk_far (blk_far (blk_far (blk_far HL5.out (Ne.symm hneR) _) (Ne.symm hneR) _) (Ne.symm hneR) _) (Ne.symm hneR) _) (Ne.symm hneR) _)) rfl
          · exact (Ch.setCell (Ch.setCell (Ch.setCell (Ch.setCell (Ch.setCell (HC4.out.same HC5.out) (.inr hRle) _) (.inr hRle) _) (.inr hRle) _) (.inr hRle) _) (.inr hRle) _)
        | true =>
          cases hp : Lib.hasPrefix L cdataB with
          | false =>
            have hres := HNO.out
            rw [if_neg (by rw [hp]; simp)] at hres
            have OC := Lib.hid (fun w h h' => odd_calls w g s i h hi h' hs)
            rw [← HLL.out] at OC
            obtain ⟨x, hx⟩ : ∃ x, x = oddL L := ⟨_, rfl⟩
            rw [← hx] at hres OC
            have HRES := Lib.hid hres
            clear hres hx
            go_wp2_with fail
            refine (P2.out _).mono ?_
            rintro e w6 ⟨rfl, rfl⟩
            rw [hp]
            go_wp2_with fail
            refine (OC.out _ HL4.out HT4.out).mono ?_
            rintro e w5 ⟨v, rfl, hv, hL5, hc5⟩
            obtain ⟨A, c, rfl, hown⟩ := hv.slice
            have hR5 := hc5.blk HR4.out hneR
            have HV := Lib.hid hv
            have HL5 := Lib.hid hL5
            have HC5 := Lib.hid hc5
            clear c0 c1 f1 m2
            have r0 := blk_cell hR5 0
            have r1 := blk_cell hR5 1
            have r2 := blk_cell hR5 2
            have r3 := blk_cell hR5 3
            have r4 := blk_cell hR5 4
            have rf0 := blk_frozen hR5 0
            have rf1 := blk_frozen hR5 1
            have rf2 := blk_frozen hR5 2
            have rf3 := blk_frozen hR5 3
            have rf4 := blk_frozen hR5 4
            clear hL5 hc5 hown hv hR5
            go_wp2
            refine bodyPost_ret (v := .agg #[.int .i64 x.1.k, .string (mkS x.1.name), .slice A x.1.attrs.length c, .bool x.1.self, .string (mkS x.1.text)]) ?_ rfl ⟨_, rfl, ?_, ?_, ?_⟩
            · simp [results, Tryz.results78, go_sem, r0, r1, r2, r3, r4]
            · rw [HRES.out]
              exact TokV.lower (TokV.keep HV.out (O := fun j => j ≤ w.heap.size + 1) (Ch.setCell (Ch.setCell (Ch.setCell (Ch.setCell (Ch.setCell (Ch.refl _ _) (.inl (show w.heap.size + 1 ≤ w.heap.size + 1 from Nat.le_refl _)) _) (.inl (show w.heap.size + 1 ≤ w.heap.size + 1 from Nat.le_refl _)) _) (.inl (show w.heap.size + 1 ≤ w.heap.size + 1 from Nat.le_refl _)) _) (.inl (show w.heap.size + 1 ≤ w.heap.size + 1 from Nat.le_refl _)) _) (.inl (show w.heap.size + 1 ≤ w.heap.size + 1 from Nat.le_refl _)) _) (fun j hj _ e => by omega)) (by omega)
            · rw [HRES.out]
              exact LexAt.cast (j := i + x.2) (show LexAt _ g s (i + x.2) from (blk_far (blk_far (blk_far (blk_far (blk_far HL5.out (Ne.symm hneR) _) (Ne.symm hneR) _) (Ne.symm hneR) _) (Ne.symm hneR) _) (Ne.symm hneR) _)) rfl
            · exact (Ch.setCell (Ch.setCell (Ch.setCell (Ch.setCell (Ch.setCell (HC4.out.same HC5.out) (.inr hRle) _) (.inr hRle) _) (.inr hRle) _) (.inr hRle) _) (.inr hRle) _)
          | true =>
            have hl7 := hasPrefix_le hp
            have hi7 : i + 7 ≤ s.size := by have := HLEN.out; simp [cdataB] at hl7; omega
            have TC := Lib.hid (fun w h h' => to_calls w g s (mkS [93, 93, 62]) (i + 7) h hi7 h' (by omega) (by decide))
            rw [of_mkS] at TC
            have hres := HNO.out
            rw [if_pos ⟨rfl, hp⟩] at hres
            obtain ⟨x, hx⟩ : ∃ x, x = toL [93, 93, 62] (s.data.toList.drop (i + 7)) := ⟨_, rfl⟩
            rw [← hx] at hres TC
            have HX := Lib.hid hres
            clear hres hx
            go_wp2_with fail
            refine (P2.out _).mono ?_
            rintro e w6 ⟨rfl, rfl⟩
            rw [hp]
            clear hp
            go_wp2_with fail
            refine (TC.out _ (LexAt.set_ HL4.out (by go_num)) (HT4.out.keep (O := (· = g)) (Ch.setCell (Ch.refl _ _) (.inl (show g = g from rfl)) _) (fun j hj e => by omega)).2).mono ?_
            rintro e w5 ⟨rfl, hL5, hc5⟩
            have hR5 := hc5.blk (blk_far HR4.out hneR _) hneR
            have HL5 := Lib.hid hL5
            have HC5 := Lib.hid hc5
            clear c0 c1 f1 m2
            have r0 := blk_cell hR5 0
            have r1 := blk_cell hR5 1
            have r2 := blk_cell hR5 2
            have r3 := blk_cell hR5 3
            have r4 := blk_cell hR5 4
            have rf0 := blk_frozen hR5 0
            have rf1 := blk_frozen hR5 1
            have rf2 := blk_frozen hR5 2
            have rf3 := blk_frozen hR5 3
            have rf4 := blk_frozen hR5 4
            clear hL5 hc5 hR5
            cases hemp : x.1.isEmpty with
            | true =>
              have hx0 : x.1 = [] := by simpa using hemp
              have hem : (mkS x.1).toList = [] := by rw [hx0, ByteArray.toList_eq]; rfl
              have HRES : Hid (bangL true L = (zeroTok, 7 + x.2)) := Lib.hid (by rw [HX.out, hemp]; rfl)
              clear hx0 hemp
              go_wp2
              refine bodyPost_ret (v := .agg #[.int .i64 0, .string ⟨#[]⟩, .slice none 0 0, .bool false, .string ⟨#[]⟩]) ?_ rfl ⟨_, rfl, ?_, ?_, ?_⟩
              · simp [results, Tryz.results78, go_sem, r0, r1, r2, r3, r4]
              · rw [HRES.out]
                exact TokV.zero _ _
              · rw [HRES.out]
                exact LexAt.cast (j := i + (7 + x.2)) (show LexAt _ g s (i + 7 + x.2) from (blk_far (blk_far (blk_far (blk_far (blk_far HL5.out (Ne.symm hneR) _) (Ne.symm hneR) _) (Ne.symm hneR) _) (Ne.symm hneR) _) (Ne.symm hneR) _)) (by omega)
              · exact (Ch.setCell (Ch.setCell (Ch.setCell (Ch.setCell (Ch.setCell ((Ch.setCell HC4.out (.inl (show g = g from rfl)) _).same HC5.out) (.inr hRle) _) (.inr hRle) _) (.inr hRle) _) (.inr hRle) _) (.inr hRle) _)
            | false =>
              have hem : (mkS x.1).toList.isEmpty = false := by rw [ByteArray.toList_eq, of_mkS]; exact hemp
              have HRES : Hid (bangL true L = (charsT x.1, 7 + x.2)) := Lib.hid (by rw [HX.out, hemp]; rfl)
              clear hemp
              go_wp2
              refine bodyPost_ret (v := .agg #[.int .i64 3, .string ⟨#[]⟩, .slice none 0 0, .bool false, .string (mkS x.1)]) ?_ rfl ⟨_, rfl, ?_, ?_, ?_⟩
              · simp [results, Tryz.results78, go_sem, r0, r1, r2, r3, r4]
              · rw [HRES.out]
                exact TokV.chars _ _ _
              · rw [HRES.out]
                exact LexAt.cast (j := i + (7 + x.2)) (show LexAt _ g s (i + 7 + x.2) from (blk_far (blk_far (blk_far (blk_far (blk_far HL5.out (Ne.symm hneR) _) (Ne.symm hneR) _) (Ne.symm hneR) _) (Ne.symm hneR) _) (Ne.symm hneR) _)) (by omega)
              · exact (Ch.setCell (Ch.setCell (Ch.setCell (Ch.setCell (Ch.setCell ((Ch.setCell HC4.out (.inl (show g = g from rfl)) _).same HC5.out) (.inr hRle) _) (.inr hRle) _) (.inr hRle) _) (.inr hRle) _) (.inr hRle) _)
      · have hi7 : ¬ (7 : Int) ≤ r.size := by omega
        have HL4 := Lib.hid (HL.out.drewN nq)
        have HR4 := Lib.hid (blk_drewN HR.out nq)
        have HM4 := Lib.hid (blk_drewN HMB.out nq)
        have HT4 := Lib.hid (HT.out.below (below_drewN (Below.refl _ _) nq))
        have HC4 := Lib.hid (HC.out.drewN nq)
        clear h7 h71 r0 r1 r2 r3 r4 rf0 rf1 rf2 rf3 rf4 c0 c1 f1 m2
        generalize w0.drewN nq = w4 at *
        have c0 := HL4.out.c0
        have c1 := HL4.out.c1
        have f1 := HL4.out.f1
        have m2 := blk_cell HM4.out 2
        have hw4 := blk_lt HR4.out
        cases cd with
        | false =>
          have hres := HNO.out
          rw [if_neg (by simp)] at hres
          have OC := Lib.hid (fun w h h' => odd_calls w g s i h hi h' hs)
          rw [← HLL.out] at OC
          obtain ⟨x, hx⟩ : ∃ x, x = oddL L := ⟨_, rfl⟩
          rw [← hx] at hres OC
          have HRES := Lib.hid hres
          clear hres hx
          go_wp2_with fail
          refine (OC.out _ HL4.out HT4.out).mono ?_
          rintro e w5 ⟨v, rfl, hv, hL5, hc5⟩
          obtain ⟨A, c, rfl, hown⟩ := hv.slice
          have hR5 := hc5.blk HR4.out hneR
          have HV := Lib.hid hv
          have HL5 := Lib.hid hL5
          have HC5 := Lib.hid hc5
          clear c0 c1 f1 m2
          have r0 := blk_cell hR5 0
          have r1 := blk_cell hR5 1
          have r2 := blk_cell hR5 2
          have r3 := blk_cell hR5 3
          have r4 := blk_cell hR5 4
          have rf0 := blk_frozen hR5 0
          have rf1 := blk_frozen hR5 1
          have rf2 := blk_frozen hR5 2
          have rf3 := blk_frozen hR5 3
          have rf4 := blk_frozen hR5 4
          clear hL5 hc5 hown hv hR5
          go_wp2
          refine bodyPost_ret (v := .agg #[.int .i64 x.1.k, .string (mkS x.1.name), .slice A x.1.attrs.length c, .bool x.1.self, .string (mkS x.1.text)]) ?_ rfl ⟨_, rfl, ?_, ?_, ?_⟩
          · simp [results, Tryz.results78, go_sem, r0, r1, r2, r3, r4]
          · rw [HRES.out]
            exact TokV.lower (TokV.keep HV.out (O := fun j => j ≤ w.heap.size + 1) (Ch.setCell (Ch.setCell (Ch.setCell (Ch.setCell (Ch.setCell (Ch.refl _ _) (.inl (show w.heap.size + 1 ≤ w.heap.size + 1 from Nat.le_refl _)) _) (.inl (show w.heap.size + 1 ≤ w.heap.size + 1 from Nat.le_refl _)) _) (.inl (show w.heap.size + 1 ≤ w.heap.size + 1 from Nat.le_refl _)) _) (.inl (show w.heap.size + 1 ≤ w.heap.size + 1 from Nat.le_refl _)) _) (.inl (show w.heap.size + 1 ≤ w.heap.size + 1 from Nat.le_refl _)) _) (fun j hj _ e => by omega)) (by omega)
          · rw [HRES.out]
            exact LexAt.cast (j := i + x.2) (show LexAt _ g s (i + x.2) from (blk_far (blk_far (blk_far (blk_far (blk_far HL5.out (Ne.symm hneR) _) (Ne.symm hneR) _) (Ne.symm hneR) _) (Ne.symm hneR) _) (Ne.symm hneR) _)) rfl
          · exact (Ch.setCell (Ch.setCell (Ch.setCell (Ch.setCell (Ch.setCell (HC4.out.same HC5.out) (.inr hRle) _) (.inr hRle) _) (.inr hRle) _) (.inr hRle) _) (.inr hRle) _)
        | true =>
          cases hp : Lib.hasPrefix L cdataB with
          | false =>
            have hres := HNO.out
            rw [if_neg (by rw [hp]; simp)] at hres
            have OC := Lib.hid (fun w h h' => odd_calls w g s i h hi h' hs)
            rw [← HLL.out] at OC
            obtain ⟨x, hx⟩ : ∃ x, x = oddL L := ⟨_, rfl⟩
            rw [← hx] at hres OC
            have HRES := Lib.hid hres
            clear hres hx
            go_wp2_with fail
            refine (P2.out _).mono ?_
            rintro e w6 ⟨rfl, rfl⟩
            rw [hp]
            go_wp2_with fail
            refine (OC.out _ HL4.out HT4.out).mono ?_
            rintro e w5 ⟨v, rfl, hv, hL5, hc5⟩
            obtain ⟨A, c, rfl, hown⟩ := hv.slice
            have hR5 := hc5.blk HR4.out hneR
            have HV := Lib.hid hv
            have HL5 := Lib.hid hL5
            have HC5 := Lib.hid hc5
            clear c0 c1 f1 m2
            have r0 := blk_cell hR5 0
            have r1 := blk_cell hR5 1
            have r2 := blk_cell hR5 2
            have r3 := blk_cell hR5 3
            have r4 := blk_cell hR5 4
            have rf0 := blk_frozen hR5 0
            have rf1 := blk_frozen hR5 1
            have rf2 := blk_frozen hR5 2
            have rf3 := blk_frozen hR5 3
            have rf4 := blk_frozen hR5 4
            clear hL5 hc5 hown hv hR5
            go_wp2
            refine bodyPost_ret (v := .agg #[.int .i64 x.1.k, .string (mkS x.1.name), .slice A x.1.attrs.length c, .bool x.1.self, .string (mkS x.1.text)]) ?_ rfl ⟨_, rfl, ?_, ?_, ?_⟩
            · simp [results, Tryz.results78, go_sem, r0, r1, r2, r3, r4]
            · rw [HRES.out]
              exact TokV.lower (TokV.keep HV.out (O := fun j => j ≤ w.heap.size + 1) (Ch.setCell (Ch.setCell (Ch.setCell (Ch.setCell (Ch.setCell (Ch.refl _ _) (.inl (show w.heap.size + 1 ≤ w.heap.size + 1 from Nat.le_refl _)) _) (.inl (show w.heap.size + 1 ≤ w.heap.size + 1 from Nat.le_refl _)) _) (.inl (show w.heap.size + 1 ≤ w.heap.size + 1 from Nat.le_refl _)) _) (.inl (show w.heap.size + 1 ≤ w.heap.size + 1 from Nat.le_refl _)) _) (.inl (show w.heap.size + 1 ≤ w.heap.size + 1 from Nat.le_refl _)) _) (fun j hj _ e => by omega)) (by omega)
            · rw [HRES.out]
              exact LexAt.cast (j := i + x.2) (show LexAt _ g s (i + x.2) from (blk_far (blk_far (blk_far (blk_far (blk_far HL5.out (Ne.symm hneR) _) (Ne.symm hneR) _) (Ne.symm hneR) _) (Ne.symm hneR) _) (Ne.symm hneR) _)) rfl
            · exact (Ch.setCell (Ch.setCell (Ch.setCell (Ch.setCell (Ch.setCell (HC4.out.same HC5.out) (.inr hRle) _) (.inr hRle) _) (.inr hRle) _) (.inr hRle) _) (.inr hRle) _)
          | true =>
            have hl7 := hasPrefix_le hp
            have hi7 : i + 7 ≤ s.size := by have := HLEN.out; simp [cdataB] at hl7; omega
            exfalso
            omega

end Go.Proofs.YthfkldheflmlmaaGreatDoor
