/- Walks of the lexer: odd, note. -/
import Derived.Test.YthfkldheflmlmaaGreatDoorTagW
namespace Go.Proofs.YthfkldheflmlmaaGreatDoor
open Go.RowKit

theorem TokV.slice {w : World} {B : Nat} {t : TokM} {v : Value} (h : TokV w B t v) : ∃ A c, v = .agg #[.int .i64 t.k, .string (mkS t.name), .slice A t.attrs.length c, .bool t.self, .string (mkS t.text)] ∧ w.ownsRow B 48 2 (.slice A t.attrs.length c) t.attrs.length (attrCells t.attrs) := by
  obtain ⟨va, rfl, h⟩ := h
  obtain ⟨A, c, rfl, _, _⟩ := own_attrs h
  exact ⟨A, c, rfl, h⟩
def noteT (l : List UInt8) : TokM := ⟨4, [], [], false, l⟩
theorem TokV.note (w : World) (B : Nat) (l : List UInt8) : TokV w B (noteT l) (.agg #[.int .i64 4, .string ⟨#[]⟩, .slice none 0 0, .bool false, .string (mkS l)]) := ⟨_, rfl, zero_owns _ _ _ _⟩
theorem TokV.zero (w : World) (B : Nat) : TokV w B zeroTok (.agg #[.int .i64 0, .string ⟨#[]⟩, .slice none 0 0, .bool false, .string ⟨#[]⟩]) := ⟨_, rfl, zero_owns _ _ _ _⟩
theorem mkS_nil : mkS [] = ⟨#[]⟩ := rfl

def oddL (l : List UInt8) : TokM × Nat := (noteT (toL [62] l).1, (toL [62] l).2)
set_option maxRecDepth 100000 in
set_option maxHeartbeats 1000000 in
theorem odd_calls (w : World) (g : Nat) (s : ByteArray) (i : Nat) (h : LexAt w g s i) (hi : i ≤ s.size) (ht : Tab w) (hs : s.size ≤ 10000000) :
    Calls Tryz.prog 79 #[.pointer (some ⟨g, 0, none⟩)] w fun e w' =>
      ∃ v, e = .returned v ∧ TokV w' w.heap.size (oddL (s.data.toList.drop i)).1 v ∧ LexAt w' g s (i + (oddL (s.data.toList.drop i)).2) ∧ Ch (· = g) w w' := by
  have hlt := h.lt
  have hneR : w.heap.size ≠ g := by omega
  have HL := Lib.hid h
  have HM := Lib.hid (MaxTab.below ht.2 ((Below.refl _ _).alloc (Nat.le_refl _) (.cells #[.int .i64 0, .string ⟨#[]⟩, .slice none 0 0, .bool false, .string ⟨#[]⟩] 30)))
  have TC := Lib.hid (fun w h h' => to_calls w g s (mkS [62]) i h hi h' (by omega) (by decide))
  rw [of_mkS] at TC
  clear h ht
  obtain ⟨x, hx⟩ : ∃ x, x = toL [62] (s.data.toList.drop i) := ⟨_, rfl⟩
  have ho : oddL (s.data.toList.drop i) = (noteT x.1, x.2) := by rw [oddL, hx]
  rw [← hx] at TC
  have HO := Lib.hid ho
  clear hx ho
  go_enter Tryz.func79, Tryz.ntmps79
  go_wp2_with fail
  refine (TC.out _ (HL.out.below ((Below.refl _ _).alloc (Nat.le_refl _) _)) HM.out).mono ?_
  rintro e w1 ⟨rfl, hL1, hc1⟩
  have hR1 := hc1.blk (blk_new w _ _) hneR
  have HL1 := Lib.hid hL1
  have HR1 := Lib.hid hR1
  have HC1 := Lib.hid hc1
  have r0 := blk_cell HR1.out 0
  have r1 := blk_cell HR1.out 1
  have r2 := blk_cell HR1.out 2
  have r3 := blk_cell HR1.out 3
  have r4 := blk_cell HR1.out 4
  have rf0 := blk_frozen HR1.out 0
  have rf1 := blk_frozen HR1.out 1
  have rf2 := blk_frozen HR1.out 2
  have rf3 := blk_frozen HR1.out 3
  have rf4 := blk_frozen HR1.out 4
  clear hL1 hR1 hc1
  go_wp2
  refine bodyPost_ret (v := .agg #[.int .i64 4, .string ⟨#[]⟩, .slice none 0 0, .bool false, .string (mkS x.1)]) ?_ rfl ⟨_, rfl, ?_, ?_, ?_⟩
  · simp [results, Tryz.results79, go_sem, r0, r1, r2, r3, r4]
  · rw [HO.out]
    exact TokV.note _ _ _
  · rw [HO.out]
    exact LexAt.cast (j := i + x.2) (show LexAt _ g s (i + x.2) from (blk_far (blk_far (blk_far (blk_far (blk_far HL1.out (Ne.symm hneR) _) (Ne.symm hneR) _) (Ne.symm hneR) _) (Ne.symm hneR) _) (Ne.symm hneR) _)) rfl
  · exact (Ch.setCell (Ch.setCell (Ch.setCell (Ch.setCell (Ch.setCell ((Ch.alloc (Ch.refl _ _) _).same HC1.out) (.inr (Nat.le_refl _)) _) (.inr (Nat.le_refl _)) _) (.inr (Nat.le_refl _)) _) (.inr (Nat.le_refl _)) _) (.inr (Nat.le_refl _)) _)

set_option maxRecDepth 100000 in
theorem two_ix (w : World) : (Instr.index 51 (.agg #[.string ⟨#[62]⟩, .string ⟨#[45, 62]⟩]) (.int .i64 0)).run Tryz.prog w = .ok (.string ⟨#[62]⟩) w ∧ (Instr.index 51 (.agg #[.string ⟨#[62]⟩, .string ⟨#[45, 62]⟩]) (.int .i64 1)).run Tryz.prog w = .ok (.string ⟨#[45, 62]⟩) w := by
  constructor <;> kernel_rfl
set_option maxRecDepth 100000 in
theorem three_ix (w : World) : (Instr.index 135 (.agg #[.string ⟨#[45, 45, 33]⟩, .string ⟨#[45, 45]⟩, .string ⟨#[45]⟩]) (.int .i64 0)).run Tryz.prog w = .ok (.string ⟨#[45, 45, 33]⟩) w ∧ (Instr.index 135 (.agg #[.string ⟨#[45, 45, 33]⟩, .string ⟨#[45, 45]⟩, .string ⟨#[45]⟩]) (.int .i64 1)).run Tryz.prog w = .ok (.string ⟨#[45, 45]⟩) w ∧
    (Instr.index 135 (.agg #[.string ⟨#[45, 45, 33]⟩, .string ⟨#[45, 45]⟩, .string ⟨#[45]⟩]) (.int .i64 2)).run Tryz.prog w = .ok (.string ⟨#[45]⟩) w := by
  refine ⟨?_, ?_, ?_⟩ <;> kernel_rfl
/-- What is left of an unended comment's text. -/
def tailL (l : List UInt8) : List UInt8 :=
  if Lib.hasSuffix l [45, 45, 33] then Lib.trimSuffix l [45, 45, 33] else if Lib.hasSuffix l [45, 45] then Lib.trimSuffix l [45, 45] else if Lib.hasSuffix l [45] then Lib.trimSuffix l [45] else l
/-- A comment, from its text on. -/
def noteL (l : List UInt8) : TokM × Nat :=
  if Lib.hasPrefix l [62] then (noteT [], 1)
  else if Lib.hasPrefix l [45, 62] then (noteT [], 2)
  else if 0 ≤ Lib.index l [45, 45, 62] ∧ (Lib.index l [45, 45, 33, 62] < 0 ∨ Lib.index l [45, 45, 62] < Lib.index l [45, 45, 33, 62]) then (noteT (toL [45, 45, 62] l).1, (toL [45, 45, 62] l).2)
  else if 0 ≤ Lib.index l [45, 45, 33, 62] then (noteT (toL [45, 45, 33, 62] l).1, (toL [45, 45, 33, 62] l).2)
  else (noteT (tailL l), l.length)

set_option maxRecDepth 100000 in
set_option maxHeartbeats 4000000 in
theorem note_calls (w : World) (g : Nat) (s : ByteArray) (i : Nat) (h : LexAt w g s i) (hi : i ≤ s.size) (_hg : nG ≤ g) (ht : Tab w) (hs : s.size ≤ 10000000) :
    Calls Tryz.prog 103 #[.pointer (some ⟨g, 0, none⟩)] w fun e w' =>
      ∃ v, e = .returned v ∧ TokV w' w.heap.size (noteL (s.data.toList.drop i)).1 v ∧ LexAt w' g s (i + (noteL (s.data.toList.drop i)).2) ∧ Ch (· = g) w w' := by
  have hlt := h.lt
  have hneR : w.heap.size ≠ g := by omega
  have hL0 : LexAt (w.alloc (.cells #[.int .i64 0, .string ⟨#[]⟩, .slice none 0 0, .bool false, .string ⟨#[]⟩] 30)) g s i := h.below ((Below.refl _ _).alloc (Nat.le_refl _) _)
  have hR0 := blk_new w #[.int .i64 0, .string ⟨#[]⟩, .slice none 0 0, .bool false, .string ⟨#[]⟩] 30
  have hC0 : Ch (· = g) w (w.alloc (.cells #[.int .i64 0, .string ⟨#[]⟩, .slice none 0 0, .bool false, .string ⟨#[]⟩] 30)) := (Ch.refl _ _).alloc _
  have hM0 := ht.2.below ((Below.refl _ _).alloc (Nat.le_refl _) (.cells #[.int .i64 0, .string ⟨#[]⟩, .slice none 0 0, .bool false, .string ⟨#[]⟩] 30))
  have hel := toL_from s i
  have hsz : (s.extract i s.size).size ≤ 1000000000 := by rw [size_from]; omega
  have A1 := Lib.hid (fun w h => ahead_calls w g s (mkS [62]) i h hi (by omega))
  have A2 := Lib.hid (fun w h => ahead_calls w g s (mkS [45, 62]) i h hi (by omega))
  have T1 := Lib.hid (fun w h h' => to_calls w g s (mkS [45, 45, 62]) i h hi h' (by omega) (by decide))
  have T2 := Lib.hid (fun w h h' => to_calls w g s (mkS [45, 45, 33, 62]) i h hi h' (by omega) (by decide))
  have I1 := Lib.hid (fun w hm => index_calls w (s.extract i s.size) (mkS [45, 45, 62]) hm hsz)
  have I2 := Lib.hid (fun w hm => index_calls w (s.extract i s.size) (mkS [45, 45, 33, 62]) hm hsz)
  have S1 := Lib.hid (fun w => cutSuffix_calls w (s.extract i s.size) (mkS [45, 45, 33]) hsz)
  have S2 := Lib.hid (fun w => cutSuffix_calls w (s.extract i s.size) (mkS [45, 45]) hsz)
  have S3 := Lib.hid (fun w => cutSuffix_calls w (s.extract i s.size) (mkS [45]) hsz)
  have hlen : (s.data.toList.drop i).length = s.size - i := by rw [List.length_drop, len_toL]
  rw [of_mkS] at A1 A2 T1 T2
  rw [hel, of_mkS] at I1 I2 S1 S2 S3
  have hno := noteL.eq_1 (s.data.toList.drop i)
  obtain ⟨L, hL⟩ : ∃ L, L = s.data.toList.drop i := ⟨_, rfl⟩
  rw [← hL] at A1 A2 T1 T2 I1 I2 S1 S2 S3 hno hlen ⊢
  have hrs : mkS L = s.extract i s.size := by rw [hL, ← hel, mkS_of]
  have HNO := Lib.hid hno
  have HRS := Lib.hid hrs
  have HL := Lib.hid hL0
  have HR := Lib.hid hR0
  have HC := Lib.hid hC0
  have HM := Lib.hid hM0
  have HLEN := Lib.hid hlen
  have c0 := hL0.c0
  have c1 := hL0.c1
  have f1 := hL0.f1
  have r0 := blk_cell hR0 0
  have r1 := blk_cell hR0 1
  have r2 := blk_cell hR0 2
  have r3 := blk_cell hR0 3
  have r4 := blk_cell hR0 4
  have rf0 := blk_frozen hR0 0
  have rf1 := blk_frozen hR0 1
  have rf2 := blk_frozen hR0 2
  have rf3 := blk_frozen hR0 3
  have rf4 := blk_frozen hR0 4
  clear hel hsz hno hL hrs hL0 hR0 hC0 hM0 h ht hlen
  go_enter Tryz.func103, Tryz.ntmps103
  go_wp2
  generalize w.alloc (.cells #[.int .i64 0, .string ⟨#[]⟩, .slice none 0 0, .bool false, .string ⟨#[]⟩] 30) = w0 at *
  have ix0 := fun W => (two_ix W).1
  have ix1 := fun W => (two_ix W).2
  refine wp_loop_rounds 3 ?_
  rw [rounds_succ]
  go_wp2_with fail
  refine (A1.out _ HL.out).mono ?_
  rintro e w1 ⟨rfl, n1, rfl⟩
  cases e1 : Lib.hasPrefix L [62] with
  | true =>
    have hres : noteL L = (noteT [], 1) := by rw [HNO.out, if_pos e1]
    have HRES := Lib.hid hres
    clear hres e1
    go_wp2
    refine bodyPost_ret (v := .agg #[.int .i64 4, .string ⟨#[]⟩, .slice none 0 0, .bool false, .string ⟨#[]⟩]) ?_ rfl ⟨_, rfl, ?_, ?_, ?_⟩
    · simp [results, Tryz.results103, go_sem, r0, r1, r2, r3, r4]
    · rw [HRES.out]
      exact TokV.note _ _ _
    · rw [HRES.out]
      exact LexAt.cast (j := i + 1) (show LexAt _ g s (i + 1) from (blk_far (blk_far (blk_far (blk_far (blk_far (LexAt.set_ (HL.out.drewN _) (by go_num)) (Ne.symm hneR) _) (Ne.symm hneR) _) (Ne.symm hneR) _) (Ne.symm hneR) _) (Ne.symm hneR) _)) rfl
    · exact (Ch.setCell (Ch.setCell (Ch.setCell (Ch.setCell (Ch.setCell (Ch.setCell (HC.out.drewN _) (.inl (show g = g from rfl)) _) (.inr (Nat.le_refl _)) _) (.inr (Nat.le_refl _)) _) (.inr (Nat.le_refl _)) _) (.inr (Nat.le_refl _)) _) (.inr (Nat.le_refl _)) _)
  | false =>
    go_wp2
    rw [rounds_succ]
    go_wp2_with fail
    refine (A2.out _ (HL.out.drewN _)).mono ?_
    rintro e w2 ⟨rfl, n2, rfl⟩
    cases e2 : Lib.hasPrefix L [45, 62] with
    | true =>
      have hres : noteL L = (noteT [], 2) := by rw [HNO.out, if_neg (by rw [e1]; simp), if_pos e2]
      have HRES := Lib.hid hres
      clear hres e1 e2
      go_wp2
      refine bodyPost_ret (v := .agg #[.int .i64 4, .string ⟨#[]⟩, .slice none 0 0, .bool false, .string ⟨#[]⟩]) ?_ rfl ⟨_, rfl, ?_, ?_, ?_⟩
      · simp [results, Tryz.results103, go_sem, r0, r1, r2, r3, r4]
      · rw [HRES.out]
        exact TokV.note _ _ _
      · rw [HRES.out]
        exact LexAt.cast (j := i + 2) (show LexAt _ g s (i + 2) from (blk_far (blk_far (blk_far (blk_far (blk_far (LexAt.set_ (HL.out.drewN _) (by go_num)) (Ne.symm hneR) _) (Ne.symm hneR) _) (Ne.symm hneR) _) (Ne.symm hneR) _) (Ne.symm hneR) _)) rfl
      · exact (Ch.setCell (Ch.setCell (Ch.setCell (Ch.setCell (Ch.setCell (Ch.setCell (HC.out.drewN _) (.inl (show g = g from rfl)) _) (.inr (Nat.le_refl _)) _) (.inr (Nat.le_refl _)) _) (.inr (Nat.le_refl _)) _) (.inr (Nat.le_refl _)) _) (.inr (Nat.le_refl _)) _)
    | false =>
      have hno := HNO.out
      rw [if_neg (by rw [e1]; simp), if_neg (by rw [e2]; simp)] at hno
      have HNO := Lib.hid hno
      clear hno e1 e2
      go_wp2
      rw [rounds_succ]
      go_wp2
      go_quiet (fail)
      go_wp2_with fail
      refine (I1.out _ (HM.out.below (below_drewN (Below.refl _ _) _))).mono ?_
      rintro e w3 ⟨rfl, rfl⟩
      go_wp2_with fail
      refine (I2.out _ (HM.out.below (below_drewN (Below.refl _ _) _))).mono ?_
      rintro e w3 ⟨rfl, rfl⟩
      generalize Lib.index L [45, 45, 62] = a at *
      generalize Lib.index L [45, 45, 33, 62] = b at *
      by_cases ha : 0 ≤ a
      · by_cases hb : b < 0
        · skip
          have hres : noteL L = (noteT (toL [45, 45, 62] L).1, (toL [45, 45, 62] L).2) := by rw [HNO.out, if_pos ⟨ha, .inl hb⟩]
          have HRES := Lib.hid hres
          clear hres HNO
          obtain ⟨x, hx⟩ : ∃ x, x = toL [45, 45, 62] L := ⟨_, rfl⟩
          rw [← hx] at T1 HRES
          clear hx
          go_wp2_with fail
          refine (T1.out _ (HL.out.drewN _) (HM.out.below (below_drewN (Below.refl _ _) _))).mono ?_
          rintro e w5 ⟨rfl, hL5, hc5⟩
          have hR5 := hc5.blk (show (w0.drewN _).heap[w.heap.size]? = _ from HR.out) hneR
          have HL5 := Lib.hid hL5
          have HC5 := Lib.hid ((HC.out.drewN _).same hc5)
          clear r0 r1 r2 r3 r4 rf0 rf1 rf2 rf3 rf4 c0 c1 f1
          have r0 := blk_cell hR5 0
          have r1 := blk_cell hR5 1
          have r2 := blk_cell hR5 2
          have r3 := blk_cell hR5 3
          have r4 := blk_cell hR5 4
          have rf0 := blk_frozen hR5 0
          have rf1 := blk_frozen hR5 1
          have rf2 := blk_frozen hR5 2
          have rf3 := blk_frozen hR5 3
          have rf4 := blk_frozen hR5 4
          clear hL5 hc5
          go_wp2
          refine bodyPost_ret (v := .agg #[.int .i64 4, .string ⟨#[]⟩, .slice none 0 0, .bool false, .string (mkS x.1)]) ?_ rfl ⟨_, rfl, ?_, ?_, ?_⟩
          · simp [results, Tryz.results103, go_sem, r0, r1, r2, r3, r4]
          · rw [HRES.out]
            exact TokV.note _ _ _
          · rw [HRES.out]
            exact LexAt.cast (j := i + x.2) (show LexAt _ g s (i + x.2) from (blk_far (blk_far (blk_far (blk_far (blk_far HL5.out (Ne.symm hneR) _) (Ne.symm hneR) _) (Ne.symm hneR) _) (Ne.symm hneR) _) (Ne.symm hneR) _)) rfl
          · exact (Ch.setCell (Ch.setCell (Ch.setCell (Ch.setCell (Ch.setCell HC5.out (.inr (Nat.le_refl _)) _) (.inr (Nat.le_refl _)) _) (.inr (Nat.le_refl _)) _) (.inr (Nat.le_refl _)) _) (.inr (Nat.le_refl _)) _)
        · by_cases hab : a < b
          · skip
            have hres : noteL L = (noteT (toL [45, 45, 62] L).1, (toL [45, 45, 62] L).2) := by rw [HNO.out, if_pos ⟨ha, .inr hab⟩]
            have HRES := Lib.hid hres
            clear hres HNO
            obtain ⟨x, hx⟩ : ∃ x, x = toL [45, 45, 62] L := ⟨_, rfl⟩
            rw [← hx] at T1 HRES
            clear hx
            go_wp2_with fail
            refine (T1.out _ (HL.out.drewN _) (HM.out.below (below_drewN (Below.refl _ _) _))).mono ?_
            rintro e w5 ⟨rfl, hL5, hc5⟩
            have hR5 := hc5.blk (show (w0.drewN _).heap[w.heap.size]? = _ from HR.out) hneR
            have HL5 := Lib.hid hL5
            have HC5 := Lib.hid ((HC.out.drewN _).same hc5)
            clear r0 r1 r2 r3 r4 rf0 rf1 rf2 rf3 rf4 c0 c1 f1
            have r0 := blk_cell hR5 0
            have r1 := blk_cell hR5 1
            have r2 := blk_cell hR5 2
            have r3 := blk_cell hR5 3
            have r4 := blk_cell hR5 4
            have rf0 := blk_frozen hR5 0
            have rf1 := blk_frozen hR5 1
            have rf2 := blk_frozen hR5 2
            have rf3 := blk_frozen hR5 3
            have rf4 := blk_frozen hR5 4
            clear hL5 hc5
            go_wp2
            refine bodyPost_ret (v := .agg #[.int .i64 4, .string ⟨#[]⟩, .slice none 0 0, .bool false, .string (mkS x.1)]) ?_ rfl ⟨_, rfl, ?_, ?_, ?_⟩
            · simp [results, Tryz.results103, go_sem, r0, r1, r2, r3, r4]
            · rw [HRES.out]
              exact TokV.note _ _ _
            · rw [HRES.out]
              exact LexAt.cast (j := i + x.2) (show LexAt _ g s (i + x.2) from (blk_far (blk_far (blk_far (blk_far (blk_far HL5.out (Ne.symm hneR) _) (Ne.symm hneR) _) (Ne.symm hneR) _) (Ne.symm hneR) _) (Ne.symm hneR) _)) rfl
            · exact (Ch.setCell (Ch.setCell (Ch.setCell (Ch.setCell (Ch.setCell HC5.out (.inr (Nat.le_refl _)) _) (.inr (Nat.le_refl _)) _) (.inr (Nat.le_refl _)) _) (.inr (Nat.le_refl _)) _) (.inr (Nat.le_refl _)) _)
          · have hb0 : 0 ≤ b := by omega
            have hres : noteL L = (noteT (toL [45, 45, 33, 62] L).1, (toL [45, 45, 33, 62] L).2) := by rw [HNO.out, if_neg (by omega), if_pos hb0]
            have HRES := Lib.hid hres
            clear hres HNO
            obtain ⟨x, hx⟩ : ∃ x, x = toL [45, 45, 33, 62] L := ⟨_, rfl⟩
            rw [← hx] at T2 HRES
            clear hx
            go_wp2_with fail
            refine (T2.out _ (HL.out.drewN _) (HM.out.below (below_drewN (Below.refl _ _) _))).mono ?_
            rintro e w5 ⟨rfl, hL5, hc5⟩
            have hR5 := hc5.blk (show (w0.drewN _).heap[w.heap.size]? = _ from HR.out) hneR
            have HL5 := Lib.hid hL5
            have HC5 := Lib.hid ((HC.out.drewN _).same hc5)
            clear r0 r1 r2 r3 r4 rf0 rf1 rf2 rf3 rf4 c0 c1 f1
            have r0 := blk_cell hR5 0
            have r1 := blk_cell hR5 1
            have r2 := blk_cell hR5 2
            have r3 := blk_cell hR5 3
            have r4 := blk_cell hR5 4
            have rf0 := blk_frozen hR5 0
            have rf1 := blk_frozen hR5 1
            have rf2 := blk_frozen hR5 2
            have rf3 := blk_frozen hR5 3
            have rf4 := blk_frozen hR5 4
            clear hL5 hc5
            go_wp2
            refine bodyPost_ret (v := .agg #[.int .i64 4, .string ⟨#[]⟩, .slice none 0 0, .bool false, .string (mkS x.1)]) ?_ rfl ⟨_, rfl, ?_, ?_, ?_⟩
            · simp [results, Tryz.results103, go_sem, r0, r1, r2, r3, r4]
            · rw [HRES.out]
              exact TokV.note _ _ _
            · rw [HRES.out]
              exact LexAt.cast (j := i + x.2) (show LexAt _ g s (i + x.2) from (blk_far (blk_far (blk_far (blk_far (blk_far HL5.out (Ne.symm hneR) _) (Ne.symm hneR) _) (Ne.symm hneR) _) (Ne.symm hneR) _) (Ne.symm hneR) _)) rfl
            · exact (Ch.setCell (Ch.setCell (Ch.setCell (Ch.setCell (Ch.setCell HC5.out (.inr (Nat.le_refl _)) _) (.inr (Nat.le_refl _)) _) (.inr (Nat.le_refl _)) _) (.inr (Nat.le_refl _)) _) (.inr (Nat.le_refl _)) _)
      · by_cases hb0 : 0 ≤ b
        · skip
          have hres : noteL L = (noteT (toL [45, 45, 33, 62] L).1, (toL [45, 45, 33, 62] L).2) := by rw [HNO.out, if_neg (by omega), if_pos hb0]
          have HRES := Lib.hid hres
          clear hres HNO
          obtain ⟨x, hx⟩ : ∃ x, x = toL [45, 45, 33, 62] L := ⟨_, rfl⟩
          rw [← hx] at T2 HRES
          clear hx
          go_wp2_with fail
          refine (T2.out _ (HL.out.drewN _) (HM.out.below (below_drewN (Below.refl _ _) _))).mono ?_
          rintro e w5 ⟨rfl, hL5, hc5⟩
          have hR5 := hc5.blk (show (w0.drewN _).heap[w.heap.size]? = _ from HR.out) hneR
          have HL5 := Lib.hid hL5
          have HC5 := Lib.hid ((HC.out.drewN _).same hc5)
          clear r0 r1 r2 r3 r4 rf0 rf1 rf2 rf3 rf4 c0 c1 f1
          have r0 := blk_cell hR5 0
          have r1 := blk_cell hR5 1
          have r2 := blk_cell hR5 2
          have r3 := blk_cell hR5 3
          have r4 := blk_cell hR5 4
          have rf0 := blk_frozen hR5 0
          have rf1 := blk_frozen hR5 1
          have rf2 := blk_frozen hR5 2
          have rf3 := blk_frozen hR5 3
          have rf4 := blk_frozen hR5 4
          clear hL5 hc5
          go_wp2
          refine bodyPost_ret (v := .agg #[.int .i64 4, .string ⟨#[]⟩, .slice none 0 0, .bool false, .string (mkS x.1)]) ?_ rfl ⟨_, rfl, ?_, ?_, ?_⟩
          · simp [results, Tryz.results103, go_sem, r0, r1, r2, r3, r4]
          · rw [HRES.out]
            exact TokV.note _ _ _
          · rw [HRES.out]
            exact LexAt.cast (j := i + x.2) (show LexAt _ g s (i + x.2) from (blk_far (blk_far (blk_far (blk_far (blk_far HL5.out (Ne.symm hneR) _) (Ne.symm hneR) _) (Ne.symm hneR) _) (Ne.symm hneR) _) (Ne.symm hneR) _)) rfl
          · exact (Ch.setCell (Ch.setCell (Ch.setCell (Ch.setCell (Ch.setCell HC5.out (.inr (Nat.le_refl _)) _) (.inr (Nat.le_refl _)) _) (.inr (Nat.le_refl _)) _) (.inr (Nat.le_refl _)) _) (.inr (Nat.le_refl _)) _)
        · have hno := HNO.out
          rw [if_neg (by omega), if_neg hb0] at hno
          have HNO := Lib.hid hno
          clear hno
          go_wp2
          have ix3 := fun W => (three_ix W).1
          have ix4 := fun W => (three_ix W).2.1
          have ix5 := fun W => (three_ix W).2.2
          refine wp_loop_rounds 4 ?_
          rw [rounds_succ]
          go_wp2_with fail
          refine (S1.out _).mono ?_
          rintro e w5 ⟨rfl, rfl⟩
          cases eS1 : Lib.hasSuffix L [45, 45, 33] with
          | true =>
            have hres : noteL L = (noteT (Lib.trimSuffix L [45, 45, 33]), L.length) := by rw [HNO.out, tailL, if_pos eS1]
            have HRES := Lib.hid hres
            clear hres eS1
            go_wp2
            refine bodyPost_ret (v := .agg #[.int .i64 4, .string ⟨#[]⟩, .slice none 0 0, .bool false, .string (mkS (Lib.trimSuffix L [45, 45, 33]))]) ?_ rfl ⟨_, rfl, ?_, ?_, ?_⟩
            · simp [results, Tryz.results103, go_sem, r0, r1, r2, r3, r4]
            · rw [HRES.out]
              exact TokV.note _ _ _
            · rw [HRES.out]
              exact LexAt.cast (j := i + L.length) (show LexAt _ g s s.size from (blk_far (blk_far (blk_far (blk_far (blk_far (LexAt.set_ (HL.out.drewN _) rfl) (Ne.symm hneR) _) (Ne.symm hneR) _) (Ne.symm hneR) _) (Ne.symm hneR) _) (Ne.symm hneR) _)) (by have := HLEN.out; omega)
            · exact (Ch.setCell (Ch.setCell (Ch.setCell (Ch.setCell (Ch.setCell (Ch.setCell (HC.out.drewN _) (.inl (show g = g from rfl)) _) (.inr (Nat.le_refl _)) _) (.inr (Nat.le_refl _)) _) (.inr (Nat.le_refl _)) _) (.inr (Nat.le_refl _)) _) (.inr (Nat.le_refl _)) _)
          | false =>
            go_wp2
            rw [rounds_succ]
            go_wp2_with fail
            refine (S2.out _).mono ?_
            rintro e w5 ⟨rfl, rfl⟩
            cases eS2 : Lib.hasSuffix L [45, 45] with
            | true =>
              have hres : noteL L = (noteT (Lib.trimSuffix L [45, 45]), L.length) := by rw [HNO.out, tailL, if_neg (by rw [eS1]; simp), if_pos eS2]
              have HRES := Lib.hid hres
              clear hres eS2
              go_wp2
              refine bodyPost_ret (v := .agg #[.int .i64 4, .string ⟨#[]⟩, .slice none 0 0, .bool false, .string (mkS (Lib.trimSuffix L [45, 45]))]) ?_ rfl ⟨_, rfl, ?_, ?_, ?_⟩
              · simp [results, Tryz.results103, go_sem, r0, r1, r2, r3, r4]
              · rw [HRES.out]
                exact TokV.note _ _ _
              · rw [HRES.out]
                exact LexAt.cast (j := i + L.length) (show LexAt _ g s s.size from (blk_far (blk_far (blk_far (blk_far (blk_far (LexAt.set_ (HL.out.drewN _) rfl) (Ne.symm hneR) _) (Ne.symm hneR) _) (Ne.symm hneR) _) (Ne.symm hneR) _) (Ne.symm hneR) _)) (by have := HLEN.out; omega)
              · exact (Ch.setCell (Ch.setCell (Ch.setCell (Ch.setCell (Ch.setCell (Ch.setCell (HC.out.drewN _) (.inl (show g = g from rfl)) _) (.inr (Nat.le_refl _)) _) (.inr (Nat.le_refl _)) _) (.inr (Nat.le_refl _)) _) (.inr (Nat.le_refl _)) _) (.inr (Nat.le_refl _)) _)
            | false =>
              go_wp2
              rw [rounds_succ]
              go_wp2_with fail
              refine (S3.out _).mono ?_
              rintro e w5 ⟨rfl, rfl⟩
              cases eS3 : Lib.hasSuffix L [45] with
              | true =>
                have hres : noteL L = (noteT (Lib.trimSuffix L [45]), L.length) := by rw [HNO.out, tailL, if_neg (by rw [eS1]; simp), if_neg (by rw [eS2]; simp), if_pos eS3]
                have HRES := Lib.hid hres
                clear hres eS3
                go_wp2
                refine bodyPost_ret (v := .agg #[.int .i64 4, .string ⟨#[]⟩, .slice none 0 0, .bool false, .string (mkS (Lib.trimSuffix L [45]))]) ?_ rfl ⟨_, rfl, ?_, ?_, ?_⟩
                · simp [results, Tryz.results103, go_sem, r0, r1, r2, r3, r4]
                · rw [HRES.out]
                  exact TokV.note _ _ _
                · rw [HRES.out]
                  exact LexAt.cast (j := i + L.length) (show LexAt _ g s s.size from (blk_far (blk_far (blk_far (blk_far (blk_far (LexAt.set_ (HL.out.drewN _) rfl) (Ne.symm hneR) _) (Ne.symm hneR) _) (Ne.symm hneR) _) (Ne.symm hneR) _) (Ne.symm hneR) _)) (by have := HLEN.out; omega)
                · exact (Ch.setCell (Ch.setCell (Ch.setCell (Ch.setCell (Ch.setCell (Ch.setCell (HC.out.drewN _) (.inl (show g = g from rfl)) _) (.inr (Nat.le_refl _)) _) (.inr (Nat.le_refl _)) _) (.inr (Nat.le_refl _)) _) (.inr (Nat.le_refl _)) _) (.inr (Nat.le_refl _)) _)
              | false =>
                go_wp2
                rw [rounds_succ]
                go_wp2
                have hres : noteL L = (noteT L, L.length) := by rw [HNO.out, tailL, if_neg (by rw [eS1]; simp), if_neg (by rw [eS2]; simp), if_neg (by rw [eS3]; simp)]
                have HRES := Lib.hid hres
                have hr4 : s.extract i s.size = mkS L := HRS.out.symm
                refine bodyPost_ret (v := .agg #[.int .i64 4, .string ⟨#[]⟩, .slice none 0 0, .bool false, .string (mkS L)]) ?_ rfl ⟨_, rfl, ?_, ?_, ?_⟩
                · simp [results, Tryz.results103, go_sem, r0, r1, r2, r3, r4, hr4]
                · rw [HRES.out]
                  exact TokV.note _ _ _
                · rw [HRES.out]
                  exact LexAt.cast (j := i + L.length) (show LexAt _ g s s.size from (blk_far (blk_far (blk_far (blk_far (blk_far (LexAt.set_ (HL.out.drewN _) rfl) (Ne.symm hneR) _) (Ne.symm hneR) _) (Ne.symm hneR) _) (Ne.symm hneR) _) (Ne.symm hneR) _)) (by have := HLEN.out; omega)
                · exact (Ch.setCell (Ch.setCell (Ch.setCell (Ch.setCell (Ch.setCell (Ch.setCell (HC.out.drewN _) (.inl (show g = g from rfl)) _) (.inr (Nat.le_refl _)) _) (.inr (Nat.le_refl _)) _) (.inr (Nat.le_refl _)) _) (.inr (Nat.le_refl _)) _) (.inr (Nat.le_refl _)) _)

end Go.Proofs.YthfkldheflmlmaaGreatDoor
