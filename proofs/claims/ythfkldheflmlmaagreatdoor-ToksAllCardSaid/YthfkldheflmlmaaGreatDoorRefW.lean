/- The next token, as the reference has it (rectoref05.Next): its contract. -/
import Derived.Test.YthfkldheflmlmaaGreatDoorRefV
namespace Go.Proofs.YthfkldheflmlmaaGreatDoor
open Go.RowKit Go.Lib

theorem beg_step (s : ByteArray) (j : Nat) (h : j < s.size) : plN (s.data.toList.drop j) = if stopL (s.data.toList.drop j) = true then 0 else 1 + plN (s.data.toList.drop (j + 1)) := plN_step s j h
theorem got_lower {w : World} {B B' : Nat} {t : TokM} {n : Nat} {v : Value} (h : GotV w B t n v) (hB : B' ≤ B) : GotV w B' t n v := by
  obtain ⟨va, rfl, h⟩ := h
  exact ⟨va, rfl, own_lower h hB⟩
def NextP (w : World) (t : TokM) (n : Nat) (e : Ending) (w' : World) : Prop := ∃ v, e = .returned v ∧ GotV w' w.heap.size t n v ∧ Below w.heap.size w w'
set_option maxRecDepth 100000 in
set_option maxHeartbeats 16000000 in
/-- In the mode 1. -/
theorem rnext_raw1 (w : World) (s last : ByteArray) (cd : Bool) (i : Nat) (hi : i < s.size) (hs : s.size ≤ 1000000) (hl : last.size ≤ 1000000) :
    Calls Tryz.prog 13 #[.string s, .int .i64 i, .agg #[.int .i64 1, .string last, .bool cd]] w (NextP w (nextIn (s.data.toList.drop i) 1 last.data.toList cd).1 (i + (nextIn (s.data.toList.drop i) 1 last.data.toList cd).2)) := by
  obtain ⟨tv, htv⟩ : ∃ tv, nextIn (s.data.toList.drop i) 1 last.data.toList cd = tv := ⟨_, rfl⟩
  rw [htv]
  rw [nextIn, if_neg (by omega)] at htv
  obtain ⟨N, hN⟩ : ∃ N, i + tv.2 = N := ⟨_, rfl⟩
  rw [hN]
  have hi' : (i : Int) < s.size := by omega
  have hd1 : decide (s.size ≤ i) = false := decide_eq_false (by omega)
  obtain ⟨E, hE⟩ : ∃ E, i + endN last.data.toList (s.data.toList.drop i) = E := ⟨_, rfl⟩
  have CC := Lib.hid (fun W k hk => rcloses_calls W s last k hk hs hl)
  have hM := blk_alloc (blk_new w #[.int .i64 1, .string last, .bool cd] 44) (.cells #[.int .i64 0, .string ⟨#[]⟩, .slice none 0 0, .bool false, .string ⟨#[]⟩, .int .i64 0] 42)
  have hR := blk_new (w.alloc (.cells #[.int .i64 1, .string last, .bool cd] 44)) #[.int .i64 0, .string ⟨#[]⟩, .slice none 0 0, .bool false, .string ⟨#[]⟩, .int .i64 0] 42
  rw [show (w.alloc (.cells #[.int .i64 1, .string last, .bool cd] 44)).heap.size = w.heap.size + 1 by simp] at hR
  have hb0 : Below w.heap.size w ((w.alloc (.cells #[.int .i64 1, .string last, .bool cd] 44)).alloc (.cells #[.int .i64 0, .string ⟨#[]⟩, .slice none 0 0, .bool false, .string ⟨#[]⟩, .int .i64 0] 42)) := ((Below.refl _ _).alloc (Nat.le_refl _) _).alloc (by simp) _
  have hz0 : ((w.alloc (.cells #[.int .i64 1, .string last, .bool cd] 44)).alloc (.cells #[.int .i64 0, .string ⟨#[]⟩, .slice none 0 0, .bool false, .string ⟨#[]⟩, .int .i64 0] 42)).heap.size = w.heap.size + 2 := by simp
  have HTV := Lib.hid htv
  have HE := Lib.hid hE
  have HN := Lib.hid hN
  have hm0 := blk_cell hM 0
  clear htv hE hN
  go_enter Tryz.func13, Tryz.ntmps13
  go_upto_region 1 with fail
  generalize (w.alloc (.cells #[.int .i64 1, .string last, .bool cd] 44)).alloc (.cells #[.int .i64 0, .string ⟨#[]⟩, .slice none 0 0, .bool false, .string ⟨#[]⟩, .int .i64 0] 42) = w0 at *
  have HM := Lib.hid hM
  have HR := Lib.hid hR
  have HB := Lib.hid hb0
  clear hM hR hb0
  go_wp2
  go_loopw [7] (fun a wr => ∃ k : Nat, i ≤ k ∧ k ≤ s.size ∧ a = .int .i64 k ∧ Below w.heap.size w wr ∧ wr.heap[w.heap.size]? = some (.cells #[.int .i64 1, .string last, .bool cd] 44 (0, 0)) ∧ wr.heap[w.heap.size + 1]? = some (.cells #[.int .i64 0, .string ⟨#[]⟩, .slice none 0 0, .bool false, .string ⟨#[]⟩, .int .i64 0] 42 (0, 0)) ∧ Hid (E = k + endN last.data.toList (s.data.toList.drop k))) (fun a _ => s.size - (RowKit.intOf a).toNat)
  case atStart => exact ⟨i, Nat.le_refl _, by omega, rfl, HB.out, HM.out, HR.out, Lib.hid HE.out.symm⟩
  case round =>
    obtain ⟨k, hik, hk, rfl, hB, hMr, hRr, HI⟩ := hrel
    clear hm0
    have m0 := blk_cell hMr 0
    have m1 := blk_cell hMr 1
    have hlm := blk_lt hMr
    have HMr := Lib.hid hMr
    have HRr := Lib.hid hRr
    have HBr := Lib.hid hB
    clear hMr hRr hB
    by_cases hgo : k < s.size ∧ endsL (s.data.toList.drop k) last.data.toList = false
    · obtain ⟨hlt, hends⟩ := hgo
      have hlt' : (k : Int) < s.size := by omega
      have HQ : Hid (E = (k + 1) + endN last.data.toList (s.data.toList.drop (k + 1))) := Lib.hid (by rw [HI.out, endN_step s _ k hlt, hends]; simp; omega)
      have CK := Lib.hid (fun W => CC.out W k (by omega))
      rw [hends] at CK
      clear hends hlt
      go_wp2_with (go_at_call 27; (with_reducible refine (CK.out _).mono ?_); rintro v w5 ⟨rfl, hb5⟩)
      go_roundw
      case rel => first | exact ⟨k + 1, by omega, by omega, by go_num, below_then HBr.out HBr.out.size hb5, (hb5.block _ (blk_lt HMr.out)).trans HMr.out, (hb5.block _ (blk_lt HRr.out)).trans HRr.out, HQ⟩ | ((repeat apply Exists.intro); exact ⟨⟨k + 1, by omega, by omega, by go_num, below_then HBr.out HBr.out.size hb5, (hb5.block _ (blk_lt HMr.out)).trans HMr.out, (hb5.block _ (blk_lt HRr.out)).trans HRr.out, HQ⟩, rfl⟩)
      case measure => simp [RowKit.intOf]; omega
    · have hkE : k = E := by
        rw [HI.out]
        by_cases h : k < s.size
        · rw [endN_step s _ k h, if_pos (by cases hh : endsL (s.data.toList.drop k) last.data.toList with | true => rfl | false => exact absurd ⟨h, hh⟩ hgo)]; rfl
        · rw [endN_end s _ k (by omega)]; rfl
      have htv := HTV.out
      rw [show endN last.data.toList (s.data.toList.drop i) = k - i by have := HE.out; omega] at htv
      have hcl : k < s.size → endsL (s.data.toList.drop k) last.data.toList = true := fun h => by cases hh : endsL (s.data.toList.drop k) last.data.toList with | true => rfl | false => exact absurd ⟨h, hh⟩ hgo
      have HCL := Lib.hid hcl
      clear hgo hcl HI HM HR HB hkE
      by_cases hki : k = i
      · subst hki
        have h2 := endsL_two (HCL.out hi)
        rw [List.length_drop, len_toL] at h2
        rw [if_pos (by omega), List.drop_drop] at htv
        have TC : Hid (∀ W, Calls Tryz.prog 28 #[.string s, .int .i64 ((k : Int) + 2), .int .i64 2] W fun e w' => ∃ v, e = .returned v ∧ GotV w' W.heap.size tv.1 N v ∧ Below W.heap.size W w') := Lib.hid (fun W => by
          have := rtag_calls W s (k + 2) 2 (by omega) hs
          rw [show (((k + 2 : Nat)) : Int) = (k : Int) + 2 by omega] at this
          rwa [show (tagL 2 (s.data.toList.drop (k + 2))).1 = tv.1 by rw [← htv], show k + 2 + (tagL 2 (s.data.toList.drop (k + 2))).2 = N by rw [← HN.out, ← htv, Nat.add_assoc]] at this)
        have CK := Lib.hid (fun W => CC.out W k (by omega))
        rw [HCL.out hi] at CK
        clear htv h2
        go_wp2_with (first | (go_at_call 27; (with_reducible refine (CK.out _).mono ?_); rintro v w5 ⟨rfl, hb5⟩; have hR5 := (hb5.block _ (blk_lt HRr.out)).trans HRr.out; have hB5 := below_then HBr.out HBr.out.size hb5; clear hb5) | (go_at_call 28; (with_reducible refine (TC.out _).mono ?_); rintro _ w6 ⟨v, rfl, hgv, hb6⟩; obtain ⟨A, c, rfl, hown⟩ := hgv.slice; have hR6 := (hb6.block _ (blk_lt hR5)).trans hR5; have hB6 := below_then hB5 hB5.size hb6; have r0 := blk_cell hR6 0; have r1 := blk_cell hR6 1; have r2 := blk_cell hR6 2; have r3 := blk_cell hR6 3; have r4 := blk_cell hR6 4; have r5 := blk_cell hR6 5; have f0 := blk_frozen hR6 0; have f1 := blk_frozen hR6 1; have f2 := blk_frozen hR6 2; have f3 := blk_frozen hR6 3; have f4 := blk_frozen hR6 4; have f5 := blk_frozen hR6 5; have hl6 := blk_lt hR6; have HOWN := Lib.hid hown; have HB6 := Lib.hid hB6; have hl5 := blk_lt hR5; clear hown hB6 hb6 hgv))
        refine bodyPost_ret (v := .agg #[.int .i64 tv.1.k, .string (mkS tv.1.name), .slice A tv.1.attrs.length c, .bool tv.1.self, .string (mkS tv.1.text), .int .i64 (N : Int)]) ?_ rfl (show NextP _ _ _ _ _ from ⟨_, rfl, got_lower (set6_got HOWN.out hl5) (Nat.le_succ _), set6_below HB6.out (Nat.le_succ _) _ _ _⟩)
        simp [results, Tryz.results13, go_sem, r0, r1, r2, r3, r4, r5]
      · rw [if_neg (by omega)] at htv
        have hn : N = k := by rw [← HN.out, ← htv]; dsimp only; omega
        have hki' : (k == i) = false := beq_eq_false_iff_ne.2 hki
        have hex : s.extract i k = mkS ((s.data.toList.drop i).take (k - i)) := by rw [← mkS_of (s.extract i k), toL_extract]
        have HEX := Lib.hid hex
        have HNK := Lib.hid hn
        have j1 : (i : Int) ≤ (k : Int) := by omega
        have j2 : (k : Int) ≤ (s.size : Int) := by omega
        have HT : Hid (tv.1 = charsT (allL ((s.data.toList.drop i).take (k - i)) false)) := Lib.hid (by rw [← htv]; rfl)
        have AC : Hid (∀ W, Calls Tryz.prog 29 #[.string (s.extract i k), .bool false] W fun x w' => x = .returned (.string (mkS (allL ((s.data.toList.drop i).take (k - i)) false))) ∧ Below W.heap.size W w') := Lib.hid (fun W => by
          have hzz : (s.extract i k).size ≤ 1000000 := by rw [← len_toL, toL_extract, List.length_take, List.length_drop, len_toL]; omega
          have := rallR_calls W (s.extract i k) false hzz
          rwa [toL_extract] at this)
        generalize allL ((s.data.toList.drop i).take (k - i)) false = al at *
        clear htv hn hex
        by_cases hks : k < s.size
        · have hks' : (k : Int) < s.size := by omega
          have CK := Lib.hid (fun W => CC.out W k (by omega))
          rw [HCL.out hks] at CK
          go_wp2_with (first | (go_at_call 27; (with_reducible refine (CK.out _).mono ?_); rintro v w5 ⟨rfl, hb5⟩; have hR5 := (hb5.block _ (blk_lt HRr.out)).trans HRr.out; have hB5 := below_then HBr.out HBr.out.size hb5; have hM5 := (hb5.block _ (blk_lt HMr.out)).trans HMr.out; have m50 := blk_cell hM5 0; have lm5 := blk_lt hM5; have r0 := blk_cell hR5 0; have r1 := blk_cell hR5 1; have r2 := blk_cell hR5 2; have r3 := blk_cell hR5 3; have r4 := blk_cell hR5 4; have r5 := blk_cell hR5 5; have f0 := blk_frozen hR5 0; have f1 := blk_frozen hR5 1; have f2 := blk_frozen hR5 2; have f3 := blk_frozen hR5 3; have f4 := blk_frozen hR5 4; have f5 := blk_frozen hR5 5; have hl5 := blk_lt hR5; clear hb5) | (go_at_call 29; (with_reducible refine (AC.out _).mono ?_); rintro v w6 ⟨rfl, hb6⟩; have hR6 := (hb6.block _ (blk_lt hR5)).trans hR5; have hB6 := below_then hB5 hB5.size hb6; have r0 := blk_cell hR6 0; have r1 := blk_cell hR6 1; have r2 := blk_cell hR6 2; have r3 := blk_cell hR6 3; have r4 := blk_cell hR6 4; have r5 := blk_cell hR6 5; have f0 := blk_frozen hR6 0; have f1 := blk_frozen hR6 1; have f2 := blk_frozen hR6 2; have f3 := blk_frozen hR6 3; have f4 := blk_frozen hR6 4; have f5 := blk_frozen hR6 5; have hl6 := blk_lt hR6; clear hb6))
          refine bodyPost_ret (v := .agg #[.int .i64 3, .string ⟨#[]⟩, .slice none 0 0, .bool false, .string (mkS al), .int .i64 (k : Int)]) ?_ rfl (show NextP _ _ _ _ _ from ⟨_, rfl, ?_, ?_⟩)
          · simp [results, Tryz.results13, go_sem, r0, r1, r2, r3, r4, r5]
          · rw [HT.out, HNK.out]; exact GotV.of rfl (zero_owns _ _ _ _) rfl
          · exact (((((hB6.setCell (Nat.le_succ _) _).setCell (Nat.le_succ _) _).setCell (Nat.le_succ _) _).setCell (Nat.le_succ _) _).setCell (Nat.le_succ _) _).setCell (Nat.le_succ _) _
        · have hks' : ¬ (k : Int) < s.size := by omega
          go_wp2_with (go_at_call 29; (with_reducible refine (AC.out _).mono ?_); rintro v w6 ⟨rfl, hb6⟩; have hR6 := (hb6.block _ (blk_lt HRr.out)).trans HRr.out; have hB6 := below_then HBr.out HBr.out.size hb6; have r0 := blk_cell hR6 0; have r1 := blk_cell hR6 1; have r2 := blk_cell hR6 2; have r3 := blk_cell hR6 3; have r4 := blk_cell hR6 4; have r5 := blk_cell hR6 5; have f0 := blk_frozen hR6 0; have f1 := blk_frozen hR6 1; have f2 := blk_frozen hR6 2; have f3 := blk_frozen hR6 3; have f4 := blk_frozen hR6 4; have f5 := blk_frozen hR6 5; have hl6 := blk_lt hR6; clear hb6)
          refine bodyPost_ret (v := .agg #[.int .i64 3, .string ⟨#[]⟩, .slice none 0 0, .bool false, .string (mkS al), .int .i64 (k : Int)]) ?_ rfl (show NextP _ _ _ _ _ from ⟨_, rfl, ?_, ?_⟩)
          · simp [results, Tryz.results13, go_sem, r0, r1, r2, r3, r4, r5]
          · rw [HT.out, HNK.out]; exact GotV.of rfl (zero_owns _ _ _ _) rfl
          · exact (((((hB6.setCell (Nat.le_succ _) _).setCell (Nat.le_succ _) _).setCell (Nat.le_succ _) _).setCell (Nat.le_succ _) _).setCell (Nat.le_succ _) _).setCell (Nat.le_succ _) _

set_option maxRecDepth 100000 in
set_option maxHeartbeats 16000000 in
/-- In the mode 2. -/
theorem rnext_raw2 (w : World) (s last : ByteArray) (cd : Bool) (i : Nat) (hi : i < s.size) (hs : s.size ≤ 1000000) (hl : last.size ≤ 1000000) :
    Calls Tryz.prog 13 #[.string s, .int .i64 i, .agg #[.int .i64 2, .string last, .bool cd]] w (NextP w (nextIn (s.data.toList.drop i) 2 last.data.toList cd).1 (i + (nextIn (s.data.toList.drop i) 2 last.data.toList cd).2)) := by
  obtain ⟨tv, htv⟩ : ∃ tv, nextIn (s.data.toList.drop i) 2 last.data.toList cd = tv := ⟨_, rfl⟩
  rw [htv]
  rw [nextIn, if_neg (by omega)] at htv
  obtain ⟨N, hN⟩ : ∃ N, i + tv.2 = N := ⟨_, rfl⟩
  rw [hN]
  have hi' : (i : Int) < s.size := by omega
  have hd1 : decide (s.size ≤ i) = false := decide_eq_false (by omega)
  obtain ⟨E, hE⟩ : ∃ E, i + endN last.data.toList (s.data.toList.drop i) = E := ⟨_, rfl⟩
  have CC := Lib.hid (fun W k hk => rcloses_calls W s last k hk hs hl)
  have hM := blk_alloc (blk_new w #[.int .i64 2, .string last, .bool cd] 44) (.cells #[.int .i64 0, .string ⟨#[]⟩, .slice none 0 0, .bool false, .string ⟨#[]⟩, .int .i64 0] 42)
  have hR := blk_new (w.alloc (.cells #[.int .i64 2, .string last, .bool cd] 44)) #[.int .i64 0, .string ⟨#[]⟩, .slice none 0 0, .bool false, .string ⟨#[]⟩, .int .i64 0] 42
  rw [show (w.alloc (.cells #[.int .i64 2, .string last, .bool cd] 44)).heap.size = w.heap.size + 1 by simp] at hR
  have hb0 : Below w.heap.size w ((w.alloc (.cells #[.int .i64 2, .string last, .bool cd] 44)).alloc (.cells #[.int .i64 0, .string ⟨#[]⟩, .slice none 0 0, .bool false, .string ⟨#[]⟩, .int .i64 0] 42)) := ((Below.refl _ _).alloc (Nat.le_refl _) _).alloc (by simp) _
  have hz0 : ((w.alloc (.cells #[.int .i64 2, .string last, .bool cd] 44)).alloc (.cells #[.int .i64 0, .string ⟨#[]⟩, .slice none 0 0, .bool false, .string ⟨#[]⟩, .int .i64 0] 42)).heap.size = w.heap.size + 2 := by simp
  have HTV := Lib.hid htv
  have HE := Lib.hid hE
  have HN := Lib.hid hN
  have hm0 := blk_cell hM 0
  clear htv hE hN
  go_enter Tryz.func13, Tryz.ntmps13
  go_upto_region 1 with fail
  generalize (w.alloc (.cells #[.int .i64 2, .string last, .bool cd] 44)).alloc (.cells #[.int .i64 0, .string ⟨#[]⟩, .slice none 0 0, .bool false, .string ⟨#[]⟩, .int .i64 0] 42) = w0 at *
  have HM := Lib.hid hM
  have HR := Lib.hid hR
  have HB := Lib.hid hb0
  clear hM hR hb0
  go_wp2
  go_loopw [7] (fun a wr => ∃ k : Nat, i ≤ k ∧ k ≤ s.size ∧ a = .int .i64 k ∧ Below w.heap.size w wr ∧ wr.heap[w.heap.size]? = some (.cells #[.int .i64 2, .string last, .bool cd] 44 (0, 0)) ∧ wr.heap[w.heap.size + 1]? = some (.cells #[.int .i64 0, .string ⟨#[]⟩, .slice none 0 0, .bool false, .string ⟨#[]⟩, .int .i64 0] 42 (0, 0)) ∧ Hid (E = k + endN last.data.toList (s.data.toList.drop k))) (fun a _ => s.size - (RowKit.intOf a).toNat)
  case atStart => exact ⟨i, Nat.le_refl _, by omega, rfl, HB.out, HM.out, HR.out, Lib.hid HE.out.symm⟩
  case round =>
    obtain ⟨k, hik, hk, rfl, hB, hMr, hRr, HI⟩ := hrel
    clear hm0
    have m0 := blk_cell hMr 0
    have m1 := blk_cell hMr 1
    have hlm := blk_lt hMr
    have HMr := Lib.hid hMr
    have HRr := Lib.hid hRr
    have HBr := Lib.hid hB
    clear hMr hRr hB
    by_cases hgo : k < s.size ∧ endsL (s.data.toList.drop k) last.data.toList = false
    · obtain ⟨hlt, hends⟩ := hgo
      have hlt' : (k : Int) < s.size := by omega
      have HQ : Hid (E = (k + 1) + endN last.data.toList (s.data.toList.drop (k + 1))) := Lib.hid (by rw [HI.out, endN_step s _ k hlt, hends]; simp; omega)
      have CK := Lib.hid (fun W => CC.out W k (by omega))
      rw [hends] at CK
      clear hends hlt
      go_wp2_with (go_at_call 27; (with_reducible refine (CK.out _).mono ?_); rintro v w5 ⟨rfl, hb5⟩)
      go_roundw
      case rel => first | exact ⟨k + 1, by omega, by omega, by go_num, below_then HBr.out HBr.out.size hb5, (hb5.block _ (blk_lt HMr.out)).trans HMr.out, (hb5.block _ (blk_lt HRr.out)).trans HRr.out, HQ⟩ | ((repeat apply Exists.intro); exact ⟨⟨k + 1, by omega, by omega, by go_num, below_then HBr.out HBr.out.size hb5, (hb5.block _ (blk_lt HMr.out)).trans HMr.out, (hb5.block _ (blk_lt HRr.out)).trans HRr.out, HQ⟩, rfl⟩)
      case measure => simp [RowKit.intOf]; omega
    · have hkE : k = E := by
        rw [HI.out]
        by_cases h : k < s.size
        · rw [endN_step s _ k h, if_pos (by cases hh : endsL (s.data.toList.drop k) last.data.toList with | true => rfl | false => exact absurd ⟨h, hh⟩ hgo)]; rfl
        · rw [endN_end s _ k (by omega)]; rfl
      have htv := HTV.out
      rw [show endN last.data.toList (s.data.toList.drop i) = k - i by have := HE.out; omega] at htv
      have hcl : k < s.size → endsL (s.data.toList.drop k) last.data.toList = true := fun h => by cases hh : endsL (s.data.toList.drop k) last.data.toList with | true => rfl | false => exact absurd ⟨h, hh⟩ hgo
      have HCL := Lib.hid hcl
      clear hgo hcl HI HM HR HB hkE
      by_cases hki : k = i
      · subst hki
        have h2 := endsL_two (HCL.out hi)
        rw [List.length_drop, len_toL] at h2
        rw [if_pos (by omega), List.drop_drop] at htv
        have TC : Hid (∀ W, Calls Tryz.prog 28 #[.string s, .int .i64 ((k : Int) + 2), .int .i64 2] W fun e w' => ∃ v, e = .returned v ∧ GotV w' W.heap.size tv.1 N v ∧ Below W.heap.size W w') := Lib.hid (fun W => by
          have := rtag_calls W s (k + 2) 2 (by omega) hs
          rw [show (((k + 2 : Nat)) : Int) = (k : Int) + 2 by omega] at this
          rwa [show (tagL 2 (s.data.toList.drop (k + 2))).1 = tv.1 by rw [← htv], show k + 2 + (tagL 2 (s.data.toList.drop (k + 2))).2 = N by rw [← HN.out, ← htv, Nat.add_assoc]] at this)
        have CK := Lib.hid (fun W => CC.out W k (by omega))
        rw [HCL.out hi] at CK
        clear htv h2
        go_wp2_with (first | (go_at_call 27; (with_reducible refine (CK.out _).mono ?_); rintro v w5 ⟨rfl, hb5⟩; have hR5 := (hb5.block _ (blk_lt HRr.out)).trans HRr.out; have hB5 := below_then HBr.out HBr.out.size hb5; clear hb5) | (go_at_call 28; (with_reducible refine (TC.out _).mono ?_); rintro _ w6 ⟨v, rfl, hgv, hb6⟩; obtain ⟨A, c, rfl, hown⟩ := hgv.slice; have hR6 := (hb6.block _ (blk_lt hR5)).trans hR5; have hB6 := below_then hB5 hB5.size hb6; have r0 := blk_cell hR6 0; have r1 := blk_cell hR6 1; have r2 := blk_cell hR6 2; have r3 := blk_cell hR6 3; have r4 := blk_cell hR6 4; have r5 := blk_cell hR6 5; have f0 := blk_frozen hR6 0; have f1 := blk_frozen hR6 1; have f2 := blk_frozen hR6 2; have f3 := blk_frozen hR6 3; have f4 := blk_frozen hR6 4; have f5 := blk_frozen hR6 5; have hl6 := blk_lt hR6; have HOWN := Lib.hid hown; have HB6 := Lib.hid hB6; have hl5 := blk_lt hR5; clear hown hB6 hb6 hgv))
        refine bodyPost_ret (v := .agg #[.int .i64 tv.1.k, .string (mkS tv.1.name), .slice A tv.1.attrs.length c, .bool tv.1.self, .string (mkS tv.1.text), .int .i64 (N : Int)]) ?_ rfl (show NextP _ _ _ _ _ from ⟨_, rfl, got_lower (set6_got HOWN.out hl5) (Nat.le_succ _), set6_below HB6.out (Nat.le_succ _) _ _ _⟩)
        simp [results, Tryz.results13, go_sem, r0, r1, r2, r3, r4, r5]
      · rw [if_neg (by omega)] at htv
        have hn : N = k := by rw [← HN.out, ← htv]; dsimp only; omega
        have hki' : (k == i) = false := beq_eq_false_iff_ne.2 hki
        have hex : s.extract i k = mkS ((s.data.toList.drop i).take (k - i)) := by rw [← mkS_of (s.extract i k), toL_extract]
        have HEX := Lib.hid hex
        have HNK := Lib.hid hn
        have j1 : (i : Int) ≤ (k : Int) := by omega
        have j2 : (k : Int) ≤ (s.size : Int) := by omega
        have HT : Hid (tv.1 = charsT ((s.data.toList.drop i).take (k - i))) := Lib.hid (by rw [← htv]; rfl)
        clear htv hn hex
        by_cases hks : k < s.size
        · have hks' : (k : Int) < s.size := by omega
          have CK := Lib.hid (fun W => CC.out W k (by omega))
          rw [HCL.out hks] at CK
          go_wp2_with (go_at_call 27; (with_reducible refine (CK.out _).mono ?_); rintro v w5 ⟨rfl, hb5⟩; have hR5 := (hb5.block _ (blk_lt HRr.out)).trans HRr.out; have hB5 := below_then HBr.out HBr.out.size hb5; have hM5 := (hb5.block _ (blk_lt HMr.out)).trans HMr.out; have m50 := blk_cell hM5 0; have lm5 := blk_lt hM5; have r0 := blk_cell hR5 0; have r1 := blk_cell hR5 1; have r2 := blk_cell hR5 2; have r3 := blk_cell hR5 3; have r4 := blk_cell hR5 4; have r5 := blk_cell hR5 5; have f0 := blk_frozen hR5 0; have f1 := blk_frozen hR5 1; have f2 := blk_frozen hR5 2; have f3 := blk_frozen hR5 3; have f4 := blk_frozen hR5 4; have f5 := blk_frozen hR5 5; have hl5 := blk_lt hR5; clear hb5)
          refine bodyPost_ret (v := .agg #[.int .i64 3, .string ⟨#[]⟩, .slice none 0 0, .bool false, .string (s.extract i k), .int .i64 (k : Int)]) ?_ rfl (show NextP _ _ _ _ _ from ⟨_, rfl, ?_, ?_⟩)
          · simp [results, Tryz.results13, go_sem, r0, r1, r2, r3, r4, r5]
          · rw [HT.out, HNK.out]; exact GotV.of HEX.out (zero_owns _ _ _ _) rfl
          · exact (((((hB5.setCell (Nat.le_succ _) _).setCell (Nat.le_succ _) _).setCell (Nat.le_succ _) _).setCell (Nat.le_succ _) _).setCell (Nat.le_succ _) _).setCell (Nat.le_succ _) _
        · have hks' : ¬ (k : Int) < s.size := by omega
          have r0 := blk_cell HRr.out 0
          have f0 := blk_frozen HRr.out 0
          have r1 := blk_cell HRr.out 1
          have f1 := blk_frozen HRr.out 1
          have r2 := blk_cell HRr.out 2
          have f2 := blk_frozen HRr.out 2
          have r3 := blk_cell HRr.out 3
          have f3 := blk_frozen HRr.out 3
          have r4 := blk_cell HRr.out 4
          have f4 := blk_frozen HRr.out 4
          have r5 := blk_cell HRr.out 5
          have f5 := blk_frozen HRr.out 5
          have hlr := blk_lt HRr.out
          go_wp2_with fail
          refine bodyPost_ret (v := .agg #[.int .i64 3, .string ⟨#[]⟩, .slice none 0 0, .bool false, .string (s.extract i k), .int .i64 (k : Int)]) ?_ rfl (show NextP _ _ _ _ _ from ⟨_, rfl, ?_, ?_⟩)
          · simp [results, Tryz.results13, go_sem, r0, r1, r2, r3, r4, r5]
          · rw [HT.out, HNK.out]; exact GotV.of HEX.out (zero_owns _ _ _ _) rfl
          · exact (((((HBr.out.setCell (Nat.le_succ _) _).setCell (Nat.le_succ _) _).setCell (Nat.le_succ _) _).setCell (Nat.le_succ _) _).setCell (Nat.le_succ _) _).setCell (Nat.le_succ _) _

end Go.Proofs.YthfkldheflmlmaaGreatDoor
