/- The next token outside of a mode, as the reference has it (rectoref05.Next): its contract. -/
import Derived.Test.YthfkldheflmlmaaGreatDoorRefW
namespace Go.Proofs.YthfkldheflmlmaaGreatDoor
open Go.RowKit Go.Lib

theorem GotV.keep {w w' : World} {O : Nat → Prop} {B : Nat} {t : TokM} {n : Nat} {v : Value} (h : GotV w B t n v) (hc : Ch O w w') (hO : ∀ i, B ≤ i → i < w.heap.size → ¬ O i) : GotV w' B t n v := by
  obtain ⟨va, rfl, h⟩ := h
  exact ⟨va, rfl, own_keep h hc hO⟩
set_option maxRecDepth 100000 in
set_option maxHeartbeats 16000000 in
theorem rnext_data (s last : ByteArray) (mk : Int) (cd : Bool) (hk1 : (mk == 1) = false) (hk2 : (mk == 2) = false) (hs : s.size ≤ 1000000) : ∀ (d : Nat) (w : World) (i : Nat), i < s.size → s.size - i ≤ d →
    Calls Tryz.prog 13 #[.string s, .int .i64 i, .agg #[.int .i64 mk, .string last, .bool cd]] w (NextP w (dataL cd (s.data.toList.drop i)).1 (i + (dataL cd (s.data.toList.drop i)).2)) := by
  intro d
  induction d with
  | zero => intro w i hi hd; omega
  | succ d ih =>
  intro w i hi hd
  have hpos : 0 < (s.data.toList.drop i).length := by rw [List.length_drop, len_toL]; omega
  obtain ⟨tv, htv⟩ : ∃ tv, dataL cd (s.data.toList.drop i) = tv := ⟨_, rfl⟩
  rw [htv]
  obtain ⟨N, hN⟩ : ∃ N, i + tv.2 = N := ⟨_, rfl⟩
  rw [hN]
  have hi' : (i : Int) < s.size := by omega
  have hd1 : decide (s.size ≤ i) = false := decide_eq_false (by omega)
  have BC := Lib.hid (fun W k hk => rbegR_calls W s k hk hs)
  have hM := blk_alloc (blk_new w #[.int .i64 mk, .string last, .bool cd] 44) (.cells #[.int .i64 0, .string ⟨#[]⟩, .slice none 0 0, .bool false, .string ⟨#[]⟩, .int .i64 0] 42)
  have hR := blk_new (w.alloc (.cells #[.int .i64 mk, .string last, .bool cd] 44)) #[.int .i64 0, .string ⟨#[]⟩, .slice none 0 0, .bool false, .string ⟨#[]⟩, .int .i64 0] 42
  rw [show (w.alloc (.cells #[.int .i64 mk, .string last, .bool cd] 44)).heap.size = w.heap.size + 1 by simp] at hR
  have hb0 : Below w.heap.size w ((w.alloc (.cells #[.int .i64 mk, .string last, .bool cd] 44)).alloc (.cells #[.int .i64 0, .string ⟨#[]⟩, .slice none 0 0, .bool false, .string ⟨#[]⟩, .int .i64 0] 42)) := ((Below.refl _ _).alloc (Nat.le_refl _) _).alloc (by simp) _
  have HN := Lib.hid hN
  have m0 := blk_cell hM 0
  have m2 := blk_cell hM 2
  have IH := Lib.hid ih
  clear ih hN
  cases hst : stopL (s.data.toList.drop i) with
  | true =>
    have MC := Lib.hid (fun W => rmarkR_calls W s i cd hst hs)
    have hml := markL_le cd (s.data.toList.drop i) hpos
    rw [List.length_drop, len_toL] at hml
    have hmark := dataL_mark cd (s.data.toList.drop i) hpos hst
    have hskip := dataL_skip cd (s.data.toList.drop i) hpos hst
    have hzero := markL_zero cd (s.data.toList.drop i)
    rw [List.drop_drop] at hskip
    obtain ⟨mv, hmv⟩ : ∃ mv, markL cd (s.data.toList.drop i) = mv := ⟨_, rfl⟩
    rw [hmv] at MC hml hmark hskip hzero
    obtain ⟨M, hMM⟩ : ∃ M, i + mv.2 = M := ⟨_, rfl⟩
    rw [hMM] at MC hskip
    rw [htv] at hmark hskip
    have BI := Lib.hid (fun W => BC.out W i (by omega))
    rw [hst] at BI
    have HMK := Lib.hid hmark
    have HSK := Lib.hid hskip
    have HZ := Lib.hid hzero
    have HMM := Lib.hid hMM
    clear hmark hskip hzero hmv hMM hst htv BC hpos
    go_enter Tryz.func13, Tryz.ntmps13
    go_upto_region 1 with fail
    generalize (w.alloc (.cells #[.int .i64 mk, .string last, .bool cd] 44)).alloc (.cells #[.int .i64 0, .string ⟨#[]⟩, .slice none 0 0, .bool false, .string ⟨#[]⟩, .int .i64 0] 42) = w0 at *
    have lm := blk_lt hM
    have lr := blk_lt hR
    go_upto_region 14 with (first | (go_at_call 30; (with_reducible refine (BI.out _).mono ?_); rintro v w4 ⟨rfl, rfl⟩) | (go_at_call 31; (with_reducible refine (MC.out _).mono ?_); rintro _ w5 ⟨v, rfl, hgv, hb5⟩; obtain ⟨A, c, rfl, hown⟩ := hgv.slice; have hba : Below w5.heap.size w5 (w5.alloc (.cells #[.int .i64 mv.1.k, .string (mkS mv.1.name), .slice A mv.1.attrs.length c, .bool mv.1.self, .string (mkS mv.1.text), .int .i64 (M : Int)] 42)) := (Below.refl _ _).alloc (Nat.le_refl _) _; have hM6 := blk_alloc ((hb5.block _ (blk_lt hM)).trans hM) (.cells #[.int .i64 mv.1.k, .string (mkS mv.1.name), .slice A mv.1.attrs.length c, .bool mv.1.self, .string (mkS mv.1.text), .int .i64 (M : Int)] 42); have hR6 := blk_alloc ((hb5.block _ (blk_lt hR)).trans hR) (.cells #[.int .i64 mv.1.k, .string (mkS mv.1.name), .slice A mv.1.attrs.length c, .bool mv.1.self, .string (mkS mv.1.text), .int .i64 (M : Int)] 42); have hX6 := blk_new w5 #[.int .i64 mv.1.k, .string (mkS mv.1.name), .slice A mv.1.attrs.length c, .bool mv.1.self, .string (mkS mv.1.text), .int .i64 (M : Int)] 42; have hB6 := below_then (below_then hb0 hb0.size hb5) (below_then hb0 hb0.size hb5).size hba; have hown6 := own_keep hown (Ch.of_below (O := fun _ => False) hba) (fun _ _ _ e => e); have hsz5 := hb5.size; clear hgv hown hba hb5))
    generalize w5.alloc (.cells #[.int .i64 mv.1.k, .string (mkS mv.1.name), .slice A mv.1.attrs.length c, .bool mv.1.self, .string (mkS mv.1.text), .int .i64 (M : Int)] 42) = w6 at *
    have hX5 : w.heap.size + 1 < w5.heap.size := by omega
    generalize w5.heap.size = X at *
    have lr0 : w.heap.size + 1 < w0.heap.size := lr
    generalize w0.heap.size = Z at *
    have r0 := blk_cell hR6 0
    have r1 := blk_cell hR6 1
    have r2 := blk_cell hR6 2
    have r3 := blk_cell hR6 3
    have r4 := blk_cell hR6 4
    have r5 := blk_cell hR6 5
    have f0 := blk_frozen hR6 0
    have f1 := blk_frozen hR6 1
    have f2 := blk_frozen hR6 2
    have f3 := blk_frozen hR6 3
    have f4 := blk_frozen hR6 4
    have f5 := blk_frozen hR6 5
    have x0 := blk_cell hX6 0
    have x1 := blk_cell hX6 1
    have x2 := blk_cell hX6 2
    have x3 := blk_cell hX6 3
    have x4 := blk_cell hX6 4
    have x5 := blk_cell hX6 5
    have lx := blk_lt hX6
    have lr6 := blk_lt hR6
    have q0 := blk_cell hM6 0
    have q1 := blk_cell hM6 1
    have q2 := blk_cell hM6 2
    have lm6 := blk_lt hM6
    have HR6 := Lib.hid hR6
    have HB6 := Lib.hid hB6
    have HOWN := Lib.hid hown6
    clear hM hR hb0 hM6 hR6 hX6 hB6 hown6 m0 m2 MC BI lm lr
    have hret : tv.1 = mv.1 → N = M → ∀ W, W = set6 w6 (w.heap.size + 1) mv.1 (.slice A mv.1.attrs.length c) M → NextP w tv.1 N (.returned (.agg #[.int .i64 mv.1.k, .string (mkS mv.1.name), .slice A mv.1.attrs.length c, .bool mv.1.self, .string (mkS mv.1.text), .int .i64 (M : Int)])) W := fun e1 e2 W hW => by
      rw [e1, e2, hW]
      exact ⟨_, rfl, got_lower (set6_got HOWN.out lr0) (Nat.le_succ _), set6_below HB6.out (Nat.le_succ _) _ _ _⟩
    have HRET := Lib.hid hret
    clear hret
    by_cases hk0 : mv.1.k = 0
    · have hkb : (mv.1.k != 0) = false := by rw [hk0]; rfl
      by_cases hge : s.size ≤ M
      · have hge' : (s.size : Int) ≤ (M : Int) := by omega
        have hsz : M = s.size := by have := HMM.out; omega
        have hdl : dataL cd (s.data.toList.drop M) = (zeroTok, 0) := by rw [List.drop_eq_nil_of_le (by rw [len_toL]; omega)]; rfl
        have e1 : tv = (zeroTok, mv.2) := by rw [HSK.out hk0, hdl]; rfl
        have E1 : Hid (tv.1 = mv.1) := Lib.hid (by rw [e1, HZ.out hk0])
        have E2 : Hid (N = M) := Lib.hid (by rw [← HN.out, e1]; exact HMM.out)
        clear e1 hdl hsz hk0 hge
        go_wp2
        refine bodyPost_ret (v := .agg #[.int .i64 mv.1.k, .string (mkS mv.1.name), .slice A mv.1.attrs.length c, .bool mv.1.self, .string (mkS mv.1.text), .int .i64 (M : Int)]) ?_ rfl (HRET.out E1.out E2.out _ rfl)
        simp [results, Tryz.results13, go_sem, r0, r1, r2, r3, r4, r5]
      · have hlt : (M : Int) < s.size := by omega
        have hge' : ¬ (s.size : Int) ≤ (M : Int) := by omega
        have e1 := HSK.out hk0
        have hmm := HMM.out
        have IM := Lib.hid (fun W => IH.out W M (by omega) (by omega))
        obtain ⟨nv, hnv⟩ : ∃ nv, dataL cd (s.data.toList.drop M) = nv := ⟨_, rfl⟩
        rw [hnv] at e1 IM
        have hn : M + nv.2 = N := by rw [← HN.out, e1]; dsimp only; omega
        rw [hn] at IM
        rw [show nv.1 = tv.1 by rw [e1]] at IM
        clear e1 hnv hn hmm hk0 hge HRET HOWN
        go_wp2_with (go_at_call 13; (with_reducible refine (IM.out _).mono ?_); rintro _ w7 ⟨v, rfl, hgv, hb7⟩; obtain ⟨A', c', rfl, hown7⟩ := hgv.slice; have hR7 := (hb7.block _ (blk_lt HR6.out)).trans HR6.out; have r0 := blk_cell hR7 0; have r1 := blk_cell hR7 1; have r2 := blk_cell hR7 2; have r3 := blk_cell hR7 3; have r4 := blk_cell hR7 4; have r5 := blk_cell hR7 5; have f0 := blk_frozen hR7 0; have f1 := blk_frozen hR7 1; have f2 := blk_frozen hR7 2; have f3 := blk_frozen hR7 3; have f4 := blk_frozen hR7 4; have f5 := blk_frozen hR7 5; have hB7 := below_then HB6.out HB6.out.size hb7; have lr7 := blk_lt hR7; have HB7 := Lib.hid hB7; have HOWN7 := Lib.hid hown7; clear hB7 hown7 hb7 hgv)
        refine bodyPost_ret (v := .agg #[.int .i64 tv.1.k, .string (mkS tv.1.name), .slice A' tv.1.attrs.length c', .bool tv.1.self, .string (mkS tv.1.text), .int .i64 (N : Int)]) ?_ rfl (show NextP _ _ _ _ _ from ⟨_, rfl, got_lower (set6_got HOWN7.out lr6) (Nat.le_succ _), set6_below HB7.out (Nat.le_succ _) _ _ _⟩)
        simp [results, Tryz.results13, go_sem, r0, r1, r2, r3, r4, r5]
    · have hkb : (mv.1.k != 0) = true := by simpa using hk0
      have e1 := HMK.out hk0
      have E1 : Hid (tv.1 = mv.1) := Lib.hid (by rw [e1])
      have E2 : Hid (N = M) := Lib.hid (by rw [← HN.out, e1]; exact HMM.out)
      clear e1 hk0
      go_wp2
      refine bodyPost_ret (v := .agg #[.int .i64 mv.1.k, .string (mkS mv.1.name), .slice A mv.1.attrs.length c, .bool mv.1.self, .string (mkS mv.1.text), .int .i64 (M : Int)]) ?_ rfl (HRET.out E1.out E2.out _ rfl)
      simp [results, Tryz.results13, go_sem, r0, r1, r2, r3, r4, r5]
  | false =>
    have hpl := dataL_plain cd (s.data.toList.drop i) hpos hst
    rw [htv] at hpl
    obtain ⟨E, hE⟩ : ∃ E, i + plN (s.data.toList.drop i) = E := ⟨_, rfl⟩
    have BI := Lib.hid (fun W => BC.out W i (by omega))
    rw [hst] at BI
    have HE := Lib.hid hE
    have HPL := Lib.hid hpl
    have HST := Lib.hid hst
    clear hpl hE hst htv hpos IH
    go_enter Tryz.func13, Tryz.ntmps13
    go_upto_region 1 with fail
    generalize (w.alloc (.cells #[.int .i64 mk, .string last, .bool cd] 44)).alloc (.cells #[.int .i64 0, .string ⟨#[]⟩, .slice none 0 0, .bool false, .string ⟨#[]⟩, .int .i64 0] 42) = w0 at *
    have lm := blk_lt hM
    have lr := blk_lt hR
    have HR := Lib.hid hR
    have HB := Lib.hid hb0
    clear hR hb0 m2
    go_wp2_with (go_at_call 30; (with_reducible refine (BI.out _).mono ?_); rintro v w4 ⟨rfl, rfl⟩)
    go_loopw [7] (fun a wr => ∃ k : Nat, i ≤ k ∧ k ≤ s.size ∧ a = .int .i64 k ∧ w0 = wr ∧ Hid (E = k + plN (s.data.toList.drop k))) (fun a _ => s.size - (RowKit.intOf a).toNat)
    case atStart => exact ⟨i, Nat.le_refl _, by omega, rfl, rfl, Lib.hid HE.out.symm⟩
    case round =>
      obtain ⟨k, hik, hk, rfl, rfl, HI⟩ := hrel
      clear m0 hM lm
      by_cases hgo : k < s.size ∧ stopL (s.data.toList.drop k) = false
      · obtain ⟨hlt, hends⟩ := hgo
        have hlt' : (k : Int) < s.size := by omega
        have HQ : Hid (E = (k + 1) + plN (s.data.toList.drop (k + 1))) := Lib.hid (by rw [HI.out, plN_step s k hlt, hends]; simp; omega)
        have CK := Lib.hid (fun W => BC.out W k (by omega))
        rw [hends] at CK
        clear hends hlt
        go_wp2_with (go_at_call 30; (with_reducible refine (CK.out _).mono ?_); rintro v w5 ⟨rfl, rfl⟩)
        go_roundw
        case rel => exact ⟨k + 1, by omega, by omega, by go_num, by trivial, HQ⟩
        case measure => simp [RowKit.intOf]; omega
      · have hcl : k < s.size → stopL (s.data.toList.drop k) = true := fun h => by cases hh : stopL (s.data.toList.drop k) with | true => rfl | false => exact absurd ⟨h, hh⟩ hgo
        have hkE : k = E := by
          rw [HI.out]
          by_cases h : k < s.size
          · rw [plN_step s k h, if_pos (hcl h)]; rfl
          · rw [plN_end s k (by omega)]; rfl
        have htv := HPL.out
        rw [show plN (s.data.toList.drop i) = k - i by have := HE.out; omega] at htv
        have hn : N = k := by rw [← HN.out, htv]; dsimp only; omega
        have HT : Hid (tv.1 = charsT (allL ((s.data.toList.drop i).take (k - i)) false)) := Lib.hid (by rw [htv])
        have AC : Hid (∀ W, Calls Tryz.prog 29 #[.string (s.extract i k), .bool false] W fun x w' => x = .returned (.string (mkS (allL ((s.data.toList.drop i).take (k - i)) false))) ∧ Below W.heap.size W w') := Lib.hid (fun W => by
          have hzz : (s.extract i k).size ≤ 1000000 := by rw [← len_toL, toL_extract, List.length_take, List.length_drop, len_toL]; omega
          have := rallR_calls W (s.extract i k) false hzz
          rwa [toL_extract] at this)
        generalize allL ((s.data.toList.drop i).take (k - i)) false = al at *
        have HNK := Lib.hid hn
        have j1 : (i : Int) ≤ (k : Int) := by omega
        have j2 : (k : Int) ≤ (s.size : Int) := by omega
        have HCL := Lib.hid hcl
        clear htv hn hgo hkE hcl HI
        by_cases hks : k < s.size
        · have hks' : (k : Int) < s.size := by omega
          have CK := Lib.hid (fun W => BC.out W k (by omega))
          rw [HCL.out hks] at CK
          go_wp2_with (first | (go_at_call 30; (with_reducible refine (CK.out _).mono ?_); rintro v w5 ⟨rfl, rfl⟩) | (go_at_call 29; (with_reducible refine (AC.out _).mono ?_); rintro v w6 ⟨rfl, hb6⟩; have hR6 := (hb6.block _ (blk_lt HR.out)).trans HR.out; have hB6 := below_then HB.out HB.out.size hb6; have r0 := blk_cell hR6 0; have r1 := blk_cell hR6 1; have r2 := blk_cell hR6 2; have r3 := blk_cell hR6 3; have r4 := blk_cell hR6 4; have r5 := blk_cell hR6 5; have f0 := blk_frozen hR6 0; have f1 := blk_frozen hR6 1; have f2 := blk_frozen hR6 2; have f3 := blk_frozen hR6 3; have f4 := blk_frozen hR6 4; have f5 := blk_frozen hR6 5; have hl6 := blk_lt hR6; clear hb6))
          refine bodyPost_ret (v := .agg #[.int .i64 3, .string ⟨#[]⟩, .slice none 0 0, .bool false, .string (mkS al), .int .i64 (k : Int)]) ?_ rfl (show NextP _ _ _ _ _ from ⟨_, rfl, ?_, ?_⟩)
          · simp [results, Tryz.results13, go_sem, r0, r1, r2, r3, r4, r5]
          · rw [HT.out, HNK.out]; exact GotV.of rfl (zero_owns _ _ _ _) rfl
          · exact (((((hB6.setCell (Nat.le_succ _) _).setCell (Nat.le_succ _) _).setCell (Nat.le_succ _) _).setCell (Nat.le_succ _) _).setCell (Nat.le_succ _) _).setCell (Nat.le_succ _) _
        · have hks' : ¬ (k : Int) < s.size := by omega
          go_wp2_with (go_at_call 29; (with_reducible refine (AC.out _).mono ?_); rintro v w6 ⟨rfl, hb6⟩; have hR6 := (hb6.block _ (blk_lt HR.out)).trans HR.out; have hB6 := below_then HB.out HB.out.size hb6; have r0 := blk_cell hR6 0; have r1 := blk_cell hR6 1; have r2 := blk_cell hR6 2; have r3 := blk_cell hR6 3; have r4 := blk_cell hR6 4; have r5 := blk_cell hR6 5; have f0 := blk_frozen hR6 0; have f1 := blk_frozen hR6 1; have f2 := blk_frozen hR6 2; have f3 := blk_frozen hR6 3; have f4 := blk_frozen hR6 4; have f5 := blk_frozen hR6 5; have hl6 := blk_lt hR6; clear hb6)
          refine bodyPost_ret (v := .agg #[.int .i64 3, .string ⟨#[]⟩, .slice none 0 0, .bool false, .string (mkS al), .int .i64 (k : Int)]) ?_ rfl (show NextP _ _ _ _ _ from ⟨_, rfl, ?_, ?_⟩)
          · simp [results, Tryz.results13, go_sem, r0, r1, r2, r3, r4, r5]
          · rw [HT.out, HNK.out]; exact GotV.of rfl (zero_owns _ _ _ _) rfl
          · exact (((((hB6.setCell (Nat.le_succ _) _).setCell (Nat.le_succ _) _).setCell (Nat.le_succ _) _).setCell (Nat.le_succ _) _).setCell (Nat.le_succ _) _).setCell (Nat.le_succ _) _

end Go.Proofs.YthfkldheflmlmaaGreatDoor
