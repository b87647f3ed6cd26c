/- Walk of the lexer: data. -/
import Derived.Test.YthfkldheflmlmaaGreatDoorData
namespace Go.Proofs.YthfkldheflmlmaaGreatDoor
open Go.RowKit

theorem stopL_uB (s : ByteArray) (j : Nat) (h : j < s.size) : stopL (s.data.toList.drop j) = ((bI s j == 60) && begL (s.data.toList.drop j)) := by rw [stopL, headIs_uB s j 60 h]; rfl
theorem drewN_add (w : World) (a b : Nat) : (w.drewN a).drewN b = w.drewN (a + b) := by simp [World.drewN, Nat.add_assoc]
theorem plN_step (s : ByteArray) (j : Nat) (h : j < s.size) : plN (s.data.toList.drop j) = if stopL (s.data.toList.drop j) then 0 else 1 + plN (s.data.toList.drop (j + 1)) := by
  rw [drop_uB s j h, plN]
theorem plN_end (s : ByteArray) (j : Nat) (h : s.size ≤ j) : plN (s.data.toList.drop j) = 0 := by
  rw [List.drop_eq_nil_of_le (by rw [len_toL]; exact h)]; rfl

set_option maxRecDepth 100000 in
set_option maxHeartbeats 4000000 in
theorem data_calls (w : World) (g : Nat) (s last : ByteArray) (mk : Int) (cd : Bool) (i : Nat) (h : LexAt w g s i) (hi : i ≤ s.size) (hg : nG ≤ g) (ht : Tab w) (hs : s.size ≤ 10000000) :
    Calls Tryz.prog 22 #[.pointer (some ⟨g, 0, none⟩), .agg #[.int .i64 mk, .string last, .bool cd]] w fun e w' =>
      ∃ v, e = .returned v ∧ TokV w' w.heap.size (dataL cd (s.data.toList.drop i)).1 v ∧ LexAt w' g s (i + (dataL cd (s.data.toList.drop i)).2) ∧ Ch (· = g) w w' := by
  have hlt := h.lt
  have hneR : w.heap.size + 1 ≠ g := by omega
  have hneM : w.heap.size ≠ g := by omega
  have hRle : w.heap.size ≤ w.heap.size + 1 := Nat.le_succ _
  have hb0 : Below w.heap.size w ((w.alloc (.cells #[.int .i64 mk, .string last, .bool cd] 40)).alloc (.cells #[.int .i64 0, .string ⟨#[]⟩, .slice none 0 0, .bool false, .string ⟨#[]⟩] 30)) := ((Below.refl _ _).alloc (Nat.le_refl _) _).alloc (by simp) _
  have hL0 := h.below hb0
  have hR0 := blk_new (w.alloc (.cells #[.int .i64 mk, .string last, .bool cd] 40)) #[.int .i64 0, .string ⟨#[]⟩, .slice none 0 0, .bool false, .string ⟨#[]⟩] 30
  have hM0 := blk_alloc (blk_new w #[.int .i64 mk, .string last, .bool cd] 40) (.cells #[.int .i64 0, .string ⟨#[]⟩, .slice none 0 0, .bool false, .string ⟨#[]⟩] 30)
  have hC0 : Ch (· = g) w _ := Ch.of_below hb0
  have hs0 : (w.alloc (.cells #[.int .i64 mk, .string last, .bool cd] 40)).heap.size = w.heap.size + 1 := by simp
  rw [hs0] at hR0
  obtain ⟨L, hL⟩ : ∃ L, L = s.data.toList.drop i := ⟨_, rfl⟩
  have hlen : L.length = s.size - i := by rw [hL, List.length_drop, len_toL]
  rw [← hL]
  obtain ⟨G, hG⟩ : ∃ G, G = dataL cd L := ⟨_, rfl⟩
  rw [← hG]
  have hG2 : G = dataGo cd (L.length + 1) (L.drop 0) 0 := hG
  have HG0 := Lib.hid hG2
  have HL := Lib.hid hL0
  have HR := Lib.hid hR0
  have HM := Lib.hid hM0
  have HC := Lib.hid hC0
  have HLEN := Lib.hid hlen
  have HLL := Lib.hid hL
  have HT := Lib.hid ht
  have hbt := bI_at s
  clear hL hlen hG hG2 hL0 hR0 hM0 hC0 h ht hb0
  go_enter Tryz.func22, Tryz.ntmps22
  go_wp2_with fail
  generalize (w.alloc (.cells #[.int .i64 mk, .string last, .bool cd] 40)).alloc (.cells #[.int .i64 0, .string ⟨#[]⟩, .slice none 0 0, .bool false, .string ⟨#[]⟩] 30) = w0 at *
  go_loopg [] (s.size - i) (fun gk wr => ∃ (k f : Nat), k ≤ L.length ∧ gk = s.size - (i + k) ∧ L.length - k < f ∧ LexAt wr g s (i + k) ∧ Ch (· = g) w wr ∧
    wr.heap[w.heap.size]? = some (.cells #[.int .i64 mk, .string last, .bool cd] 40 (0, 0)) ∧ wr.heap[w.heap.size + 1]? = some (.cells #[.int .i64 0, .string ⟨#[]⟩, .slice none 0 0, .bool false, .string ⟨#[]⟩] 30 (0, 0)) ∧ Hid (G = dataGo cd f (L.drop k) k))
  case atStart => exact ⟨0, L.length + 1, Nat.zero_le _, rfl, by omega, HL.out, HC.out, HM.out, HR.out, HG0⟩
  case round =>
    obtain ⟨k, f, hk, rfl, hf, hL, hC, hM, hR, HI⟩ := hrel
    obtain ⟨f, rfl⟩ : ∃ f', f = f' + 1 := ⟨f - 1, by omega⟩
    have hLEN := HLEN.out
    have hrest : s.data.toList.drop (i + k) = L.drop k := by rw [HLL.out, List.drop_drop]
    have hgo := HI.out
    rw [dataGo] at hgo
    have hwr := blk_lt hR
    have DC := Lib.hid (fun n => done_calls (wr.drewN n) g s (i + k) (hL.drewN n))
    have c0 := hL.c0
    have c1 := hL.c1
    have f1 := hL.f1
    have m0 := blk_cell hM 0
    have m1 := blk_cell hM 1
    have m2 := blk_cell hM 2
    have HL := Lib.hid hL
    have HC := Lib.hid hC
    have HM := Lib.hid hM
    have HR := Lib.hid hR
    clear hL hC hM HI
    by_cases hend : L.length ≤ k
    · have hd : decide (s.size ≤ i + k) = true := by simp; omega
      rw [hd] at DC
      rw [if_pos (by simp; omega)] at hgo
      have HRES := Lib.hid hgo
      have r0 := blk_cell hR 0
      have r1 := blk_cell hR 1
      have r2 := blk_cell hR 2
      have r3 := blk_cell hR 3
      have r4 := blk_cell hR 4
      have rf0 := blk_frozen hR 0
      have rf1 := blk_frozen hR 1
      have rf2 := blk_frozen hR 2
      have rf3 := blk_frozen hR 3
      have rf4 := blk_frozen hR 4
      clear hgo hd
      go_wp2_with fail
      refine (DC.out 0).mono ?_
      rintro e w2 ⟨rfl, n2, rfl⟩
      go_wp2
      refine bodyPost_ret (v := .agg #[.int .i64 0, .string ⟨#[]⟩, .slice none 0 0, .bool false, .string ⟨#[]⟩]) ?_ rfl ⟨_, rfl, ?_, ?_, ?_⟩
      · simp [results, Tryz.results22, go_sem, r0, r1, r2, r3, r4]
      · rw [HRES.out]
        exact TokV.zero _ _
      · rw [HRES.out]
        exact LexAt.cast (j := i + k) (show LexAt _ g s (i + k) from (blk_far (blk_far (blk_far (blk_far (blk_far (HL.out.drewN _) (Ne.symm hneR) _) (Ne.symm hneR) _) (Ne.symm hneR) _) (Ne.symm hneR) _) (Ne.symm hneR) _)) rfl
      · exact (Ch.setCell (Ch.setCell (Ch.setCell (Ch.setCell (Ch.setCell (HC.out.drewN _) (.inr hRle) _) (.inr hRle) _) (.inr hRle) _) (.inr hRle) _) (.inr hRle) _)
    · have hp : i + k < s.size := by omega
      have hd : decide (s.size ≤ i + k) = false := by simp; omega
      rw [hd] at DC
      rw [if_neg (by simp; omega)] at hgo
      have hst2 := stopL_uB s (i + k) hp
      have BC := Lib.hid (fun w => begins_calls w s (i + k) hp (by omega))
      rw [hrest] at hst2 BC
      have HREST := Lib.hid hrest
      have HGO := Lib.hid hgo
      have HST := Lib.hid hst2
      clear hgo hst2 hrest hd
      go_wp2_with fail
      refine (DC.out 0).mono ?_
      rintro e w2 ⟨rfl, n2, hw2⟩
      have hww : ∃ n, w2 = wr.drewN n := ⟨_, by rw [hw2]; exact drewN_add _ _ _⟩
      have q0 : w2.cell? ⟨g, 0, none⟩ = some (.string s) := by rw [hw2]; exact HL.out.c0
      have q1 : w2.cell? ⟨g, 1, none⟩ = some (.int .i64 ((i + k : Nat) : Int)) := by rw [hw2]; exact HL.out.c1
      clear hw2
      go_wp2_with fail
      go_cut [31] from 10 to 31 (fun c wx => c = .bool (!stopL (L.drop k)) ∧ ∃ n, wx = wr.drewN n)
      case first =>
        cases e60 : (bI s (i + k) == 60) with
        | false =>
          have n60 : (bI s (i + k) != 60) = true := by simp [bne, e60]
          go_quiet (first | (go_at_call 46; exact quiet_same (BC.out _)))
          go_wp2
          go_meet
          case rel => exact ⟨by rw [HST.out, e60]; rfl, (by obtain ⟨m, hm⟩ := hww; exact ⟨_, by rw [hm]; exact drewN_add _ _ _⟩)⟩
        | true =>
          have n60 : (bI s (i + k) != 60) = false := by simp [bne, e60]
          cases eb : begL (L.drop k) with
          | false =>
            rw [eb] at BC
            go_quiet (first  | (go_at_call 46; exact quiet_same (BC.out _)))
            go_wp2
            go_meet
            case rel => exact ⟨by rw [HST.out, e60, eb]; rfl, (by obtain ⟨m, hm⟩ := hww; exact ⟨_, by rw [hm]; exact drewN_add _ _ _⟩)⟩
          | true =>
            rw [eb] at BC
            go_quiet (first | (go_at_call 46; exact quiet_same (BC.out _)))
            go_wp2
            go_meet
            case rel => exact ⟨by rw [HST.out, e60, eb]; rfl, (by obtain ⟨m, hm⟩ := hww; exact ⟨_, by rw [hm]; exact drewN_add _ _ _⟩)⟩
      case rest =>
        obtain ⟨rfl, n3, rfl⟩ := hcut
        clear hww q0 q1
        cases hst : stopL (L.drop k) with
        | false =>
          have hgo := HGO.out
          rw [if_pos hst] at hgo
          have HRES := Lib.hid hgo
          have hpl0 : plN (L.drop k) = k + 1 - k + plN (L.drop (k + 1)) := by
            have hps := plN_step s (i + k) hp
            rw [HREST.out, hst, Nat.add_assoc, show s.data.toList.drop (i + (k + 1)) = L.drop (k + 1) by rw [HLL.out, List.drop_drop], if_neg (by simp)] at hps
            omega
          clear hgo hst DC BC
          go_upto_block 2 with (fail)
          go_cut [] from 43 to 76 (fun wx => ∃ q : Nat, k + 1 ≤ q ∧ q ≤ L.length ∧ LexAt wx g s (i + q) ∧ Ch (· = g) wr wx ∧ Hid (plN (L.drop k) = q - k))
          case first =>
            go_wp2_with fail
            go_loopg [] (s.size - (i + (k + 1))) (fun gk wq => ∃ q : Nat, k + 1 ≤ q ∧ q ≤ L.length ∧ gk = s.size - (i + q) ∧ LexAt wq g s (i + q) ∧ Ch (· = g) wr wq ∧ Hid (plN (L.drop k) = (q - k) + plN (L.drop q)))
            case atStart => exact ⟨k + 1, Nat.le_refl _, by omega, rfl, LexAt.set_ (HL.out.drewN _) (by go_num), Ch.setCell ((Ch.refl _ _).drewN _) (.inl (show g = g from rfl)) _, Lib.hid hpl0⟩
            case round =>
              obtain ⟨q, hkq, hq, rfl, hLq, hCq, HI2⟩ := hrel
              clear c0 c1 f1 m0 m1 m2
              have hrestq : s.data.toList.drop (i + q) = L.drop q := by rw [HLL.out, List.drop_drop]
              have DC := Lib.hid (fun n => done_calls (wr.drewN n) g s (i + q) (hLq.drewN n))
              have c0 := hLq.c0
              have c1 := hLq.c1
              have f1 := hLq.f1
              have HLq := Lib.hid hLq
              have HCq := Lib.hid hCq
              clear hLq hCq
              by_cases hendq : L.length ≤ q
              · have hd : decide (s.size ≤ i + q) = true := by simp; omega
                rw [hd] at DC
                have hq0 : plN (L.drop q) = 0 := by rw [← hrestq]; exact plN_end s _ (by omega)
                clear hd
                go_wp2_with fail
                go_quiet (first | (go_at_call 23; exact Calls.quiet_of (DC.out _)))
                go_wp2_with fail
                go_meet
                case rel => exact ⟨q, hkq, hq, LexAt.drewN HLq.out _, Ch.drewN HCq.out _, Lib.hid (by rw [HI2.out, hq0]; rfl)⟩
              · have hd : decide (s.size ≤ i + q) = false := by simp; omega
                rw [hd] at DC
                clear hd
                have hpq : i + q < s.size := by omega
                have hsq := stopL_uB s (i + q) hpq
                have hps := plN_step s (i + q) hpq
                have BC := Lib.hid (fun w => begins_calls w s (i + q) hpq (by omega))
                rw [hrestq] at hsq hps BC
                rw [Nat.add_assoc, show s.data.toList.drop (i + (q + 1)) = L.drop (q + 1) by rw [HLL.out, List.drop_drop]] at hps
                cases f60 : (bI s (i + q) == 60) with
                | false =>
                  have m60 : (bI s (i + q) != 60) = true := by simp [bne, f60]
                  rw [f60, Bool.false_and] at hsq
                  rw [hsq, if_neg (by simp)] at hps
                  have HPS := Lib.hid hps
                  clear hps hsq
                  go_wp2_with fail
                  go_quiet (first | (go_at_call 23; exact Calls.quiet_of (DC.out _)))
                  go_wp2_with fail
                  go_roundg (s.size - (i + (q + 1)))
                  case measure => omega
                  case rel => exact ⟨q + 1, by omega, by omega, rfl, LexAt.set_ (HLq.out.drewN _) (by go_num), Ch.setCell (HCq.out.drewN _) (.inl (show g = g from rfl)) _, Lib.hid (by rw [HI2.out, HPS.out]; omega)⟩
                | true =>
                  have m60 : (bI s (i + q) != 60) = false := by simp [bne, f60]
                  rw [f60, Bool.true_and] at hsq
                  cases eb : begL (L.drop q) with
                  | false =>
                    rw [eb] at hsq BC
                    rw [hsq, if_neg (by simp)] at hps
                    have HPS := Lib.hid hps
                    clear hps hsq
                    go_wp2_with fail
                    go_quiet (first | (go_at_call 23; exact Calls.quiet_of (DC.out _)) | (go_at_call 46; exact quiet_same (BC.out _)))
                    go_wp2_with fail
                    go_roundg (s.size - (i + (q + 1)))
                    case measure => omega
                    case rel => exact ⟨q + 1, by omega, by omega, rfl, LexAt.set_ (HLq.out.drewN _) (by go_num), Ch.setCell (HCq.out.drewN _) (.inl (show g = g from rfl)) _, Lib.hid (by rw [HI2.out, HPS.out]; omega)⟩
                  | true =>
                    rw [eb] at hsq BC
                    have hq0 : plN (L.drop q) = 0 := by rw [hps, hsq]; rfl
                    clear hps hsq
                    go_wp2_with fail
                    go_quiet (first | (go_at_call 23; exact Calls.quiet_of (DC.out _)) | (go_at_call 46; exact quiet_same (BC.out _)))
                    go_wp2_with fail
                    go_meet
                    case rel => exact ⟨q, hkq, hq, LexAt.drewN HLq.out _, Ch.drewN HCq.out _, Lib.hid (by rw [HI2.out, hq0]; rfl)⟩
          case rest =>
            obtain ⟨q, hkq, hq, hLq, hCq, HI2⟩ := hcut
            rename_i w7
            have hqk := HI2.out
            have hqe : k + (q - k) = q := by omega
            have HRES2 := Lib.hid (show G = (charsT (allL ((L.drop k).take (q - k)) false), q) by rw [HRES.out, hqk, hqe])
            have HL7 := Lib.hid hLq
            have HR7 := Lib.hid (hCq.blk HR.out hneR)
            have HC7 := Lib.hid (HC.out.same hCq)
            have HT7 := Lib.hid (HT.out.keep HC7.out (fun j hj e => by omega))
            have hkq2 : (i : Int) + k ≤ (i : Int) + q := by omega
            have hqs2 : (i : Int) + q ≤ (s.size : Int) := by omega
            have hik0 : (0 : Int) ≤ (i : Int) + k := by omega
            have hik1 : ((i : Int) + k).toNat = i + k := by omega
            have hik2 : ((i : Int) + q).toNat = i + q := by omega
            have hex := cut_to s (i + k) (q - k)
            rw [show i + k + (q - k) = i + q by omega, HREST.out] at hex
            have AC := Lib.hid (fun w h => all_calls w (s.extract (i + k) (i + q)) false h (by rw [hex, size_mkS, List.length_take, List.length_drop]; omega))
            rw [hex, of_mkS] at AC
            rw [← hex] at AC
            clear hqk hqe hCq hLq hex c0 c1 f1 m0 m1 m2 hR
            have c0 := HL7.out.c0
            have c1 := HL7.out.c1
            go_wp2_with fail
            go_region_law (first | (go_simp; go_at_call 26; refine (AC.out _ (HT7.out.keep ((Ch.refl (fun _ => False) _).drew) (fun _ _ e => e)).1).mono ?_; rintro e w9 ⟨rfl, hb9⟩; have hR9 := (hb9.block _ (blk_lt HR7.out)).trans HR7.out; have hL9 := (hb9.block _ HL7.out.lt).trans HL7.out; have r0 := blk_cell hR9 0; have r1 := blk_cell hR9 1; have r2 := blk_cell hR9 2; have r3 := blk_cell hR9 3; have r4 := blk_cell hR9 4; have rf0 := blk_frozen hR9 0; have rf1 := blk_frozen hR9 1; have rf2 := blk_frozen hR9 2; have rf3 := blk_frozen hR9 3; have rf4 := blk_frozen hR9 4))
            all_goals go_wp2
            all_goals (
              refine bodyPost_ret (v := .agg #[.int .i64 3, .string ⟨#[]⟩, .slice none 0 0, .bool false, .string (mkS (allL ((L.drop k).take (q - k)) false))]) ?_ rfl ⟨_, rfl, ?_, ?_, ?_⟩
              · simp [results, Tryz.results22, go_sem, r0, r1, r2, r3, r4]
              · rw [HRES2.out]
                exact TokV.chars _ _ _
              · rw [HRES2.out]
                exact (show LexAt _ g s (i + q) from (blk_far (blk_far (blk_far (blk_far (blk_far hL9 (Ne.symm hneR) _) (Ne.symm hneR) _) (Ne.symm hneR) _) (Ne.symm hneR) _) (Ne.symm hneR) _))
              · exact (Ch.setCell (Ch.setCell (Ch.setCell (Ch.setCell (Ch.setCell (HC7.out.drew.then_below hb9) (.inr hRle) _) (.inr hRle) _) (.inr hRle) _) (.inr hRle) _) (.inr hRle) _))
        | true =>
          have hgo := HGO.out
          rw [if_neg (by rw [hst]; simp)] at hgo
          have HGO := Lib.hid hgo
          clear hgo hst DC BC
          have MC := Lib.hid (fun w h h' => markup_calls w g s last mk cd (i + k) h hp hg h' hs)
          rw [HREST.out] at MC
          have hml := markL_le cd (L.drop k) (by rw [List.length_drop]; omega)
          rw [List.length_drop] at hml
          have hgo := HGO.out
          obtain ⟨x, hx⟩ : ∃ x, x = markL cd (L.drop k) := ⟨_, rfl⟩
          rw [← hx, List.drop_drop] at hgo
          rw [← hx] at MC hml
          have HGO := Lib.hid hgo
          clear hgo hx
          go_wp2_with fail
          refine (MC.out _ (HL.out.drewN _) (HT.out.keep (HC.out.drewN _) (fun j hj e => by omega))).mono ?_
          rintro e w5 ⟨v, rfl, hv, hL5, hc5⟩
          obtain ⟨A, c, rfl, hown⟩ := hv.slice
          have hR5 := hc5.blk (blk_drewN HR.out _) hneR
          have hM5 := hc5.blk (blk_drewN HM.out _) hneM
          have HV := Lib.hid hv
          have HL5 := Lib.hid hL5
          have HC5 := Lib.hid ((HC.out.drewN _).same hc5)
          have HR5 := Lib.hid hR5
          have HM5 := Lib.hid hM5
          have hwl5 := blk_lt hR5
          clear c0 c1 f1 m0 m1 m2 hR
          have r0 := blk_cell hR5 0
          have r1 := blk_cell hR5 1
          have r2 := blk_cell hR5 2
          have r3 := blk_cell hR5 3
          have r4 := blk_cell hR5 4
          have rf0 := blk_frozen hR5 0
          have rf1 := blk_frozen hR5 1
          have rf2 := blk_frozen hR5 2
          have rf3 := blk_frozen hR5 3
          have rf4 := blk_frozen hR5 4
          clear hL5 hc5 hown hv hR5 hM5
          cases hk0 : (x.1.k == 0) with
          | false =>
            have hn0 : (x.1.k != 0) = true := by simp [bne, hk0]
            have hgo := HGO.out
            rw [if_neg (by simpa using hk0)] at hgo
            have HRES := Lib.hid hgo
            clear hgo hk0
            go_wp2
            refine bodyPost_ret (v := .agg #[.int .i64 x.1.k, .string (mkS x.1.name), .slice A x.1.attrs.length c, .bool x.1.self, .string (mkS x.1.text)]) ?_ rfl ⟨_, rfl, ?_, ?_, ?_⟩
            · simp [results, Tryz.results22, go_sem, r0, r1, r2, r3, r4, hwl5]
            · rw [HRES.out]
              exact TokV.lower (TokV.keep HV.out (O := fun j => j ≤ w.heap.size + 1) (Ch.alloc (Ch.setCell (Ch.setCell (Ch.setCell (Ch.setCell (Ch.setCell (Ch.refl _ _) (.inl (show w.heap.size + 1 ≤ w.heap.size + 1 from Nat.le_refl _)) _) (.inl (show w.heap.size + 1 ≤ w.heap.size + 1 from Nat.le_refl _)) _) (.inl (show w.heap.size + 1 ≤ w.heap.size + 1 from Nat.le_refl _)) _) (.inl (show w.heap.size + 1 ≤ w.heap.size + 1 from Nat.le_refl _)) _) (.inl (show w.heap.size + 1 ≤ w.heap.size + 1 from Nat.le_refl _)) _) _) (fun j hj _ e => by first | omega | (simp at hj; omega))) (by first | omega | (simp; omega))
            · rw [HRES.out]
              exact LexAt.cast (j := i + (k + x.2)) (blk_alloc (show LexAt _ g s (i + k + x.2) from (blk_far (blk_far (blk_far (blk_far (blk_far HL5.out (Ne.symm hneR) _) (Ne.symm hneR) _) (Ne.symm hneR) _) (Ne.symm hneR) _) (Ne.symm hneR) _)) _) (by omega)
            · exact Ch.alloc (Ch.setCell (Ch.setCell (Ch.setCell (Ch.setCell (Ch.setCell HC5.out (.inr hRle) _) (.inr hRle) _) (.inr hRle) _) (.inr hRle) _) (.inr hRle) _) _
          | true =>
            have hn0 : (x.1.k != 0) = false := by simp [bne, hk0]
            have hgo := HGO.out
            rw [if_pos (by simpa using hk0)] at hgo
            have HRES := Lib.hid hgo
            clear hgo hk0
            go_wp2
            go_roundg (s.size - (i + (k + x.2)))
            case measure => omega
            case rel => exact ⟨k + x.2, f, by omega, rfl, by omega, LexAt.cast (blk_alloc HL5.out _) (by omega), Ch.alloc HC5.out _, blk_alloc HM5.out _, blk_alloc HR5.out _, HRES⟩

end Go.Proofs.YthfkldheflmlmaaGreatDoor
