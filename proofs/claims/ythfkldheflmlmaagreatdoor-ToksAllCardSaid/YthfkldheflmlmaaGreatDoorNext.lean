/- Walk of toks.Next. -/
import Derived.Test.YthfkldheflmlmaaGreatDoorDataW
namespace Go.Proofs.YthfkldheflmlmaaGreatDoor
open Go.RowKit

/-- How many bytes stand ahead of the tag that ends a mode, or ahead of the end. -/
def endN (last : List UInt8) : List UInt8 → Nat
  | [] => 0
  | b :: t => if endsL (b :: t) last then 0 else 1 + endN last t
theorem endN_le (last l : List UInt8) : endN last l ≤ l.length := by
  induction l with
  | nil => simp [endN]
  | cons b t ih => rw [endN]; split <;> simp <;> omega
theorem endN_step (s : ByteArray) (last : List UInt8) (j : Nat) (h : j < s.size) : endN last (s.data.toList.drop j) = if endsL (s.data.toList.drop j) last then 0 else 1 + endN last (s.data.toList.drop (j + 1)) := by
  rw [drop_uB s j h, endN]
theorem endN_end (s : ByteArray) (last : List UInt8) (j : Nat) (h : s.size ≤ j) : endN last (s.data.toList.drop j) = 0 := by
  rw [List.drop_eq_nil_of_le (by rw [len_toL]; exact h)]; rfl
/-- The next token from a place within a text on, and how many bytes are taken. -/
def nextIn (l : List UInt8) (mk : Int) (last : List UInt8) (cd : Bool) : TokM × Nat :=
  if mk ≠ 1 ∧ mk ≠ 2 then dataL cd l
  else if endN last l = 0 then ((tagL 2 (l.drop 2)).1, 2 + (tagL 2 (l.drop 2)).2)
  else (charsT (if mk = 1 then allL (l.take (endN last l)) false else l.take (endN last l)), endN last l)
def nextL (l : List UInt8) (p : Int) (mk : Int) (last : List UInt8) (cd : Bool) : TokM × Int :=
  if p < 0 ∨ (l.length : Int) ≤ p then (zeroTok, l.length) else ((nextIn (l.drop p.toNat) mk last cd).1, p + (nextIn (l.drop p.toNat) mk last cd).2)

theorem LexAt.drew {w : World} {g : Nat} {s : ByteArray} {i : Nat} (h : LexAt w g s i) : LexAt w.drew g s i := h

set_option maxRecDepth 100000 in
set_option maxHeartbeats 4000000 in
theorem next_calls (w : World) (s last : ByteArray) (p mk : Int) (cd : Bool) (ht : Tab w) (hs : s.size ≤ 10000000) (hl : last.size ≤ 100000000) :
    Calls Tryz.prog 12 #[.string s, .int .i64 p, .agg #[.int .i64 mk, .string last, .bool cd]] w fun e w' =>
      ∃ v, e = .returned (.tuple #[v, .int .i64 (nextL s.data.toList p mk last.data.toList cd).2]) ∧ TokV w' w.heap.size (nextL s.data.toList p mk last.data.toList cd).1 v ∧ Below w.heap.size w w' := by
  have hb0 : Below w.heap.size w ((w.alloc (.cells #[.int .i64 mk, .string last, .bool cd] 40)).alloc (.cells #[.int .i64 0, .string ⟨#[]⟩, .slice none 0 0, .bool false, .string ⟨#[]⟩] 30)) := ((Below.refl _ _).alloc (Nat.le_refl _) _).alloc (by simp) _
  have hR0 := blk_new (w.alloc (.cells #[.int .i64 mk, .string last, .bool cd] 40)) #[.int .i64 0, .string ⟨#[]⟩, .slice none 0 0, .bool false, .string ⟨#[]⟩] 30
  have hM0 := blk_alloc (blk_new w #[.int .i64 mk, .string last, .bool cd] 40) (.cells #[.int .i64 0, .string ⟨#[]⟩, .slice none 0 0, .bool false, .string ⟨#[]⟩] 30)
  have hs0 : (w.alloc (.cells #[.int .i64 mk, .string last, .bool cd] 40)).heap.size = w.heap.size + 1 := by simp
  rw [hs0] at hR0
  have hw0 : ((w.alloc (.cells #[.int .i64 mk, .string last, .bool cd] 40)).alloc (.cells #[.int .i64 0, .string ⟨#[]⟩, .slice none 0 0, .bool false, .string ⟨#[]⟩] 30)).heap.size = w.heap.size + 2 := by simp
  have hnG := ht.size
  have hno := nextL.eq_1 s.data.toList p mk last.data.toList cd
  rw [len_toL] at hno
  have HNO := Lib.hid hno
  have HB := Lib.hid hb0
  have HR := Lib.hid hR0
  have HM := Lib.hid hM0
  have HT := Lib.hid (ht.below hb0)
  have m0 := blk_cell hM0 0
  have m1 := blk_cell hM0 1
  have m2 := blk_cell hM0 2
  have r0 := blk_cell hR0 0
  have r1 := blk_cell hR0 1
  have r2 := blk_cell hR0 2
  have r3 := blk_cell hR0 3
  have r4 := blk_cell hR0 4
  have rf0 := blk_frozen hR0 0
  have rf1 := blk_frozen hR0 1
  have rf2 := blk_frozen hR0 2
  have rf3 := blk_frozen hR0 3
  have rf4 := blk_frozen hR0 4
  clear hno hb0 hR0 hM0 ht
  have hRle : w.heap.size ≤ w.heap.size + 1 := Nat.le_succ _
  by_cases hp : p < 0 ∨ (s.size : Int) ≤ p
  · have hres := HNO.out
    rw [if_pos hp] at hres
    have HRES := Lib.hid hres
    clear hres HNO
    by_cases h0 : p < 0
    · go_enter Tryz.func12, Tryz.ntmps12
      go_wp2
      generalize (w.alloc (.cells #[.int .i64 mk, .string last, .bool cd] 40)).alloc (.cells #[.int .i64 0, .string ⟨#[]⟩, .slice none 0 0, .bool false, .string ⟨#[]⟩] 30) = w0 at *
      refine bodyPost_ret (v := .tuple #[.agg #[.int .i64 0, .string ⟨#[]⟩, .slice none 0 0, .bool false, .string ⟨#[]⟩], .int .i64 s.size]) ?_ rfl ⟨.agg #[.int .i64 0, .string ⟨#[]⟩, .slice none 0 0, .bool false, .string ⟨#[]⟩], ?_, ?_, ?_⟩
      · simp [results, Tryz.results12, go_sem, r0, r1, r2, r3, r4]
      · rw [HRES.out]
      · rw [HRES.out]
        exact TokV.zero _ _
      · exact HB.out
    · have h1 : (s.size : Int) ≤ p := by omega
      go_enter Tryz.func12, Tryz.ntmps12
      go_wp2
      generalize (w.alloc (.cells #[.int .i64 mk, .string last, .bool cd] 40)).alloc (.cells #[.int .i64 0, .string ⟨#[]⟩, .slice none 0 0, .bool false, .string ⟨#[]⟩] 30) = w0 at *
      refine bodyPost_ret (v := .tuple #[.agg #[.int .i64 0, .string ⟨#[]⟩, .slice none 0 0, .bool false, .string ⟨#[]⟩], .int .i64 s.size]) ?_ rfl ⟨.agg #[.int .i64 0, .string ⟨#[]⟩, .slice none 0 0, .bool false, .string ⟨#[]⟩], ?_, ?_, ?_⟩
      · simp [results, Tryz.results12, go_sem, r0, r1, r2, r3, r4]
      · rw [HRES.out]
      · rw [HRES.out]
        exact TokV.zero _ _
      · exact HB.out
  · obtain ⟨i, rfl⟩ : ∃ i : Nat, p = i := ⟨p.toNat, by omega⟩
    have hres := HNO.out
    rw [if_neg hp, Int.toNat_natCast] at hres
    have hi : i < s.size := by omega
    have h0 : ¬ (i : Int) < 0 := by omega
    have h1 : ¬ (s.size : Int) ≤ i := by omega
    have HRES := Lib.hid hres
    obtain ⟨L, hL⟩ : ∃ L, L = s.data.toList.drop i := ⟨_, rfl⟩
    have hlen : L.length = s.size - i := by rw [hL, List.length_drop, len_toL]
    rw [← hL] at HRES
    have HLL := Lib.hid hL
    have HLEN := Lib.hid hlen
    clear hp hres HNO hL hlen
    have hL1 : LexAt (((w.alloc (.cells #[.int .i64 mk, .string last, .bool cd] 40)).alloc (.cells #[.int .i64 0, .string ⟨#[]⟩, .slice none 0 0, .bool false, .string ⟨#[]⟩] 30)).alloc (.cells #[.string s, .int .i64 i] 54)) (w.heap.size + 2) s i := by
      have := blk_new ((w.alloc (.cells #[.int .i64 mk, .string last, .bool cd] 40)).alloc (.cells #[.int .i64 0, .string ⟨#[]⟩, .slice none 0 0, .bool false, .string ⟨#[]⟩] 30)) #[.string s, .int .i64 i] 54
      rw [hw0] at this
      exact this
    have hR1 := blk_alloc HR.out (.cells #[.string s, .int .i64 i] 54)
    have hM1 := blk_alloc HM.out (.cells #[.string s, .int .i64 i] 54)
    have hB1 := HB.out.alloc (by omega) (.cells #[.string s, .int .i64 i] 54)
    have hT1 := HT.out.below ((Below.refl _ _).alloc (Nat.le_refl _) (.cells #[.string s, .int .i64 i] 54))
    have hg : nG ≤ w.heap.size + 2 := by omega
    have hw1 : (((w.alloc (.cells #[.int .i64 mk, .string last, .bool cd] 40)).alloc (.cells #[.int .i64 0, .string ⟨#[]⟩, .slice none 0 0, .bool false, .string ⟨#[]⟩] 30)).alloc (.cells #[.string s, .int .i64 i] 54)).heap.size = w.heap.size + 3 := by simp
    have HL1 := Lib.hid hL1
    have HR1 := Lib.hid hR1
    have HM1 := Lib.hid hM1
    have HB1 := Lib.hid hB1
    have HT1 := Lib.hid hT1
    clear hL1 hR1 hM1 hB1 hT1 HR HM HB HT
    by_cases hmk : mk ≠ 1 ∧ mk ≠ 2
    · have k1 : (mk != 1) = true := by simp [hmk.1]
      have k2 : (mk != 2) = true := by simp [hmk.2]
      rw [nextIn, if_pos hmk] at HRES
      have DC := Lib.hid (fun W h h' => data_calls W (w.heap.size + 2) s last mk cd i h (by omega) hg h' hs)
      rw [← HLL.out] at DC
      obtain ⟨x, hx⟩ : ∃ x, x = dataL cd L := ⟨_, rfl⟩
      rw [← hx] at DC HRES
      clear hmk hx
      go_enter Tryz.func12, Tryz.ntmps12
      go_wp2_with fail
      generalize ((w.alloc (.cells #[.int .i64 mk, .string last, .bool cd] 40)).alloc (.cells #[.int .i64 0, .string ⟨#[]⟩, .slice none 0 0, .bool false, .string ⟨#[]⟩] 30)).alloc (.cells #[.string s, .int .i64 i] 54) = w1 at *
      refine (DC.out _ HL1.out HT1.out).mono ?_
      rintro e w5 ⟨v, rfl, hv, hL5, hc5⟩
      obtain ⟨A, c, rfl, hown⟩ := hv.slice
      have hR5 := hc5.blk HR1.out (by omega)
      have HV := Lib.hid hv
      have HL5 := Lib.hid hL5
      have HC5 := Lib.hid hc5
      have HR5 := Lib.hid hR5
      clear r0 r1 r2 r3 r4 rf0 rf1 rf2 rf3 rf4 m0 m1 m2
      have hwl5 := blk_lt hR5
      have c0 := hL5.c0
      have c1 := hL5.c1
      have hgl5 := hL5.lt
      have r0 := blk_cell hR5 0
      have r1 := blk_cell hR5 1
      have r2 := blk_cell hR5 2
      have r3 := blk_cell hR5 3
      have r4 := blk_cell hR5 4
      have rf0 := blk_frozen hR5 0
      have rf1 := blk_frozen hR5 1
      have rf2 := blk_frozen hR5 2
      have rf3 := blk_frozen hR5 3
      have rf4 := blk_frozen hR5 4
      clear hL5 hc5 hown hv hR5
      go_wp2
      go_region
      all_goals go_wp2
      all_goals (
        refine bodyPost_ret (v := .tuple #[.agg #[.int .i64 x.1.k, .string (mkS x.1.name), .slice A x.1.attrs.length c, .bool x.1.self, .string (mkS x.1.text)], .int .i64 ((i : Int) + (x.2 : Nat))]) ?_ rfl ⟨.agg #[.int .i64 x.1.k, .string (mkS x.1.name), .slice A x.1.attrs.length c, .bool x.1.self, .string (mkS x.1.text)], by rw [HRES.out], ?_, ?_⟩
        · simp [results, Tryz.results12, go_sem, r0, r1, r2, r3, r4, hwl5]
        · rw [HRES.out]
          exact TokV.lower (TokV.keep HV.out (O := fun j => j ≤ w.heap.size + 1) (Ch.drew (Ch.alloc (Ch.setCell (Ch.setCell (Ch.setCell (Ch.setCell (Ch.setCell (Ch.refl _ _) (.inl (show w.heap.size + 1 ≤ w.heap.size + 1 from Nat.le_refl _)) _) (.inl (show w.heap.size + 1 ≤ w.heap.size + 1 from Nat.le_refl _)) _) (.inl (show w.heap.size + 1 ≤ w.heap.size + 1 from Nat.le_refl _)) _) (.inl (show w.heap.size + 1 ≤ w.heap.size + 1 from Nat.le_refl _)) _) (.inl (show w.heap.size + 1 ≤ w.heap.size + 1 from Nat.le_refl _)) _) _)) (fun j hj _ e => by omega)) (by omega)
        · exact Ch.toBelow (O := fun j => w.heap.size ≤ j) (Ch.drew (Ch.alloc (Ch.setCell (Ch.setCell (Ch.setCell (Ch.setCell (Ch.setCell ((Ch.of_below HB1.out).trans HC5.out (fun j hj e => by omega)) (.inr hRle) _) (.inr hRle) _) (.inr hRle) _) (.inr hRle) _) (.inr hRle) _) _)) (Nat.le_refl _) (fun j hj e => by omega))
    · have hmk2 : mk = 1 ∨ mk = 2 := by omega
      rw [nextIn, if_neg hmk] at HRES
      clear hmk
      go_enter Tryz.func12, Tryz.ntmps12
      go_upto_region 4 with (fail)
      generalize ((w.alloc (.cells #[.int .i64 mk, .string last, .bool cd] 40)).alloc (.cells #[.int .i64 0, .string ⟨#[]⟩, .slice none 0 0, .bool false, .string ⟨#[]⟩] 30)).alloc (.cells #[.string s, .int .i64 i] 54) = w1 at *
      have m0 := blk_cell HM1.out 0
      have m1 := blk_cell HM1.out 1
      go_cut [34] from 27 to 34 (fun c wx => c = .bool false ∧ wx = w1)
      case first =>
        rcases hmk2 with rfl | rfl
        · go_wp2
          go_meet
          case rel => exact ⟨rfl, rfl⟩
        · go_wp2
          go_meet
          case rel => exact ⟨rfl, rfl⟩
      case rest =>
        obtain ⟨rfl, rfl⟩ := hcut
        go_upto_block 0 with (fail)
        go_cut [] from 43 to 63 (fun wx => ∃ n : Nat, n ≤ L.length ∧ LexAt wx (w.heap.size + 2) s (i + n) ∧ Ch (· = w.heap.size + 2) wc wx ∧ Hid (endN last.data.toList L = n) ∧ (n = 0 → i + 2 ≤ s.size))
        case first =>
          go_wp2_with fail
          go_loopg [] (s.size - i) (fun gk wr => ∃ q : Nat, q ≤ L.length ∧ gk = s.size - (i + q) ∧ LexAt wr (w.heap.size + 2) s (i + q) ∧ Ch (· = w.heap.size + 2) wc wr ∧ Hid (endN last.data.toList L = q + endN last.data.toList (L.drop q)))
          case atStart => exact ⟨0, Nat.zero_le _, rfl, HL1.out, Ch.refl _ _, Lib.hid (by rw [Nat.zero_add]; rfl)⟩
          case round =>
            obtain ⟨q, hq, rfl, hLq, hCq, HI⟩ := hrel
            have hLEN := HLEN.out
            have hMq := hCq.blk HM1.out (by omega)
            have hrest : s.data.toList.drop (i + q) = L.drop q := by rw [HLL.out, List.drop_drop]
            have DC := Lib.hid (fun W h => done_calls W (w.heap.size + 2) s (i + q) h)
            have EC := Lib.hid (fun W => ends_calls W s last (i + q) (by omega) (by omega) hl)
            rw [hrest] at EC
            clear m0 m1
            have m1 := blk_cell hMq 1
            have c0 := hLq.c0
            have c1 := hLq.c1
            have f1 := hLq.f1
            have HLq := Lib.hid hLq
            have HCq := Lib.hid hCq
            by_cases hend : L.length ≤ q
            · have hd : decide (s.size ≤ i + q) = true := by simp; omega
              rw [hd] at DC
              have hq0 : endN last.data.toList (L.drop q) = 0 := by rw [← hrest]; exact endN_end s _ _ (by omega)
              clear hd hMq hLq hCq hrest EC
              have DCQ := Lib.hid (fun n => DC.out _ (HLq.out.drewN n))
              go_wp2_with fail
              go_quiet (first | (go_at_call 23; exact Calls.quiet_of (DCQ.out _)))
              go_wp2_with fail
              go_meet
              case rel => exact ⟨q, hq, LexAt.drewN HLq.out _, Ch.drewN HCq.out _, Lib.hid (by rw [HI.out, hq0]; rfl), fun e => by omega⟩
            · have hd : decide (s.size ≤ i + q) = false := by simp; omega
              rw [hd] at DC
              have hst := endN_step s last.data.toList (i + q) (by omega)
              rw [hrest, Nat.add_assoc, show s.data.toList.drop (i + (q + 1)) = L.drop (q + 1) by rw [HLL.out, List.drop_drop]] at hst
              have hen2 : endsL (L.drop q) last.data.toList = true → i + q + 2 ≤ s.size := fun h => by
                have h1 := hasPrefix_le (p := [60, 47]) (l := L.drop q) (by rw [endsL] at h; revert h; cases Lib.hasPrefix (L.drop q) [60, 47] <;> simp)
                rw [List.length_drop] at h1
                simp at h1
                omega
              have HST := Lib.hid hst
              have HEN2 := Lib.hid hen2
              clear hd hMq hLq hCq hrest hst hen2
              go_wp2_with fail
              go_region_law (first | (go_simp; go_at_call 23; refine (DC.out _ HLq.out.drew).mono ?_; rintro e w8 ⟨rfl, n8, rfl⟩) | (go_simp; go_at_call 24; refine (EC.out _).mono ?_; rintro e w9 ⟨rfl, hb9⟩; have hL9 := LexAt.below (HLq.out.drewN _) hb9; have hC9 := (HCq.out.drewN _).then_below hb9; have d1 := hL9.c1; have df1 := hL9.f1))
              all_goals (
                cases he : endsL (L.drop q) last.data.toList with
                | true =>
                  have hen2 := HEN2.out he
                  have hq0 : endN last.data.toList (L.drop q) = 0 := by rw [HST.out, he]; rfl
                  go_wp2_with fail
                  go_meet
                  case rel => exact ⟨q, hq, hL9, hC9, Lib.hid (by rw [HI.out, hq0]; rfl), fun e => by omega⟩
                | false =>
                  have hq1 : endN last.data.toList (L.drop q) = 1 + endN last.data.toList (L.drop (q + 1)) := by rw [HST.out, he]; rfl
                  go_wp2_with fail
                  go_roundg (s.size - (i + (q + 1)))
                  case measure => omega
                  case rel => exact ⟨q + 1, by omega, rfl, LexAt.set_ hL9 (by go_num), Ch.setCell hC9 (.inl rfl) _, Lib.hid (by rw [HI.out, hq1]; omega)⟩)
        case rest =>
          obtain ⟨n, hn, hLn, hCn, HN, hn2⟩ := hcut
          rename_i w7
          have hLEN := HLEN.out
          have hR7 := hCn.blk HR1.out (by omega)
          have hM7 := hCn.blk HM1.out (by omega)
          have HT7 := Lib.hid (HT1.out.keep hCn (fun j hj e => by omega))
          have hw7 := hCn.size
          have HB7 := Lib.hid (Ch.toBelow (O := fun j => w.heap.size ≤ j) ((Ch.of_below HB1.out).trans hCn (fun j hj e => by omega)) (Nat.le_refl _) (fun j hj e => by omega))
          have hex : s.extract i (i + n) = mkS (L.take n) := by rw [cut_to, HLL.out]
          have HL7 := Lib.hid hLn
          have HR7 := Lib.hid hR7
          have HRS := Lib.hid (show nextL s.data.toList (i : Int) mk last.data.toList cd = _ from HRES.out)
          clear m0 m1 m2 r0 r1 r2 r3 r4 rf0 rf1 rf2 rf3 rf4
          have c0 := hLn.c0
          have c1 := hLn.c1
          have f1 := hLn.f1
          have m0 := blk_cell hM7 0
          have r0 := blk_cell hR7 0
          have r1 := blk_cell hR7 1
          have r2 := blk_cell hR7 2
          have r3 := blk_cell hR7 3
          have r4 := blk_cell hR7 4
          have rf0 := blk_frozen hR7 0
          have rf1 := blk_frozen hR7 1
          have rf2 := blk_frozen hR7 2
          have rf3 := blk_frozen hR7 3
          have rf4 := blk_frozen hR7 4
          clear hM7 hLn hCn hR7
          by_cases hn0 : n = 0
          · have hem : (mkS (L.take n)).toList = [] := by rw [hn0, List.take_zero, ByteArray.toList_eq]; rfl
            have hi2 : i + 2 ≤ s.size := hn2 hn0
            have GC := Lib.hid (fun W h h' => tag_calls W (w.heap.size + 2) s (i + 2) 2 h hi2 hg h' hs)
            have hres := HRES.out
            rw [if_pos (by rw [HN.out, hn0]), HLL.out, List.drop_drop] at hres
            obtain ⟨x, hx⟩ : ∃ x, x = tagL 2 (s.data.toList.drop (i + 2)) := ⟨_, rfl⟩
            rw [← hx] at hres GC
            have HRES := Lib.hid hres
            have HL7' := Lib.hid (LexAt.cast HL7.out (show i + n = i by omega))
            have c1' := HL7'.out.c1
            clear hres hx c1 HN hex
            subst hn0
            go_wp2_with fail
            refine (GC.out _ (LexAt.set_ HL7'.out (by go_num)) (HT7.out.keep (O := (· = w.heap.size + 2)) (Ch.setCell (O := (· = w.heap.size + 2)) (p := ⟨w.heap.size + 2, 1, none⟩) (Ch.refl _ _) (.inl rfl) _) (fun j hj e => by omega))).mono ?_
            rintro e w8 ⟨v, rfl, hv, hL8, hc8⟩
            obtain ⟨A, c, rfl, hown⟩ := hv.slice
            have hR8 := hc8.blk (blk_far HR7.out (by simp) _) (by omega)
            have HV := Lib.hid hv
            have HL8 := Lib.hid hL8
            have HC8 := Lib.hid hc8
            have hwl8 := blk_lt hR8
            clear c0 c1' f1 m0 r0 r1 r2 r3 r4 rf0 rf1 rf2 rf3 rf4
            have c0 := hL8.c0
            have c1 := hL8.c1
            have hgl8 := hL8.lt
            have r0 := blk_cell hR8 0
            have r1 := blk_cell hR8 1
            have r2 := blk_cell hR8 2
            have r3 := blk_cell hR8 3
            have r4 := blk_cell hR8 4
            have rf0 := blk_frozen hR8 0
            have rf1 := blk_frozen hR8 1
            have rf2 := blk_frozen hR8 2
            have rf3 := blk_frozen hR8 3
            have rf4 := blk_frozen hR8 4
            clear hL8 hc8 hown hv hR8
            go_wp2
            go_region
            all_goals go_wp2
            all_goals (
              have hpos : (i : Int) + ((2 + x.2 : Nat) : Int) = (i : Int) + 2 + (x.2 : Int) := by omega
              refine bodyPost_ret (v := .tuple #[.agg #[.int .i64 x.1.k, .string (mkS x.1.name), .slice A x.1.attrs.length c, .bool x.1.self, .string (mkS x.1.text)], .int .i64 ((i : Int) + 2 + (x.2 : Int))]) ?_ rfl ⟨.agg #[.int .i64 x.1.k, .string (mkS x.1.name), .slice A x.1.attrs.length c, .bool x.1.self, .string (mkS x.1.text)], by rw [HRES.out]; exact congrArg (fun z => Ending.returned (.tuple #[.agg #[.int .i64 x.1.k, .string (mkS x.1.name), .slice A x.1.attrs.length c, .bool x.1.self, .string (mkS x.1.text)], .int .i64 z])) hpos.symm, ?_, ?_⟩
              · simp [results, Tryz.results12, go_sem, r0, r1, r2, r3, r4, hwl8]
              · rw [HRES.out]
                exact TokV.lower (TokV.keep HV.out (O := fun j => j ≤ w.heap.size + 1) (Ch.drew (Ch.alloc (Ch.setCell (Ch.setCell (Ch.setCell (Ch.setCell (Ch.setCell (Ch.refl _ _) (.inl (show w.heap.size + 1 ≤ w.heap.size + 1 from Nat.le_refl _)) _) (.inl (show w.heap.size + 1 ≤ w.heap.size + 1 from Nat.le_refl _)) _) (.inl (show w.heap.size + 1 ≤ w.heap.size + 1 from Nat.le_refl _)) _) (.inl (show w.heap.size + 1 ≤ w.heap.size + 1 from Nat.le_refl _)) _) (.inl (show w.heap.size + 1 ≤ w.heap.size + 1 from Nat.le_refl _)) _) _)) (fun j hj _ e => by first | omega | (simp at hj; omega))) (by first | omega | (simp; omega))
              · exact Ch.toBelow (O := fun j => w.heap.size ≤ j) (Ch.drew (Ch.alloc (Ch.setCell (Ch.setCell (Ch.setCell (Ch.setCell (Ch.setCell ((Ch.setCell (p := ⟨w.heap.size + 2, 1, none⟩) (Ch.of_below HB7.out) (.inr (by simp)) _).trans HC8.out (fun j hj e => by omega)) (.inr hRle) _) (.inr hRle) _) (.inr hRle) _) (.inr hRle) _) (.inr hRle) _) _)) (Nat.le_refl _) (fun j hj e => by omega))
          · have hem : (mkS (L.take n)).toList.isEmpty = false := by
              rw [ByteArray.toList_eq, of_mkS]
              cases hq : (L.take n).isEmpty with
              | false => rfl
              | true =>
                have hlt : (L.take n).length = n := by rw [List.length_take]; omega
                rw [List.isEmpty_iff.1 hq] at hlt
                exact absurd hlt.symm hn0
            have hnE : ¬ endN last.data.toList L = 0 := by rw [HN.out]; exact hn0
            have hres := HRES.out
            rw [if_neg hnE, HN.out] at hres
            clear HRS
            rcases hmk2 with rfl | rfl
            · rw [if_pos (rfl : (1 : Int) = 1)] at hres
              have HRZ := Lib.hid hres
              have AC := Lib.hid (fun W h => all_calls W (mkS (L.take n)) false h (by rw [size_mkS, List.length_take]; omega))
              rw [of_mkS] at AC
              clear hres
              go_wp2_with fail
              refine (AC.out _ HT7.out.1).mono ?_
              rintro e w8 ⟨rfl, hb8⟩
              have hL8 := HL7.out.below hb8
              have hR8 := blk_below HR7.out hb8
              have HB8 := Lib.hid (below_then HB7.out (by omega) hb8)
              clear c0 c1 f1 m0 r0 r1 r2 r3 r4 rf0 rf1 rf2 rf3 rf4
              have c0 := hL8.c0
              have c1 := hL8.c1
              have r0 := blk_cell hR8 0
              have r1 := blk_cell hR8 1
              have r2 := blk_cell hR8 2
              have r3 := blk_cell hR8 3
              have r4 := blk_cell hR8 4
              have rf0 := blk_frozen hR8 0
              have rf1 := blk_frozen hR8 1
              have rf2 := blk_frozen hR8 2
              have rf3 := blk_frozen hR8 3
              have rf4 := blk_frozen hR8 4
              clear hL8 hR8 hb8
              go_wp2
              go_region
              all_goals go_wp2
              all_goals (
                refine bodyPost_ret (v := .tuple #[.agg #[.int .i64 3, .string ⟨#[]⟩, .slice none 0 0, .bool false, .string (mkS (allL (L.take n) false))], .int .i64 ((i : Int) + (n : Int))]) ?_ rfl ⟨.agg #[.int .i64 3, .string ⟨#[]⟩, .slice none 0 0, .bool false, .string (mkS (allL (L.take n) false))], by rw [HRZ.out], ?_, ?_⟩
                · simp [results, Tryz.results12, go_sem, r0, r1, r2, r3, r4]
                · rw [HRZ.out]
                  exact TokV.chars _ _ _
                · exact Ch.toBelow (O := fun j => w.heap.size ≤ j) (Ch.drew (Ch.setCell (Ch.setCell (Ch.setCell (Ch.setCell (Ch.setCell (Ch.of_below HB8.out) (.inr hRle) _) (.inr hRle) _) (.inr hRle) _) (.inr hRle) _) (.inr hRle) _)) (Nat.le_refl _) (fun j hj e => by omega))
            · rw [if_neg (by decide : ¬ (2 : Int) = 1)] at hres
              have HRZ := Lib.hid hres
              clear hres
              go_wp2_with fail
              go_region
              all_goals go_wp2
              all_goals (
                refine bodyPost_ret (v := .tuple #[.agg #[.int .i64 3, .string ⟨#[]⟩, .slice none 0 0, .bool false, .string (mkS (L.take n))], .int .i64 ((i : Int) + (n : Int))]) ?_ rfl ⟨.agg #[.int .i64 3, .string ⟨#[]⟩, .slice none 0 0, .bool false, .string (mkS (L.take n))], by rw [HRZ.out], ?_, ?_⟩
                · simp [results, Tryz.results12, go_sem, r0, r1, r2, r3, r4]
                · rw [HRZ.out]
                  exact TokV.chars _ _ _
                · exact Ch.toBelow (O := fun j => w.heap.size ≤ j) (Ch.drew (Ch.setCell (Ch.setCell (Ch.setCell (Ch.setCell (Ch.setCell (Ch.of_below HB7.out) (.inr hRle) _) (.inr hRle) _) (.inr hRle) _) (.inr hRle) _) (.inr hRle) _)) (Nat.le_refl _) (fun j hj e => by omega))

end Go.Proofs.YthfkldheflmlmaaGreatDoor
