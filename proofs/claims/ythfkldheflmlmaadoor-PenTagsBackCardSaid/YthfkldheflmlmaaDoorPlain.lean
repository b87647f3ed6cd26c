/- Walk of the law ToksPlain. -/
import Derived.Test.YthfkldheflmlmaaDoorNames
import Derived.Test.YthfkldheflmlmaaDoorClean
import Derived.Lib.QuietBelow
import Derived.BigQuiet
namespace Go.Proofs.YthfkldheflmlmaaDoor
open Go.RowKit Go.Sort Go.BigFrame

theorem plN_plain : ∀ (u : List UInt8), (∀ k, stopL (u.drop k) = false) → plN u = u.length
  | [], _ => rfl
  | b :: t, h => by
    have h0 := h 0
    rw [List.drop_zero] at h0
    rw [plN, h0, plN_plain t (fun k => by have := h (k + 1); rwa [List.drop_succ_cons] at this)]
    simp [Nat.add_comm]
theorem head_no {l : List UInt8} {c : UInt8} (h : c ∉ l) : headIs l c.toNat = false := by
  cases l with
  | nil => rfl
  | cons b t =>
    simp only [headIs]
    have hb : b ≠ c := fun e => h (by simp [e])
    simpa using fun e : b.toNat = c.toNat => hb (UInt8.toNat.inj e)
theorem stop_no {l : List UInt8} (h : (60 : UInt8) ∉ l) (k : Nat) : stopL (l.drop k) = false := by
  have : headIs (l.drop k) 60 = false := head_no (c := 60) (fun hm => h (List.mem_of_mem_drop hm))
  rw [stopL, this]
  rfl
theorem stop_app {v : List UInt8} (hv : ∀ k, stopL (v.drop k) = false) : ∀ (a : List UInt8), (60 : UInt8) ∉ a → ∀ k, stopL ((a ++ v).drop k) = false
  | [], _, k => hv k
  | b :: a, h, 0 => by
    have : headIs (b :: (a ++ v)) 60 = false := by
      have := head_no (l := b :: a) (c := 60) h
      simpa [headIs] using this
    rw [List.drop_zero, List.cons_append, stopL, this]
    rfl
  | b :: a, h, k + 1 => by
    rw [List.cons_append, List.drop_succ_cons]
    exact stop_app hv a (fun hm => h (by simp [hm])) k
theorem stop_lt {t : List UInt8} (h : (60 : UInt8) ∉ t) : ∀ k, stopL ((60 :: 32 :: t : List UInt8).drop k) = false
  | 0 => by
    rw [List.drop_zero, stopL, begL]
    simp [letterI]
  | k + 1 => by
    rw [List.drop_succ_cons]
    exact stop_no (l := 32 :: t) (by simpa using h) k
theorem toks_plain (u : List UInt8) (h : ∀ k, stopL (u.drop k) = false) (h38 : (38 : UInt8) ∉ u) (hu : u ≠ []) : toksL u = [charsT (cleanL u)] := by
  have hp := List.length_pos_iff.mpr hu
  have hpl := plN_plain u h
  have h0 := h 0
  rw [List.drop_zero] at h0
  have hd : dataL false u = (charsT (cleanL u), u.length) := by
    rw [dataL, dataGo, if_neg (by simpa using hu), if_pos h0, hpl, List.take_length, all_clean _ u false (Nat.le_refl _) h38]
    simp
  have hn : nextIn (u.drop 0) 0 [] false = (charsT (cleanL u), u.length) := by
    rw [List.drop_zero, nextIn, if_pos (by decide), hd]
  rw [toksL, toksGo, if_neg (by omega), hn]
  simp only
  rw [if_neg (show ¬ (charsT (cleanL u)).k = 0 from fun h => by cases h)]
  obtain ⟨n, hn⟩ : ∃ n, u.length = n + 1 := ⟨u.length - 1, by omega⟩
  rw [show (0 : Nat) + u.length = u.length by omega]
  congr 1
  conv => lhs; rw [hn]
  rw [toksGo, if_pos (by omega)]
theorem plain_one (s : List UInt8) (h60 : (60 : UInt8) ∉ s) (h38 : (38 : UInt8) ∉ s) (hs : s ≠ []) : toksL s = [charsT (cleanL s)] := toks_plain s (stop_no h60) h38 hs
theorem plain_two (s t : List UInt8) (h60 : (60 : UInt8) ∉ s) (h38 : (38 : UInt8) ∉ s) (g60 : (60 : UInt8) ∉ t) (g38 : (38 : UInt8) ∉ t) : toksL (s ++ 60 :: 32 :: t) = [charsT (cleanL s ++ 60 :: 32 :: cleanL t)] := by
  rw [toks_plain _ (stop_app (stop_lt g60) s h60) (by simp [h38, g38]) (by simp), clean_app _ s 60 (32 :: t) (Nat.le_refl _) (by decide), clean_low 60 _ (by decide), clean_low 32 _ (by decide)]

theorem cleanL_len : ∀ (n : Nat) (l : List UInt8), l.length ≤ n → (cleanL l).length ≤ 4 * l.length
  | 0, l, h => by
    have : l = [] := List.length_eq_zero_iff.mp (by omega)
    rw [this, cleanL_nil]; simp
  | n + 1, l, h => by
    by_cases hl : l = []
    · rw [hl, cleanL_nil]; simp
    · have hf := first_len l hl
      have hb := bytesL_len (firstI (mkS l)).1
      have ih := cleanL_len n (l.drop (firstI (mkS l)).2.toNat) (by rw [List.length_drop]; omega)
      rw [List.length_drop] at ih
      rw [cleanL_step l hl, List.length_append]
      omega
theorem one_out {w : World} {B : Nat} {v : Value} {l : List (TokM × Value)} {x : List UInt8} (hO : ToksOwn w B v l) (hl : l.map (·.1) = [charsT x]) : ∃ g c, v = .slice (some ⟨g, 0, none⟩) 1 c ∧ w.cell? ⟨g, 0, none⟩ = some (.int .i64 3) ∧ w.cell? ⟨g, 4, none⟩ = some (.string (mkS x)) := by
  obtain ⟨x0, l1, rfl, e0, hl⟩ := List.map_eq_cons_iff.1 hl
  obtain rfl := List.map_eq_nil_iff.1 hl
  obtain ⟨t0, v0⟩ := x0
  simp only at e0
  subst e0
  obtain ⟨A, c, rfl, hlc, hA⟩ := own_toks hO
  obtain ⟨g, _, rfl, hc⟩ := hA (by simp)
  exact ⟨g, c, rfl, hc 0 _ rfl, hc 4 _ rfl⟩
theorem nil_out {w : World} {B : Nat} {v : Value} {l : List (TokM × Value)} (hO : ToksOwn w B v l) (hl : l.map (·.1) = []) : ∃ A c, v = .slice A 0 c := by
  obtain rfl := List.map_eq_nil_iff.1 hl
  obtain ⟨A, c, rfl, _, _⟩ := own_toks hO
  exact ⟨A, c, rfl⟩
theorem no_byte {s : ByteArray} {c : UInt8} (h : ∀ j, j < s.size → (bI s j == (c.toNat : Int)) = false) : c ∉ s.data.toList := fun hm => by
  obtain ⟨j, hj, e⟩ := List.mem_iff_getElem.1 hm
  rw [len_toL] at hj
  have := h j hj
  rw [bI_uB, uB, List.getD, List.getElem?_eq_getElem (by rw [len_toL]; exact hj)] at this
  simp only [Option.getD_some, e] at this
  simp at this

set_option maxRecDepth 100000 in
set_option maxHeartbeats 4000000 in
theorem plain_calls (w : World) (s t : ByteArray) (hs : s.size ≤ reachBytes) (hs2 : t.size ≤ reachBytes) (ht : Tab w) :
    Calls Tryd.prog 7 #[.string s, .string t] w fun e w' => e = .returned (.bool true) ∧ Below w.heap.size w w' := by
  unfold reachBytes at hs hs2
  have TG := Lib.hid (fun W (h : Tab W) => tags_calls W h)
  have HT := Lib.hid ht
  clear ht
  have esum : IntKind.i64.wrap ((s.size : Int) + (t.size : Int)) = (s.size : Int) + (t.size : Int)  := IntWalk.i64_in _ (by omega)
  by_cases h1 : (2000 : Int) < (s.size : Int) + (t.size : Int)
  · go_enter Tryd.func7, Tryd.ntmps7
    go_wp2_with (go_at_call 11; refine (TG.out _ HT.out).mono ?_; rintro e w1 ⟨rfl, hb1⟩)
    go_ret
    exact ⟨rfl, hb1⟩
  have hbs := bI_at s
  have hbt := bI_at t
  go_enter Tryd.func7, Tryd.ntmps7
  go_wp2
  go_loopw [5] (fun i wr => ∃ k : Nat, k ≤ s.size ∧ i = .int .i64 k ∧ wr = w ∧ Hid (∀ j, j < k → (bI s j == 60) = false ∧ (bI s j == 38) = false)) (fun i _ => s.size - (intOf i).toNat)
  case atStart => exact ⟨0, by omega, rfl, rfl, Lib.hid (fun j hj => by omega)⟩
  case round =>
    obtain ⟨k, hk, rfl, rfl, HN⟩ := hrel
    by_cases hlt : k < s.size
    · have hlt' : (k : Int) < s.size := by omega
      have hr := bI_range s k
      cases e1 : (bI s k == 60) with
      | true =>
        go_wp2_with (go_at_call 11; refine (TG.out _ HT.out).mono ?_; rintro e w1 ⟨rfl, hb1⟩)
        go_ret
        exact ⟨rfl, hb1⟩
      | false =>
        cases e2 : (bI s k == 38) with
        | true =>
          go_wp2_with (go_at_call 11; refine (TG.out _ HT.out).mono ?_; rintro e w1 ⟨rfl, hb1⟩)
          go_ret
          exact ⟨rfl, hb1⟩
        | false =>
          go_wp2_with fail
          go_roundw
          case measure => simp [intOf]; omega
          case rel =>
            refine ⟨k + 1, by omega, by go_num, trivial, Lib.hid (fun j hj => ?_)⟩
            by_cases ej : j = k
            · subst ej; exact ⟨e1, e2⟩
            · exact HN.out j (by omega)
    · have h60 := no_byte (c := 60) (fun j hj => (HN.out j (by omega)).1)
      have h38 := no_byte (c := 38) (fun j hj => (HN.out j (by omega)).2)
      have H60 := Lib.hid h60
      have H38 := Lib.hid h38
      clear HN h60 h38 hbs
      go_wp2_with fail
      go_loopw [6] (fun i wr' => ∃ k : Nat, k ≤ t.size ∧ i = .int .i64 k ∧ wr' = wr ∧ Hid (∀ j, j < k → (bI t j == 60) = false ∧ (bI t j == 38) = false)) (fun i _ => t.size - (intOf i).toNat)
      case atStart => exact ⟨0, by omega, rfl, rfl, Lib.hid (fun j hj => by omega)⟩
      case round =>
        obtain ⟨k, hk, rfl, hw, HN⟩ := hrel
        subst hw
        by_cases hlt : k < t.size
        · have hlt' : (k : Int) < t.size := by omega
          have hr := bI_range t k
          cases e1 : (bI t k == 60) with
          | true =>
            go_wp2_with (go_at_call 11; refine (TG.out _ HT.out).mono ?_; rintro e w1 ⟨rfl, hb1⟩)
            go_ret
            exact ⟨rfl, hb1⟩
          | false =>
            cases e2 : (bI t k == 38) with
            | true =>
              go_wp2_with (go_at_call 11; refine (TG.out _ HT.out).mono ?_; rintro e w1 ⟨rfl, hb1⟩)
              go_ret
              exact ⟨rfl, hb1⟩
            | false =>
              go_wp2_with fail
              go_roundw
              case measure => simp [intOf]; omega
              case rel =>
                refine ⟨k + 1, by omega, by go_num, trivial, Lib.hid (fun j hj => ?_)⟩
                by_cases ej : j = k
                · subst ej; exact ⟨e1, e2⟩
                · exact HN.out j (by omega)
        · have g60 := no_byte (c := 60) (fun j hj => (HN.out j (by omega)).1)
          have g38 := no_byte (c := 38) (fun j hj => (HN.out j (by omega)).2)
          have hu : (s ++ ⟨#[60, 32]⟩ ++ t).data.toList = s.data.toList ++ 60 :: 32 :: t.data.toList := by simp [ByteArray.data_append]
          have hU := plain_two s.data.toList t.data.toList H60.out H38.out g60 g38
          rw [← hu] at hU
          have huz : (s ++ ⟨#[60, 32]⟩ ++ t).size = s.size + 2 + t.size := by simp [ByteArray.size_append]; rfl
          have AU := Lib.hid (fun W h => all_tokens_calls W (s ++ ⟨#[60, 32]⟩ ++ t) h (by omega))
          have AS := Lib.hid (fun W h => all_tokens_calls W s h (by omega))
          have CS := Lib.hid (fun W h => clean_calls W s h (by omega))
          have CT := Lib.hid (fun W h => clean_calls W t h (by omega))
          have hcs := cleanL_len _ s.data.toList (Nat.le_refl _)
          have hct := cleanL_len _ t.data.toList (Nat.le_refl _)
          rw [len_toL] at hcs hct
          have hE : mkS (cleanL s.data.toList ++ 60 :: 32 :: cleanL t.data.toList) = mkS (cleanL s.data.toList) ++ ⟨#[60, 32]⟩ ++ mkS (cleanL t.data.toList) := by
            rw [← mkS_of (mkS (cleanL s.data.toList) ++ ⟨#[60, 32]⟩ ++ mkS (cleanL t.data.toList))]
            simp [ByteArray.data_append, of_mkS]
          have hz1 := size_mkS (cleanL s.data.toList)
          have hz2 := size_mkS (cleanL t.data.toList)
          have hP := plain_one s.data.toList H60.out H38.out
          have HP := Lib.hid hP
          have HU := Lib.hid hU
          have HE := Lib.hid hE
          clear hU hE hu g60 g38 HN hP
          generalize cleanL s.data.toList = cs at *
          generalize cleanL t.data.toList = ct at *
          go_upto_region 14 with (go_at_call 15; refine (AU.out _ HT.out).mono ?_; rintro e w1 ⟨v1, l1, rfl, hO1, hl1, hb1⟩; rw [HU.out] at hl1; obtain ⟨g, c, rfl, k0, k4⟩ := one_out hO1 hl1; rw [HE.out] at k4)
          go_upto_region 15 with (go_at_call 15; refine (AS.out _ (HT.out.below hb1)).mono ?_; rintro e w2 ⟨v2, l2, rfl, hO2, hl2, hb2⟩)
          have hbw := below_then hb1 hb1.size hb2
          have HT2 := Lib.hid (HT.out.below hbw)
          replace k0 := (hb2.cell (World.block_lt_of_cell? w1 _ k0)).trans k0
          replace k4 := (hb2.cell (World.block_lt_of_cell? w1 _ k4)).trans k4
          have n1 : ¬ 9223372036854775807 < (mkS cs).size + 2 := by omega
          have n2 : ¬ 9223372036854775807 < (mkS cs).size + 2 + (mkS ct).size := by omega
          have cS : ∀ d os, Calls Tryd.prog 18 #[.string s] (grow (redrawn w2 d) os) fun e w'' => e = .returned (.string (mkS cs)) ∧ ∃ p : Regrown, w'' = grow (redrawn w2 p.d) p.os := fun d os => Calls.regrown_of (CS.out _ (HT2.out.below (below_regrown w2 d os)).1.1)
          have cT : ∀ d os, Calls Tryd.prog 18 #[.string t] (grow (redrawn w2 d) os) fun e w'' => e = .returned (.string (mkS ct)) ∧ ∃ p : Regrown, w'' = grow (redrawn w2 p.d) p.os := fun d os => Calls.regrown_of (CT.out _ (HT2.out.below (below_regrown w2 d os)).1.1)
          have cG : ∀ d os, Calls Tryd.prog 11 #[] (grow (redrawn w2 d) os) fun e w'' => e = .returned (.bool true) ∧ ∃ p : Regrown, w'' = grow (redrawn w2 p.d) p.os := fun d os => Calls.regrown_of (TG.out _ (HT2.out.below (below_regrown w2 d os)))
          have hb1' := Lib.hid hb1
          clear hbt huz AU AS CS CT hb1 hO1 hl1
          by_cases hs0 : s.data.toList = []
          · rw [hs0] at hl2
            obtain ⟨A2, c2, rfl⟩ := nil_out hO2 hl2
            have he : (s.toList == []) = true := by rw [ByteArray.toList_eq, hs0]; rfl
            clear hO2 hl2 hs0
            have gk0 := cell_regrown k0
            have gk4 := cell_regrown k4
            refine wp_region_quiet_below (by kernel_rfl) (by kernel_rfl) ?_
            repeat (go_big_quiet_step (first | with_reducible exact cS _ _ | with_reducible exact cT _ _ | with_reducible exact cG _ _))
            refine wpQuiet_nil ?_
            intro w6 hw'
            obtain ⟨⟨dq, osq⟩, hw''⟩ := hw'
            have hb6 := below_regrown w2 dq osq
            rw [← hw''] at hb6
            clear hw''
            go_wp2_with fail
            go_ret
            exact ⟨rfl, below_then hbw hbw.size hb6⟩
          · rw [HP.out hs0] at hl2
            obtain ⟨g2, c2, rfl, m0, m4⟩ := one_out hO2 hl2
            clear hO2 hl2 hs0
            have gk0 := cell_regrown k0
            have gk4 := cell_regrown k4
            have gm4 := cell_regrown m4
            refine wp_region_quiet_below (by kernel_rfl) (by kernel_rfl) ?_
            repeat (go_big_quiet_step (first | with_reducible exact cS _ _ | with_reducible exact cT _ _ | with_reducible exact cG _ _))
            refine wpQuiet_nil ?_
            intro w6 hw'
            obtain ⟨⟨dq, osq⟩, hw''⟩ := hw'
            have hb6 := below_regrown w2 dq osq
            rw [← hw''] at hb6
            clear hw''
            go_wp2_with fail
            go_ret
            exact ⟨rfl, below_then hbw hbw.size hb6⟩

end Go.Proofs.YthfkldheflmlmaaDoor
