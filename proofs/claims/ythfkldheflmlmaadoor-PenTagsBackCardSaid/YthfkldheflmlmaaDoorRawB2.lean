/- pen.closes and pen.Raw: contracts. -/
import Derived.Test.YthfkldheflmlmaaDoorRawB1
namespace Go.Proofs.YthfkldheflmlmaaDoor
open Go.RowKit Go.Lib Go.Sort Go.BigFrame

set_option maxRecDepth 100000 in
set_option maxHeartbeats 4000000 in
theorem closes_calls (w : World) (s n : ByteArray) (ht : Tab w) (hs : s.size ≤ 10000) (hn : nameL n.data.toList = true) :
    Calls Tryd.prog 46 #[.string s, .string n] w fun e w' => ∃ b, e = .returned (.bool b) ∧ (b = false → ∀ i, ¬ closeAt (lowL s.data.toList) (patL n.data.toList) i) ∧ Below w.heap.size w w' := by
  have LC := Lib.hid (lower_calls w s (by omega))
  have HT := Lib.hid ht
  have hnz := (name_parts hn).2.1
  rw [len_toL] at hnz
  obtain ⟨P, hP⟩ : ∃ P, P = (⟨#[60, 47]⟩ : ByteArray) ++ n := ⟨_, rfl⟩
  have hPl : P.data.toList = patL n.data.toList := by rw [hP]; simp [ByteArray.data_append, patL]
  have n1 : ¬ 9223372036854775807 < 2 + n.size := by omega
  have CC := Lib.hid (fun W k h => cut_calls W (mkS ((lowL s.data.toList).drop k)) P h (by rw [size_mkS, List.length_drop, lowL_len, len_toL]; omega))
  have SC := Lib.hid (fun W => space_calls W)
  have hLl : (lowL s.data.toList).length = s.size := by rw [lowL_len, len_toL]
  obtain ⟨L, hL⟩ : ∃ L, L = lowL s.data.toList := ⟨_, rfl⟩
  rw [← hL] at LC CC hLl ⊢
  have hpn : patL n.data.toList ≠ [] := by simp [patL]
  have hin := fun i d h h0 h1 => pat_inner (n := n.data.toList) hn (L := L) (i := i) (d := d) h h0 h1
  have hpl2 : 2 ≤ (patL n.data.toList).length := by simp [patL]
  generalize patL n.data.toList = pat at *
  have HIN := Lib.hid hin
  have HP := Lib.hid hP
  clear hin ht hL hn hP
  go_enter Tryd.func46, Tryd.ntmps46
  go_upto_region 2 with (go_at_call 16; refine LC.out.mono ?_; rintro e w1 ⟨rfl, hb1⟩)
  go_wp2_with fail
  go_loopw [5] (fun r wr => ∃ k : Nat, k ≤ L.length ∧ r = .string (mkS (L.drop k)) ∧ Below w.heap.size w wr ∧ Hid (∀ i, i < k → ¬ closeAt L pat i)) (fun r _ => strSize r)
  case atStart => exact ⟨0, Nat.zero_le _, by simp, hb1, Lib.hid (fun i hi => by omega)⟩
  case round =>
    obtain ⟨k, hk, rfl, hb, HN⟩ := hrel
    have hk2 : (mkS (L.drop k)).data.toList = L.drop k := of_mkS _
    have CR := fun W h => CC.out W k h
    rw [hk2, hPl, Lib.cut] at CR
    have hxz : (mkS (L.drop k)).size = L.length - k := by rw [size_mkS, List.length_drop]
    by_cases hidx : 0 ≤ index (L.drop k) pat
    · obtain ⟨j, hj⟩ : ∃ j : Nat, index (L.drop k) pat = j := ⟨(index (L.drop k) pat).toNat, by omega⟩
      obtain ⟨ho, hfst⟩ := index_nat hpn _ j hj
      rw [if_pos hidx, hj, Int.toNat_natCast, List.drop_drop] at CR
      rw [List.drop_drop] at ho
      have hfst' : ∀ i, k ≤ i → i < k + j → pat.isPrefixOf (L.drop i) = false := fun i h1 h2 => by
        have := hfst (i - k) (by omega)
        rwa [List.drop_drop, show k + (i - k) = i by omega] at this
      have hle : k + j + pat.length ≤ L.length := by
        obtain ⟨t, ht⟩ := prefix_app ho
        have := congrArg List.length ht
        rw [List.length_drop, List.length_append] at this
        omega
      rw [show k + (j + pat.length) = k + j + pat.length by omega] at CR
      simp only at CR
      have hnext : ¬ (∃ b t, L.drop (k + j + pat.length) = b :: t ∧ stopB b = true) → ∀ i, i < k + j + pat.length → ¬ closeAt L pat i := fun hns i hi hc => by
        by_cases h1 : i < k
        · exact HN.out i h1 hc
        · by_cases h2 : i < k + j
          · have := hfst' i (by omega) h2
            rw [hc.1] at this
            cases this
          · by_cases h3 : i = k + j
            · exact hns (by rw [h3] at hc; exact hc.2)
            · have := HIN.out (k + j) (i - (k + j)) ho (by omega) (by omega)
              rw [show k + j + (i - (k + j)) = i by omega, hc.1] at this
              cases this
      have HNX := Lib.hid hnext
      have CR := Lib.hid CR
      clear hnext hfst hfst' ho hidx hj hk2
      cases hd : L.drop (k + j + pat.length) with
      | nil =>
        have hns := HNX.out (fun ⟨b, t, e, _⟩ => by rw [hd] at e; cases e)
        rw [hd] at CR
        have he : ((mkS []).toList == []) = true := by rw [ByteArray.toList_eq, of_mkS]; rfl
        go_wp2_with (go_at_call 83; rw [← HP.out]; refine (CR.out _ (HT.out.below hb).2).mono ?_; rintro e w2 ⟨rfl, n2, rfl⟩)
        go_roundw
        case rel => exact ⟨k + j + pat.length, hle, by rw [hd], below_drewN hb _, Lib.hid hns⟩
        case measure => simp only [strSize, size_mkS, hxz, List.length_nil]; omega
      | cons b t =>
        rw [hd] at CR
        obtain ⟨x, hx⟩ : ∃ x, x = mkS (b :: t) := ⟨_, rfl⟩
        rw [← hx] at CR
        have he : (x.toList == []) = false := by rw [hx, ByteArray.toList_eq, of_mkS]; rfl
        have hxs : x.size = t.length + 1 := by rw [hx, size_mkS, List.length_cons]
        have hz : (0 : Int) < x.size := by omega
        have hbt := bI_at x
        have hr := bI_range x 0
        have hb0 : bI x 0 = (b.toNat : Int) := by rw [hx, bI_mk]; rfl
        have hst : stopB b = (spaceI (bI x 0) || (bI x 0 == 47 || bI x 0 == 62)) := by rw [hb0]; rfl
        have HX := Lib.hid hx
        clear hx hb0
        cases e1 : spaceI (bI x 0) with
        | true =>
          go_wp2_with (first | (go_at_call 83; rw [← HP.out]; refine (CR.out _ (HT.out.below hb).2).mono ?_; rintro e w2 ⟨rfl, n2, rfl⟩) | (go_at_call 17; refine (SC.out _ _).mono ?_; rintro e w3 ⟨rfl, rfl⟩; rw [e1]))
          go_ret
          exact ⟨true, rfl, (fun h => by cases h), below_drewN hb _⟩
        | false =>
          cases e2 : (bI x 0 == 47) with
          | true =>
            go_wp2_with (first | (go_at_call 83; rw [← HP.out]; refine (CR.out _ (HT.out.below hb).2).mono ?_; rintro e w2 ⟨rfl, n2, rfl⟩) | (go_at_call 17; refine (SC.out _ _).mono ?_; rintro e w3 ⟨rfl, rfl⟩; rw [e1]))
            go_ret
            exact ⟨true, rfl, (fun h => by cases h), below_drewN hb _⟩
          | false =>
            cases e3 : (bI x 0 == 62) with
            | true =>
              go_wp2_with (first | (go_at_call 83; rw [← HP.out]; refine (CR.out _ (HT.out.below hb).2).mono ?_; rintro e w2 ⟨rfl, n2, rfl⟩) | (go_at_call 17; refine (SC.out _ _).mono ?_; rintro e w3 ⟨rfl, rfl⟩; rw [e1]))
              go_ret
              exact ⟨true, rfl, (fun h => by cases h), below_drewN hb _⟩
            | false =>
              rw [e1, e2, e3] at hst
              have hns := HNX.out (fun ⟨b', t', e, hs'⟩ => by rw [hd] at e; cases e; rw [hst] at hs'; cases hs')
              go_wp2_with (first | (go_at_call 83; rw [← HP.out]; refine (CR.out _ (HT.out.below hb).2).mono ?_; rintro e w2 ⟨rfl, n2, rfl⟩) | (go_at_call 17; refine (SC.out _ _).mono ?_; rintro e w3 ⟨rfl, rfl⟩; rw [e1]))
              go_roundw
              case rel => exact ⟨k + j + pat.length, hle, by rw [hd, ← HX.out], below_drewN hb _, Lib.hid hns⟩
              case measure =>
                have := congrArg List.length hd
                rw [List.length_drop, List.length_cons] at this
                simp only [strSize, hxs, hxz]
                omega
    · have hge := index_ge (L.drop k) pat
      have hno := index_none hpn (L.drop k) (by omega)
      rw [if_neg hidx] at CR
      have CR := Lib.hid CR
      have hall : ∀ i, ¬ closeAt L pat i := fun i hc => by
        by_cases h1 : i < k
        · exact HN.out i h1 hc
        · have := hno (i - k)
          rw [List.drop_drop, show k + (i - k) = i by omega, hc.1] at this
          cases this
      clear hno hidx hge hk2
      go_wp2_with (go_at_call 83; rw [← HP.out]; refine (CR.out _ (HT.out.below hb).2).mono ?_; rintro e w2 ⟨rfl, n2, rfl⟩)
      go_ret
      exact ⟨false, rfl, fun _ => hall, below_drewN hb _⟩

set_option maxRecDepth 100000 in
set_option maxHeartbeats 1000000 in
theorem pen_raw_calls (w : World) (s n : ByteArray) (ht : Tab w) (hs : s.size ≤ 10000) : Calls Tryd.prog 25 #[.string s, .string n] w fun e w' => ∃ r, e = .returned (.tuple r) ∧ Below w.heap.size w w' ∧
    ((nameL n.data.toList = true ∧ (∀ i, ¬ closeAt (lowL s.data.toList) (patL n.data.toList) i) ∧ r = #[.string s, .int .i64 0]) ∨ r = #[.string ⟨#[]⟩, .int .i64 4]) := by
  have NC := Lib.hid (fun W => name_calls W n)
  have GC := good_calls w s ht.1.1 (by omega)
  have HT := Lib.hid ht
  cases hn : nameL n.data.toList with
  | false =>
    clear GC
    go_enter Tryd.func25, Tryd.ntmps25
    go_wp2_with (go_at_call 41; refine (NC.out _).mono ?_; rintro e w1 ⟨rfl, rfl⟩; rw [hn])
    go_ret2
    exact ⟨_, rfl, Below.refl _ _, .inr rfl⟩
  | true =>
    cases hg : goodL s.data.toList with
    | false =>
      rw [hg] at GC
      have GC := Lib.hid GC
      go_enter Tryd.func25, Tryd.ntmps25
      go_wp2_with (first | (go_at_call 41; refine (NC.out _).mono ?_; rintro e w1 ⟨rfl, rfl⟩; rw [hn]) | (go_at_call 42; refine GC.out.mono ?_; rintro e w2 ⟨rfl, hb2⟩))
      go_ret2
      exact ⟨_, rfl, hb2, .inr rfl⟩
    | true =>
      rw [hg] at GC
      have GC := Lib.hid GC
      have CL := Lib.hid (fun W h => closes_calls W s n h hs hn)
      go_enter Tryd.func25, Tryd.ntmps25
      go_wp2_with (first | (go_at_call 41; refine (NC.out _).mono ?_; rintro e w1 ⟨rfl, rfl⟩; rw [hn]) | (go_at_call 42; refine GC.out.mono ?_; rintro e w2 ⟨rfl, hb2⟩) | (go_at_call 46; refine (CL.out _ (HT.out.below hb2)).mono ?_; rintro e w3 ⟨b, rfl, hbn, hb3⟩))
      all_goals go_ret2
      all_goals first
        | exact ⟨_, rfl, below_then hb2 hb2.size hb3, .inr rfl⟩
        | exact ⟨_, rfl, below_then hb2 hb2.size hb3, .inl ⟨trivial, hbn (by assumption), rfl⟩⟩
        | exact ⟨_, rfl, below_then hb2 hb2.size hb3, .inl ⟨trivial, hbn rfl, rfl⟩⟩

end Go.Proofs.YthfkldheflmlmaaDoor
