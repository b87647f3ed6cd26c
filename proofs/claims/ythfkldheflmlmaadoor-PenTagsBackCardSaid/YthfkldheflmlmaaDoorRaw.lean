/- Walk of the law ToksRaw. -/
import Derived.Test.YthfkldheflmlmaaDoorGoes
import Derived.Test.YthfkldheflmlmaaDoorTail
namespace Go.Proofs.YthfkldheflmlmaaDoor
open Go.RowKit

/-- Bytes that end a tag's name. -/
def stopB (b : UInt8) : Bool := spaceI b.toNat || ((b.toNat : Int) == 47 || (b.toNat : Int) == 62)
theorem stopB_name (b : UInt8) : nameStops.contains b = stopB b := by
  revert b
  have : ∀ n : Fin 256, nameStops.contains (UInt8.ofNat n.1) = stopB (UInt8.ofNat n.1) := by decide +kernel
  intro b
  simpa using this ⟨b.toNat, b.toNat_lt⟩
theorem stopB_low (b : UInt8) (h : stopB b = true) : lowB b = b := by
  revert b
  have : ∀ n : Fin 256, stopB (UInt8.ofNat n.1) = true → lowB (UInt8.ofNat n.1) = UInt8.ofNat n.1 := by decide +kernel
  intro b
  simpa using this ⟨b.toNat, b.toNat_lt⟩
theorem untN_eq (stops : List UInt8) : ∀ (n : Nat) (r : List UInt8), (∀ c ∈ r.take n, stops.contains c = false) → (∃ b t, r.drop n = b :: t ∧ stops.contains b = true) → untN stops r = n
  | 0, r, _, ⟨b, t, h, hb⟩ => by
    rw [List.drop_zero] at h
    rw [h, untN_cons, if_pos hb]
  | n + 1, [], _, ⟨b, t, h, _⟩ => by simp at h
  | n + 1, c :: r, hc, ⟨b, t, h, hb⟩ => by
    rw [untN_cons, if_neg (by rw [hc c (by simp)]; simp), untN_eq stops n r (fun x hx => hc x (by simp [hx])) ⟨b, t, by simpa using h, hb⟩]
/-- The tag that ends a mode bears its name. -/
theorem ends_name {l last : List UInt8} (h : endsL l last = true) (hs : ∀ b ∈ last, stopB b = false) : last ≠ [] ∧ untN nameStops (l.drop 2) = last.length ∧ lowL ((l.drop 2).take last.length) = last := by
  rw [endsL] at h
  simp only [Bool.and_eq_true, decide_eq_true_eq, beq_iff_eq] at h
  obtain ⟨-, h1, h2, h3, h4⟩ := h
  refine ⟨fun e => by rw [e] at h1; simp at h1, ?_, h3⟩
  refine untN_eq nameStops _ _ (fun c hc => ?_) ?_
  · rw [stopB_name]
    cases hb : stopB c with
    | false => rfl
    | true =>
      have := hs c (by rw [← h3, lowL]; exact List.mem_map.2 ⟨c, hc, stopB_low c hb⟩)
      rw [hb] at this
      cases this
  · cases hd : (l.drop 2).drop last.length with
    | nil => rw [hd] at h4; cases h4
    | cons b t =>
      rw [hd] at h4
      exact ⟨b, t, rfl, by rw [stopB_name]; exact h4⟩
theorem endN_zero {l last : List UInt8} (h0 : 0 < l.length) (h : endN last l = 0) : endsL l last = true := by
  cases l with
  | nil => cases h0
  | cons b t =>
    rw [endN] at h
    split at h
    · rename_i hh; exact hh
    · omega
theorem raw_plain (l last : List UInt8) (mk : Int) (hm : mk = 1 ∨ mk = 2) (hs : ∀ b ∈ last, stopB b = false) :
    0 ≤ (nextL l 0 mk last false).2 ∧ (nextL l 0 mk last false).2 ≤ l.length ∧
    (((nextL l 0 mk last false).1.k = 0 ∧ (nextL l 0 mk last false).2 = l.length) ∨ ((nextL l 0 mk last false).1.k = 2 ∧ (nextL l 0 mk last false).1.name = last ∧ last ≠ []) ∨
      ((nextL l 0 mk last false).1.k = 3 ∧ (mk = 2 → (nextL l 0 mk last false).1.text = l.take (nextL l 0 mk last false).2.toNat))) := by
  rcases Nat.eq_zero_or_pos l.length with h0 | h0
  · rw [nextL, if_pos (by omega)]
    exact ⟨by simp only; omega, by simp only; omega, .inl ⟨rfl, rfl⟩⟩
  · have hle := nextIn_le l mk last false h0
    have hx : nextL l 0 mk last false = ((nextIn l mk last false).1, 0 + ((nextIn l mk last false).2 : Int)) := by
      rw [nextL, if_neg (by omega)]
      rfl
    rw [hx]
    refine ⟨by simp only; omega, by simp only; omega, ?_⟩
    simp only [Int.zero_add, Int.toNat_natCast]
    have hin : nextIn l mk last false = if endN last l = 0 then ((tagL 2 (l.drop 2)).1, 2 + (tagL 2 (l.drop 2)).2) else (charsT (if mk = 1 then allL (l.take (endN last l)) false else l.take (endN last l)), endN last l) := by
      rw [nextIn, if_neg (by omega)]
    by_cases he : endN last l = 0
    · rw [hin, if_pos he] at hle ⊢
      obtain ⟨e1, e2, e3⟩ := ends_name (endN_zero h0 he) hs
      simp only at hle ⊢
      rw [tagL, e2, e3] at hle ⊢
      cases hg : tagGo ((l.drop 2).length + 1) [] ((l.drop 2).drop last.length) last.length with
      | none =>
        rw [hg] at hle
        exact .inl ⟨rfl, by have := hle.2.2 rfl; exact_mod_cast this⟩
      | some x =>
        obtain ⟨a, b, c⟩ := x
        exact .inr (.inl ⟨rfl, rfl, e1⟩)
    · rw [hin, if_neg he]
      refine .inr (.inr ⟨rfl, fun h2 => ?_⟩)
      simp only [charsT]
      rw [if_neg (by omega)]

set_option maxRecDepth 100000 in
set_option maxHeartbeats 2000000 in
theorem raw_calls (w : World) (s last : ByteArray) (title : Bool) (ht : Tab w) :
    Calls Tryd.prog 6 #[.string s, .bool title, .string last] w fun e w' => e = .returned (.bool true) ∧ Below w.heap.size w w' := by
  have TG := Lib.hid (fun W (h : Tab W) => tags_calls W h)
  have HT := Lib.hid ht
  clear ht
  by_cases h1 : (2000 : Int) < s.size
  · go_enter Tryd.func6, Tryd.ntmps6
    go_wp2_with (go_at_call 11; refine (TG.out _ HT.out).mono ?_; rintro e w1 ⟨rfl, hb1⟩)
    go_ret
    exact ⟨rfl, hb1⟩
  by_cases h2 : (2000 : Int) < last.size
  · go_enter Tryd.func6, Tryd.ntmps6
    go_wp2_with (go_at_call 11; refine (TG.out _ HT.out).mono ?_; rintro e w1 ⟨rfl, hb1⟩)
    go_ret
    exact ⟨rfl, hb1⟩
  have SC := Lib.hid (fun W => space_calls W)
  have hbt := bI_at last
  have hBB : ∀ W, Ch (fun j => w.heap.size ≤ j) w W → Below w.heap.size w W := fun W h => h.toBelow (Nat.le_refl _) (fun i hi e => by omega)
  go_enter Tryd.func6, Tryd.ntmps6
  go_wp2
  go_loopw [7] (fun i wr => ∃ k : Nat, k ≤ last.size ∧ i = .int .i64 k ∧ Below w.heap.size w wr ∧ Hid (∀ j, j < k → stopB (uB last j) = false)) (fun i _ => last.size - (intOf i).toNat)
  case atStart => exact ⟨0, by omega, rfl, Below.refl _ _, Lib.hid (fun j hj => by omega)⟩
  case round =>
    obtain ⟨k, hk, rfl, hB, HN⟩ := hrel
    by_cases hlt : k < last.size
    · have hlt' : (k : Int) < last.size := by omega
      have hr := bI_range last k
      cases e1 : spaceI (bI last k) with
      | true =>
        go_wp2_with (first | (go_at_call 17; refine (SC.out _ _).mono ?_; rintro e w1 ⟨rfl, rfl⟩; rw [e1]) | (go_at_call 11; refine (TG.out _ (HT.out.below hB)).mono ?_; rintro e w1 ⟨rfl, hb1⟩))
        go_ret
        exact ⟨rfl, below_then hB hB.size hb1⟩
      | false =>
        cases e2 : (bI last k == 47) with
        | true =>
          go_wp2_with (first | (go_at_call 17; refine (SC.out _ _).mono ?_; rintro e w1 ⟨rfl, rfl⟩; rw [e1]) | (go_at_call 11; refine (TG.out _ (HT.out.below hB)).mono ?_; rintro e w1 ⟨rfl, hb1⟩))
          go_ret
          exact ⟨rfl, below_then hB hB.size hb1⟩
        | false =>
          cases e3 : (bI last k == 62) with
          | true =>
            go_wp2_with (first | (go_at_call 17; refine (SC.out _ _).mono ?_; rintro e w1 ⟨rfl, rfl⟩; rw [e1]) | (go_at_call 11; refine (TG.out _ (HT.out.below hB)).mono ?_; rintro e w1 ⟨rfl, hb1⟩))
            go_ret
            exact ⟨rfl, below_then hB hB.size hb1⟩
          | false =>
            go_wp2_with (go_at_call 17; refine (SC.out _ _).mono ?_; rintro e w1 ⟨rfl, rfl⟩; rw [e1])
            go_roundw
            case measure => simp [intOf]; omega
            case rel =>
              refine ⟨k + 1, by omega, by go_num, hB, Lib.hid (fun j hj => ?_)⟩
              by_cases ej : j = k
              · subst ej
                show (spaceI (bI last j) || (bI last j == 47 || bI last j == 62)) = false
                rw [e1, e2, e3]
                rfl
              · exact HN.out j (by omega)
    · have hst : ∀ b ∈ last.data.toList, stopB b = false := fun b hb => by
        obtain ⟨j, hj, rfl⟩ := List.mem_iff_getElem.1 hb
        have := HN.out j (by rw [len_toL] at hj; omega)
        rw [uB, List.getD, List.getElem?_eq_getElem hj] at this
        exact this
      have CB : Ch (fun j => w.heap.size ≤ j) w wr := Ch.of_below hB
      clear SC hbt HN
      cases title with
      | true =>
        have hR := raw_plain s.data.toList last.data.toList 1 (by decide) hst
        have NC := Lib.hid (fun W h => next_calls W s last 0 1 false h (by omega) (by omega))
        rw [len_toL] at hR
        generalize nextL s.data.toList 0 1 last.data.toList false = x at NC hR
        obtain ⟨t, n⟩ := x
        simp only at NC hR
        obtain ⟨hn0, hn1, hR⟩ := hR
        obtain ⟨n, rfl⟩ : ∃ m : Nat, n = m := ⟨n.toNat, by omega⟩
        have CM := Lib.hid (CB.alloc (.cells #[.int .i64 1, .string last, .bool false] 23))
        rcases hR with ⟨hk, hn⟩ | ⟨hk, hnm, hne⟩ | ⟨hk, htx⟩
        · have q2 : (t.k == 2) = false := by rw [hk]; rfl
          have q0 : (t.k == 0) = true := by rw [hk]; rfl
          have hn' : (n : Int) = s.size := hn
          clear hk hn
          go_wp2_with (first | (go_at_call 12; refine (NC.out _ (HT.out.below (hBB _ CM.out))).mono ?_; rintro e w5 ⟨v5, rfl, hv5, hb5⟩; obtain ⟨A, c, rfl, hown⟩ := hv5.slice; have C5 := (CM.out.then_below hb5).alloc (.cells #[.int .i64 t.k, .string (mkS t.name), .slice A t.attrs.length c, .bool t.self, .string (mkS t.text)] 27)) | (go_at_call 11; refine (TG.out _ (HT.out.below (hBB _ C5))).mono ?_; rintro e w6 ⟨rfl, hb6⟩))
          go_ret
          exact ⟨rfl, below_then (hBB _ C5) C5.size hb6⟩
        · have q2 : (t.k == 2) = true := by rw [hk]; rfl
          have e1 : mkS t.name = last := by rw [hnm, mkS_of]
          have hne' : (last.toList == []) = false := by rw [ByteArray.toList_eq]; simpa using hne
          clear hk hnm hne
          go_wp2_with (first | (go_at_call 12; refine (NC.out _ (HT.out.below (hBB _ CM.out))).mono ?_; rintro e w5 ⟨v5, rfl, hv5, hb5⟩; obtain ⟨A, c, rfl, hown⟩ := hv5.slice; rw [e1]; have C5 := (CM.out.then_below hb5).alloc (.cells #[.int .i64 t.k, .string last, .slice A t.attrs.length c, .bool t.self, .string (mkS t.text)] 27)) | (go_at_call 11; refine (TG.out _ (HT.out.below (hBB _ C5))).mono ?_; rintro e w6 ⟨rfl, hb6⟩))
          go_ret
          exact ⟨rfl, below_then (hBB _ C5) C5.size hb6⟩
        · have e0 : t.k = 3 := hk
          go_upto_region 16 with (first | (go_at_call 12; refine (NC.out _ (HT.out.below (hBB _ CM.out))).mono ?_; rintro e w5 ⟨v5, rfl, hv5, hb5⟩; obtain ⟨A, c, rfl, hown⟩ := hv5.slice; rw [hk]; have C5 := (CM.out.then_below hb5).alloc (.cells #[.int .i64 3, .string (mkS t.name), .slice A t.attrs.length c, .bool t.self, .string (mkS t.text)] 27)))
          have TG5 := Lib.hid (TG.out _ (HT.out.below (hBB _ C5.drew)))
          refine region_tail 15 (by kernel_rfl) (by kernel_rfl) ?_
          simp only [List.take_succ_cons, List.take_zero, List.drop_succ_cons, List.drop_zero]
          repeat (go_big_quiet_step (fail))
          refine wpQuiet_nil ?_
          go_wp2_with (first | (go_at_call 11; refine TG5.out.mono ?_; rintro e w6 ⟨rfl, hb6⟩))
          go_ret
          exact ⟨rfl, below_then (hBB _ C5.drew) C5.drew.size hb6⟩
      | false =>
        have hR := raw_plain s.data.toList last.data.toList 2 (by decide) hst
        have NC := Lib.hid (fun W h => next_calls W s last 0 2 false h (by omega) (by omega))
        rw [len_toL] at hR
        generalize nextL s.data.toList 0 2 last.data.toList false = x at NC hR
        obtain ⟨t, n⟩ := x
        simp only at NC hR
        obtain ⟨hn0, hn1, hR⟩ := hR
        obtain ⟨n, rfl⟩ : ∃ m : Nat, n = m := ⟨n.toNat, by omega⟩
        have CM := Lib.hid (CB.alloc (.cells #[.int .i64 2, .string last, .bool false] 23))
        rcases hR with ⟨hk, hn⟩ | ⟨hk, hnm, hne⟩ | ⟨hk, htx⟩
        · have q2 : (t.k == 2) = false := by rw [hk]; rfl
          have q0 : (t.k == 0) = true := by rw [hk]; rfl
          have hn' : (n : Int) = s.size := hn
          clear hk hn
          go_wp2_with (first | (go_at_call 12; refine (NC.out _ (HT.out.below (hBB _ CM.out))).mono ?_; rintro e w5 ⟨v5, rfl, hv5, hb5⟩; obtain ⟨A, c, rfl, hown⟩ := hv5.slice; have C5 := (CM.out.then_below hb5).alloc (.cells #[.int .i64 t.k, .string (mkS t.name), .slice A t.attrs.length c, .bool t.self, .string (mkS t.text)] 27)) | (go_at_call 11; refine (TG.out _ (HT.out.below (hBB _ C5))).mono ?_; rintro e w6 ⟨rfl, hb6⟩))
          go_ret
          exact ⟨rfl, below_then (hBB _ C5) C5.size hb6⟩
        · have q2 : (t.k == 2) = true := by rw [hk]; rfl
          have e1 : mkS t.name = last := by rw [hnm, mkS_of]
          have hne' : (last.toList == []) = false := by rw [ByteArray.toList_eq]; simpa using hne
          clear hk hnm hne
          go_wp2_with (first | (go_at_call 12; refine (NC.out _ (HT.out.below (hBB _ CM.out))).mono ?_; rintro e w5 ⟨v5, rfl, hv5, hb5⟩; obtain ⟨A, c, rfl, hown⟩ := hv5.slice; rw [e1]; have C5 := (CM.out.then_below hb5).alloc (.cells #[.int .i64 t.k, .string last, .slice A t.attrs.length c, .bool t.self, .string (mkS t.text)] 27)) | (go_at_call 11; refine (TG.out _ (HT.out.below (hBB _ C5))).mono ?_; rintro e w6 ⟨rfl, hb6⟩))
          go_ret
          exact ⟨rfl, below_then (hBB _ C5) C5.size hb6⟩
        · have e0 : t.k = 3 := hk
          have e1 : mkS t.text = s.extract 0 n := by rw [htx trivial, Int.toNat_natCast, ← mkS_of (s.extract 0 n), toL_extract]; simp
          go_upto_region 16 with (first | (go_at_call 12; refine (NC.out _ (HT.out.below (hBB _ CM.out))).mono ?_; rintro e w5 ⟨v5, rfl, hv5, hb5⟩; obtain ⟨A, c, rfl, hown⟩ := hv5.slice; rw [hk]; rw [e1]; have C5 := (CM.out.then_below hb5).alloc (.cells #[.int .i64 3, .string (mkS t.name), .slice A t.attrs.length c, .bool t.self, .string (s.extract 0 n)] 27)))
          have TG5 := Lib.hid (TG.out _ (HT.out.below (hBB _ C5.drew)))
          refine region_tail 15 (by kernel_rfl) (by kernel_rfl) ?_
          simp only [List.take_succ_cons, List.take_zero, List.drop_succ_cons, List.drop_zero]
          repeat (go_big_quiet_step (fail))
          refine wpQuiet_nil ?_
          go_wp2_with (first | (go_at_call 11; refine TG5.out.mono ?_; rintro e w6 ⟨rfl, hb6⟩))
          go_ret
          exact ⟨rfl, below_then (hBB _ C5.drew) C5.drew.size hb6⟩

end Go.Proofs.YthfkldheflmlmaaDoor
