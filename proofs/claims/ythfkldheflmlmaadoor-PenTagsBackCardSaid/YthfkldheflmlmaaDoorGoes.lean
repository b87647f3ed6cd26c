/- Walk of the law ToksGoes. -/
import Derived.Test.YthfkldheflmlmaaDoorTags
namespace Go.Proofs.YthfkldheflmlmaaDoor
open Go.RowKit

theorem goes_plain (l : List UInt8) (p mk : Int) (last : List UInt8) (cd : Bool) : ((p < 0 ∨ (l.length : Int) ≤ p) → (nextL l p mk last cd).1.k = 0 ∧ (nextL l p mk last cd).2 = l.length) ∧
    (0 ≤ p → p < l.length → p < (nextL l p mk last cd).2 ∧ (nextL l p mk last cd).2 ≤ l.length ∧ ((nextL l p mk last cd).1.k = 0 → (nextL l p mk last cd).2 = l.length)) := by
  refine ⟨fun h => ?_, fun h0 h1 => ?_⟩
  · rw [nextL, if_pos h]
    exact ⟨rfl, rfl⟩
  · rw [nextL, if_neg (by omega)]
    have h := nextIn_le (l.drop p.toNat) mk last cd (by rw [List.length_drop]; omega)
    rw [List.length_drop] at h
    refine ⟨by simp only; omega, by simp only; omega, fun hk => ?_⟩
    have := h.2.2 hk
    simp only
    omega

set_option maxRecDepth 100000 in
set_option maxHeartbeats 2000000 in
theorem goes_calls (w : World) (s last : ByteArray) (p mk : Int) (cd : Bool) (ht : Tab w) :
    Calls Tryd.prog 4 #[.string s, .int .i64 p, .agg #[.int .i64 mk, .string last, .bool cd]] w fun e w' => e = .returned (.bool true) ∧ Below w.heap.size w w' := by
  have TG := Lib.hid (fun W (h : Tab W) => tags_calls W h)
  have HT := Lib.hid ht
  clear ht
  have hb0 : Below w.heap.size w (w.alloc (.cells #[.int .i64 mk, .string last, .bool cd] 23)) := (Below.refl _ _).alloc (Nat.le_refl _) _
  have hz0 : w.heap.size ≤ (w.alloc (.cells #[.int .i64 mk, .string last, .bool cd] 23)).heap.size := by simp
  by_cases h1 : (2000 : Int) < s.size
  · go_enter Tryd.func4, Tryd.ntmps4
    go_wp2_with (go_at_call 11; refine (TG.out _ (HT.out.below hb0)).mono ?_; rintro e w1 ⟨rfl, hb1⟩)
    go_ret
    exact ⟨rfl, below_then hb0 hz0 hb1⟩
  by_cases h2 : (2000 : Int) < last.size
  · go_enter Tryd.func4, Tryd.ntmps4
    go_wp2_with (go_at_call 11; refine (TG.out _ (HT.out.below hb0)).mono ?_; rintro e w1 ⟨rfl, hb1⟩)
    go_ret
    exact ⟨rfl, below_then hb0 hz0 hb1⟩
  have NC := Lib.hid (fun W h => next_calls W s last p mk cd h (by omega) (by omega))
  have hG := goes_plain s.data.toList p mk last.data.toList cd
  rw [len_toL] at hG
  obtain ⟨x, hx⟩ : ∃ x, nextL s.data.toList p mk last.data.toList cd = x := ⟨_, rfl⟩
  rw [hx] at NC hG
  obtain ⟨t, n⟩ := x
  clear hx
  simp only at hG NC
  have key : ∀ W, Below w.heap.size w W → Tab W := fun W h => HT.out.below h
  have hbR : ∀ (t : TokM) (A : Option Addr) (c : Nat) (w5 : World), Below (w.alloc (.cells #[.int .i64 mk, .string last, .bool cd] 23)).heap.size (w.alloc (.cells #[.int .i64 mk, .string last, .bool cd] 23)) w5 →
      Below w.heap.size w (w5.alloc (.cells #[.int .i64 t.k, .string (mkS t.name), .slice A t.attrs.length c, .bool t.self, .string (mkS t.text)] 27)) := fun t A c w5 h =>
    below_then (below_then hb0 hz0 h) (Nat.le_trans hz0 h.size) ((Below.refl _ _).alloc (Nat.le_refl _) _)
  by_cases hp : p < 0 ∨ (s.size : Int) ≤ p
  · obtain ⟨hk, rfl⟩ := hG.1 hp
    have hk0 : (t.k == 0) = true := by rw [hk]; rfl
    clear hk hG
    rcases hp with hp | hp
    · go_enter Tryd.func4, Tryd.ntmps4
      go_wp2_with (first | (go_at_call 12; refine (NC.out _ (HT.out.below hb0)).mono ?_; rintro e w5 ⟨v5, rfl, hv5, hb5⟩; obtain ⟨A, c, rfl, hown⟩ := hv5.slice) | (go_at_call 11; refine (TG.out _ (HT.out.below (hbR t A c w5 hb5))).mono ?_; rintro e w6 ⟨rfl, hb6⟩))
      go_ret
      exact ⟨rfl, below_then (hbR t A c w5 hb5) (hbR t A c w5 hb5).size hb6⟩
    · have hp0 : 0 ≤ p := by omega
      go_enter Tryd.func4, Tryd.ntmps4
      go_wp2_with (first | (go_at_call 12; refine (NC.out _ (HT.out.below hb0)).mono ?_; rintro e w5 ⟨v5, rfl, hv5, hb5⟩; obtain ⟨A, c, rfl, hown⟩ := hv5.slice) | (go_at_call 11; refine (TG.out _ (HT.out.below (hbR t A c w5 hb5))).mono ?_; rintro e w6 ⟨rfl, hb6⟩))
      go_ret
      exact ⟨rfl, below_then (hbR t A c w5 hb5) (hbR t A c w5 hb5).size hb6⟩
  · obtain ⟨hn, hle, hk⟩ := hG.2 (by omega) (by omega)
    clear hG
    have hp1 : 0 ≤ p := by omega
    have hp2 : p < s.size := by omega
    cases hk0 : (t.k != 0) with
    | true =>
      go_enter Tryd.func4, Tryd.ntmps4
      go_wp2_with (first | (go_at_call 12; refine (NC.out _ (HT.out.below hb0)).mono ?_; rintro e w5 ⟨v5, rfl, hv5, hb5⟩; obtain ⟨A, c, rfl, hown⟩ := hv5.slice) | (go_at_call 11; refine (TG.out _ (HT.out.below (hbR t A c w5 hb5))).mono ?_; rintro e w6 ⟨rfl, hb6⟩))
      go_ret
      exact ⟨rfl, below_then (hbR t A c w5 hb5) (hbR t A c w5 hb5).size hb6⟩
    | false =>
      have hk1 : t.k = 0 := by simpa using hk0
      obtain rfl := hk hk1
      clear hk hk1
      go_enter Tryd.func4, Tryd.ntmps4
      go_wp2_with (first | (go_at_call 12; refine (NC.out _ (HT.out.below hb0)).mono ?_; rintro e w5 ⟨v5, rfl, hv5, hb5⟩; obtain ⟨A, c, rfl, hown⟩ := hv5.slice) | (go_at_call 11; refine (TG.out _ (HT.out.below (hbR t A c w5 hb5))).mono ?_; rintro e w6 ⟨rfl, hb6⟩))
      go_ret
      exact ⟨rfl, below_then (hbR t A c w5 hb5) (hbR t A c w5 hb5).size hb6⟩

end Go.Proofs.YthfkldheflmlmaaDoor
