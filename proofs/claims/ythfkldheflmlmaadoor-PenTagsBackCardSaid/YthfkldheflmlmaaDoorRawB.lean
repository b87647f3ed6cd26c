/- Walk of the law PenRawBack. -/
import Derived.Test.YthfkldheflmlmaaDoorRawB2
namespace Go.Proofs.YthfkldheflmlmaaDoor
open Go.RowKit Go.Sort Go.BigFrame

theorem end_out {w : World} {B : Nat} {l : List UInt8} {v : Value} (h : TokV w B ⟨2, l, [], false, []⟩ v) : ∃ A c, v = .agg #[.int .i64 2, .string (mkS l), .slice A 0 c, .bool false, .string ⟨#[]⟩] := by
  obtain ⟨A, c, e, _⟩ := h.slice
  exact ⟨A, c, e⟩
set_option maxRecDepth 100000 in
set_option maxHeartbeats 4000000 in
theorem raw_back_calls (w : World) (s name behind : ByteArray) (ht : Tab w) :
    Calls Tryd.prog 10 #[.string s, .string name, .string behind] w fun e w' => e = .returned (.bool true) ∧ Below w.heap.size w w' := by
  have LK := Lib.hid (fun W (h : Tab W) => link_calls W h)
  have HT := Lib.hid ht
  clear ht
  by_cases h1 : (1500 : Int) < s.size
  · go_enter Tryd.func10, Tryd.ntmps10
    go_wp2_with (go_at_call 20; refine (LK.out _ HT.out).mono ?_; rintro e w1 ⟨rfl, hb1⟩)
    go_ret
    exact ⟨rfl, hb1⟩
  by_cases h2 : (200 : Int) < name.size
  · go_enter Tryd.func10, Tryd.ntmps10
    go_wp2_with (go_at_call 20; refine (LK.out _ HT.out).mono ?_; rintro e w1 ⟨rfl, hb1⟩)
    go_ret
    exact ⟨rfl, hb1⟩
  by_cases h3 : (500 : Int) < behind.size
  · go_enter Tryd.func10, Tryd.ntmps10
    go_wp2_with (go_at_call 20; refine (LK.out _ HT.out).mono ?_; rintro e w1 ⟨rfl, hb1⟩)
    go_ret
    exact ⟨rfl, hb1⟩
  have RC : Hid (Calls Tryd.prog 25 #[.string s, .string name] w fun e w' => ∃ x y, e = .returned (.tuple #[.string x, .int .i64 y]) ∧ Below w.heap.size w w' ∧
      ((nameL name.data.toList = true ∧ (∀ i, ¬ closeAt (lowL s.data.toList) (patL name.data.toList) i) ∧ x = s ∧ y = 0) ∨ (x = ⟨#[]⟩ ∧ y = 4))) :=
    Lib.hid ((pen_raw_calls w s name HT.out (by omega)).mono fun e w' ⟨r, he, hb, hc⟩ => by
      rcases hc with ⟨c1, c2, rfl⟩ | rfl
      · exact ⟨s, 0, he, hb, .inl ⟨c1, c2, rfl, rfl⟩⟩
      · exact ⟨_, 4, he, hb, .inr ⟨rfl, rfl⟩⟩)
  have OC := fun W => close_calls W name
  go_enter Tryd.func10, Tryd.ntmps10
  go_upto_region 4 with (go_at_call 25; refine RC.out.mono ?_; rintro e w1 ⟨x, y, rfl, hb1, hxy⟩)
  rcases hxy with ⟨hn, hno, rfl, rfl⟩ | ⟨rfl, rfl⟩
  · rw [if_pos hn] at OC
    obtain ⟨c, hc⟩ : ∃ c, c = mkS (closeL name.data.toList) := ⟨_, rfl⟩
    have hcz : c.size ≤ 27 := by
      have := (name_parts hn).2.1
      rw [hc, size_mkS, closeL]
      simp only [List.length_cons, List.length_append, List.length_nil]
      omega
    have hcl : ((closeL name.data.toList).length : Int) = c.size := by rw [hc, size_mkS]
    have hxc : (x ++ c ++ behind).data.toList = x.data.toList ++ (closeL name.data.toList ++ behind.data.toList) := by rw [hc]; simp [ByteArray.data_append, of_mkS]
    have B := raw_back hn hno behind.data.toList
    rw [← hxc, hcl, len_toL] at B
    have hz1 : (x ++ c ++ behind).size = x.size + c.size + behind.size := by rw [ByteArray.size_append, ByteArray.size_append]
    have N1 := fun W h => next_calls W (x ++ c ++ behind) name 0 2 false h (by omega) (by omega)
    rw [B] at N1
    rw [← hc] at OC
    have OC := Lib.hid OC
    have n1 : ¬ 9223372036854775807 < x.size + c.size := by omega
    have n2 : ¬ 9223372036854775807 < x.size + c.size + behind.size := by omega
    have hss : mkS x.data.toList = x := mkS_of x
    have hnn : mkS name.data.toList = name := mkS_of name
    clear hno B hxc hc hz1 hcl hn RC
    go_upto_region 7 with (go_at_call 22; refine (OC.out _).mono ?_; rintro e w2 ⟨rfl, rfl⟩)
    by_cases h0 : x.data.toList = []
    · have he : (x.toList == []) = true := by rw [ByteArray.toList_eq, h0]; rfl
      rw [if_pos h0] at N1
      have N1 := Lib.hid N1
      clear hss h0
      go_upto_region 8 with (go_at_call 12; refine (N1.out _ (HT.out.below hb1)).mono ?_; rintro e w3 ⟨v3, rfl, hv3, hb3⟩; obtain ⟨A3, c3, rfl⟩ := end_out hv3)
      have hb3' := below_then hb1 hb1.size hb3
      have hR3 := blk_new w3 #[.int .i64 2, .string name, .slice A3 0 c3, .bool false, .string ⟨#[]⟩] 27
      have hb4 := hb3'.alloc hb3'.size (.cells #[.int .i64 2, .string name, .slice A3 0 c3, .bool false, .string ⟨#[]⟩] 27)
      have k0 := blk_cell hR3 0
      have k1 := blk_cell hR3 1
      generalize w3.alloc (.cells #[.int .i64 2, .string name, .slice A3 0 c3, .bool false, .string ⟨#[]⟩] 27) = w4 at *
      go_wp2_with (go_at_call 20; refine (LK.out _ (HT.out.below hb4)).mono ?_; rintro e w9 ⟨rfl, hb9⟩)
      go_ret
      exact ⟨rfl, below_then hb4 hb4.size hb9⟩
    · have he : (x.toList == []) = false := by rw [ByteArray.toList_eq]; simpa using h0
      rw [if_neg h0] at N1
      have N1 := Lib.hid N1
      clear hnn h0
      go_upto_region 8 with (go_at_call 12; refine (N1.out _ (HT.out.below hb1)).mono ?_; rintro e w3 ⟨v3, rfl, hv3, hb3⟩; obtain ⟨A3, c3, rfl⟩ := chars_out hv3)
      have hb3' := below_then hb1 hb1.size hb3
      have hR3 := blk_new w3 #[.int .i64 3, .string ⟨#[]⟩, .slice A3 0 c3, .bool false, .string x] 27
      have hb4 := hb3'.alloc hb3'.size (.cells #[.int .i64 3, .string ⟨#[]⟩, .slice A3 0 c3, .bool false, .string x] 27)
      have k0 := blk_cell hR3 0
      have k4 := blk_cell hR3 4
      generalize w3.alloc (.cells #[.int .i64 3, .string ⟨#[]⟩, .slice A3 0 c3, .bool false, .string x] 27) = w4 at *
      go_wp2_with (go_at_call 20; refine (LK.out _ (HT.out.below hb4)).mono ?_; rintro e w9 ⟨rfl, hb9⟩)
      go_ret
      exact ⟨rfl, below_then hb4 hb4.size hb9⟩
  · have OC := Lib.hid OC
    go_wp2_with (first | (go_at_call 22; refine (OC.out _).mono ?_; rintro e w2 ⟨rfl, rfl⟩) | (go_at_call 20; refine (LK.out _ (HT.out.below hb1)).mono ?_; rintro e w3 ⟨rfl, hb3⟩))
    all_goals go_ret
    all_goals exact ⟨rfl, below_then hb1 hb1.size hb3⟩

end Go.Proofs.YthfkldheflmlmaaDoor
