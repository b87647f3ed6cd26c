/- Walk of the law PenCharsBack. -/
import Derived.Test.YthfkldheflmlmaaDoorPenG
namespace Go.Proofs.YthfkldheflmlmaaDoor
open Go.RowKit Go.Sort Go.BigFrame

set_option maxRecDepth 100000 in
set_option maxHeartbeats 4000000 in
theorem chars_back_calls (w : World) (s name : ByteArray) (ht : Tab w) :
    Calls Tryd.prog 9 #[.string s, .string name] w fun e w' => e = .returned (.bool true) ∧ Below w.heap.size w w' := by
  have LK := Lib.hid (fun W (h : Tab W) => link_calls W h)
  have HT := Lib.hid ht
  clear ht
  by_cases h1 : (1500 : Int) < s.size
  · go_enter Tryd.func9, Tryd.ntmps9
    go_wp2_with (go_at_call 20; refine (LK.out _ HT.out).mono ?_; rintro e w1 ⟨rfl, hb1⟩)
    go_ret
    exact ⟨rfl, hb1⟩
  by_cases h2 : (200 : Int) < name.size
  · go_enter Tryd.func9, Tryd.ntmps9
    go_wp2_with (go_at_call 20; refine (LK.out _ HT.out).mono ?_; rintro e w1 ⟨rfl, hb1⟩)
    go_ret
    exact ⟨rfl, hb1⟩
  have CC := pen_chars_calls w s HT.out (by omega)
  have OC := fun W => close_calls W name
  by_cases hg : s.data.toList ≠ [] ∧ goodL s.data.toList = true
  · rw [if_pos hg] at CC
    cases hn : nameL name.data.toList with
    | false =>
      rw [hn] at OC
      simp only [Bool.false_eq_true, if_false] at OC
      have CC := Lib.hid CC
      have OC := Lib.hid OC
      clear hg hn
      go_enter Tryd.func9, Tryd.ntmps9
      go_wp2_with (first | (go_at_call 24; refine CC.out.mono ?_; rintro e w1 ⟨rfl, hb1⟩) | (go_at_call 22; refine (OC.out _).mono ?_; rintro e w2 ⟨rfl, rfl⟩) | (go_at_call 20; refine (LK.out _ (HT.out.below hb1)).mono ?_; rintro e w3 ⟨rfl, hb3⟩))
      go_ret
      exact ⟨rfl, below_then hb1 hb1.size hb3⟩
    | true =>
      rw [hn] at OC
      simp only [if_true] at OC
      obtain ⟨x, hx⟩ : ∃ x, x = mkS (escB false s.data.toList) := ⟨_, rfl⟩
      obtain ⟨c, hc⟩ : ∃ c, c = mkS (closeL name.data.toList) := ⟨_, rfl⟩
      have hxz : x.size ≤ 9000 := by
        have := escB_len false _ s.data.toList (Nat.le_refl _)
        rw [len_toL] at this
        rw [hx, size_mkS]; omega
      have hcz : c.size ≤ 27 := by
        have := (name_parts hn).2.1
        rw [hc, size_mkS, closeL]
        simp only [List.length_cons, List.length_append, List.length_nil]
        omega
      have hxc : (x ++ c).data.toList = escB false s.data.toList ++ closeL name.data.toList := by rw [hx, hc]; simp [ByteArray.data_append, of_mkS]
      have hxl : (((escB false s.data.toList).length : Nat) : Int) = x.size := by rw [hx, size_mkS]
      have B1 := chars_back s.data.toList (closeL name.data.toList) hg.1 hg.2 (.inl ⟨by have := close_stop (n := name.data.toList) []; rwa [List.append_nil] at this, by simp [closeL]⟩)
      have B2 := chars_back s.data.toList [] hg.1 hg.2 (.inr rfl)
      have B3 := title_back s.data.toList name.data.toList hg.1 hg.2 hn []
      rw [List.append_nil] at B2 B3
      rw [hxl] at B1 B2 B3
      rw [← hxc] at B1 B3
      have hxd : x.data.toList = escB false s.data.toList := by rw [hx, of_mkS]
      rw [← hxd] at B2
      have hxcz : (x ++ c).size = x.size + c.size := ByteArray.size_append
      have N1 := fun W h => next_calls W (x ++ c) ⟨#[]⟩ 0 0 false h (by omega) (by decide)
      have N2 := fun W h => next_calls W x ⟨#[]⟩ 0 0 false h (by omega) (by decide)
      have N3 := fun W h => next_calls W (x ++ c) name 0 1 false h (by omega) (by omega)
      rw [show (⟨#[]⟩ : ByteArray).data.toList = [] from rfl] at N1 N2
      rw [B1] at N1
      rw [B2] at N2
      rw [B3] at N3
      rw [← hx] at CC
      rw [← hc] at OC
      have n1 : ¬ 9223372036854775807 < x.size + c.size := by omega
      have hss : mkS s.data.toList = s := mkS_of s
      have CC := Lib.hid CC
      have OC := Lib.hid OC
      have N1 := Lib.hid N1
      have N2 := Lib.hid N2
      have N3 := Lib.hid N3
      clear hg hn hx hc hxc hxl B1 B2 B3 hxd hxcz
      go_enter Tryd.func9, Tryd.ntmps9
      go_upto_region 4 with (go_at_call 24; refine CC.out.mono ?_; rintro e w1 ⟨rfl, hb1⟩)
      go_upto_region 7 with (go_at_call 22; refine (OC.out _).mono ?_; rintro e w2 ⟨rfl, rfl⟩)
      go_upto_region 8 with (go_at_call 12; refine (N1.out _ (HT.out.below hb1)).mono ?_; rintro e w3 ⟨v3, rfl, hv3, hb3⟩; obtain ⟨A3, c3, rfl⟩ := chars_out hv3)
      have hb3' := below_then hb1 hb1.size hb3
      have hR3 := blk_new w3 #[.int .i64 3, .string ⟨#[]⟩, .slice A3 0 c3, .bool false, .string s] 27
      go_upto_region 9 with (go_at_call 12; refine (N2.out _ (HT.out.below (hb3'.alloc hb3'.size _))).mono ?_; rintro e w5 ⟨v5, rfl, hv5, hb5⟩; obtain ⟨A5, c5, rfl⟩ := chars_out hv5)
      have hb5' := below_then (hb3'.alloc hb3'.size _) (hb3'.alloc hb3'.size _).size hb5
      have hR5 := blk_new w5 #[.int .i64 3, .string ⟨#[]⟩, .slice A5 0 c5, .bool false, .string s] 27
      have hS5 := blk_alloc (blk_below hR3 hb5) (.cells #[.int .i64 3, .string ⟨#[]⟩, .slice A5 0 c5, .bool false, .string s] 27)
      go_upto_region 10 with (go_at_call 12; refine (N3.out _ (HT.out.below (hb5'.alloc hb5'.size _))).mono ?_; rintro e w7 ⟨v7, rfl, hv7, hb7⟩; obtain ⟨A7, c7, rfl⟩ := chars_out hv7)
      have hb7' := below_then (hb5'.alloc hb5'.size _) (hb5'.alloc hb5'.size _).size hb7
      have hR7 := blk_new w7 #[.int .i64 3, .string ⟨#[]⟩, .slice A7 0 c7, .bool false, .string s] 27
      have hS7 := blk_alloc (blk_below hR5 hb7) (.cells #[.int .i64 3, .string ⟨#[]⟩, .slice A7 0 c7, .bool false, .string s] 27)
      have hT7 := blk_alloc (blk_below hS5 hb7) (.cells #[.int .i64 3, .string ⟨#[]⟩, .slice A7 0 c7, .bool false, .string s] 27)
      have hb8' := hb7'.alloc hb7'.size (.cells #[.int .i64 3, .string ⟨#[]⟩, .slice A7 0 c7, .bool false, .string s] 27)
      have k0 := blk_cell hT7 0
      have k4 := blk_cell hT7 4
      have m4 := blk_cell hS7 4
      have p0 := blk_cell hR7 0
      have p4 := blk_cell hR7 4
      generalize w7.alloc (.cells #[.int .i64 3, .string ⟨#[]⟩, .slice A7 0 c7, .bool false, .string s] 27) = w8 at *
      go_wp2_with (go_at_call 20; refine (LK.out _ (HT.out.below hb8')).mono ?_; rintro e w9 ⟨rfl, hb9⟩)
      go_ret
      exact ⟨rfl, below_then hb8' hb8'.size hb9⟩
  · rw [if_neg hg] at CC
    have CC := Lib.hid CC
    have OC := Lib.hid OC
    go_enter Tryd.func9, Tryd.ntmps9
    go_wp2_with (first | (go_at_call 24; refine CC.out.mono ?_; rintro e w1 ⟨rfl, hb1⟩) | (go_at_call 22; refine (OC.out _).mono ?_; rintro e w2 ⟨rfl, rfl⟩) | (go_at_call 20; refine (LK.out _ (HT.out.below hb1)).mono ?_; rintro e w3 ⟨rfl, hb3⟩))
    all_goals go_ret
    all_goals exact ⟨rfl, below_then hb1 hb1.size hb3⟩

end Go.Proofs.YthfkldheflmlmaaDoor
