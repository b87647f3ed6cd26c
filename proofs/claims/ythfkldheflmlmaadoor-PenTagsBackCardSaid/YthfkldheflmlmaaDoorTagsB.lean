/- Walk of the law PenTagsBack. -/
import Derived.Test.YthfkldheflmlmaaDoorRawB
import Derived.Test.YthfkldheflmlmaaDoorTagsB2
namespace Go.Proofs.YthfkldheflmlmaaDoor
open Go.RowKit Go.Sort Go.BigFrame

theorem start_out {w : World} {B : Nat} {n : List UInt8} {l : List AttrT} {v : Value} (h : TokV w B ⟨1, n, l, false, []⟩ v) : ∃ A c, v = .agg #[.int .i64 1, .string (mkS n), .slice A l.length c, .bool false, .string ⟨#[]⟩] ∧ AttrsAt w A l := by
  obtain ⟨va, rfl, h⟩ := h
  obtain ⟨A, c, e, _, hat⟩ := own_attrs h
  simp only at e hat
  subst e
  exact ⟨A, c, rfl, hat⟩
theorem openText_len {n : List UInt8} {l : List AttrT} (hn : nameL n = true) (hs : shortL l) : (openText n l).length ≤ 300000 := by
  have h24 := (name_parts hn).2.1
  have hF : ∀ (l : List AttrT), (∀ a ∈ l, a.1.length ≤ 200 ∧ a.2.length ≤ 1000) → (l.flatMap attrText).length ≤ 6300 * l.length := by
    intro l
    induction l with
    | nil => intro _; simp
    | cons a l ih =>
      intro h
      have h1 := h a (by simp)
      have h2 := attrText_len a h1.1 h1.2
      have h3 := ih (fun x hx => h x (by simp [hx]))
      rw [List.flatMap_cons, List.length_append, List.length_cons]
      omega
  have := hF l hs.2
  have h40 := hs.1
  rw [openText]
  simp only [List.length_cons, List.length_append, List.length_nil]
  omega
set_option maxRecDepth 100000 in
set_option maxHeartbeats 4000000 in
theorem tags_back_calls (w : World) (name behind : ByteArray) (A : Option Addr) (c : Nat) (l : List AttrT) (hl : AttrsAt w A l) (ht : Tab w) :
    Calls Tryd.prog 8 #[.string name, .slice A l.length c, .string behind] w fun e w' => e = .returned (.bool true) ∧ Below w.heap.size w w' := by
  have LK := Lib.hid (fun W (h : Tab W) => link_calls W h)
  have HT := Lib.hid ht
  have LG := long_attrs_calls w A c l hl
  have HAT := Lib.hid hl
  by_cases hsh : shortL l
  · have LG : Hid (Calls Tryd.prog 19 #[.slice A l.length c] w fun e w' => e = .returned (.bool false) ∧ Below w.heap.size w w') := Lib.hid (LG.mono fun e w' ⟨b, he, hb, hw⟩ => ⟨by rw [he, hb.2 hsh], hw⟩)
    by_cases h2 : (1000 : Int) < name.size
    · clear ht hl
      go_enter Tryd.func8, Tryd.ntmps8
      go_wp2_with (first | (go_at_call 19; refine LG.out.mono ?_; rintro e w1 ⟨rfl, hb1⟩) | (go_at_call 20; refine (LK.out _ (HT.out.below hb1)).mono ?_; rintro e w2 ⟨rfl, hb2⟩))
      go_ret
      exact ⟨rfl, below_then hb1 hb1.size hb2⟩
    by_cases h3 : (1000 : Int) < behind.size
    · clear ht hl
      go_enter Tryd.func8, Tryd.ntmps8
      go_wp2_with (first | (go_at_call 19; refine LG.out.mono ?_; rintro e w1 ⟨rfl, hb1⟩) | (go_at_call 20; refine (LK.out _ (HT.out.below hb1)).mono ?_; rintro e w2 ⟨rfl, hb2⟩))
      go_ret
      exact ⟨rfl, below_then hb1 hb1.size hb2⟩
    have OC := Lib.hid (fun W h h' => (open_calls W name A c l h h' hsh.1 hsh.2).mono (R' := fun e w' => ∃ x y, e = .returned (.tuple #[.string x, .int .i64 y]) ∧ Below W.heap.size W w' ∧ ((openOK name.data.toList l ∧ x = mkS (openText name.data.toList l) ∧ y = 0) ∨ (y == 0) = false)) fun e w' ⟨r, he, hb, hc⟩ => by
      rcases hc with ⟨c1, rfl⟩ | ⟨_, x, rfl, hx⟩
      · exact ⟨_, 0, he, hb, .inl ⟨c1, rfl, rfl⟩⟩
      · exact ⟨_, x, he, hb, .inr hx⟩)
    have CL := Lib.hid (fun W => close_calls W name)
    clear ht hl
    go_enter Tryd.func8, Tryd.ntmps8
    go_upto_region 4 with (first | (go_at_call 19; refine LG.out.mono ?_; rintro e w1 ⟨rfl, hb1⟩) | (go_at_call 21; refine (OC.out _ (HAT.out.below hb1) (HT.out.below hb1)).mono ?_; rintro e w2 ⟨x, y, rfl, hb2, hxy⟩))
    have hbb2 := below_then hb1 hb1.size hb2
    rcases hxy with ⟨hop, hx, rfl⟩ | hy
    · have hn := hop.1
      obtain ⟨d, hd⟩ : ∃ d, d = mkS (closeL name.data.toList) := ⟨_, rfl⟩
      have hdz : d.size ≤ 27 := by
        have := (name_parts hn).2.1
        rw [hd, size_mkS, closeL]
        simp only [List.length_cons, List.length_append, List.length_nil]
        omega
      have hdl : ((closeL name.data.toList).length : Int) = d.size := by rw [hd, size_mkS]
      have hdd : (d ++ behind).data.toList = closeL name.data.toList ++ behind.data.toList := by rw [hd]; simp [ByteArray.data_append, of_mkS]
      have B2 := close_back hn behind.data.toList
      rw [← hdd, hdl] at B2
      have hdz2 : (d ++ behind).size = d.size + behind.size := ByteArray.size_append
      have N2 := fun W h => next_calls W (d ++ behind) ⟨#[]⟩ 0 0 false h (by omega) (by decide)
      rw [show (⟨#[]⟩ : ByteArray).data.toList = [] from rfl, B2] at N2
      have N2 := Lib.hid N2
      have CD := CL.out
      rw [hn, if_pos rfl, ← hd] at CD
      have CD := Lib.hid CD
      have e2 : ¬ 9223372036854775807 < d.size + behind.size := by omega
      have hnn : mkS name.data.toList = name := mkS_of name
      clear hd hdl hdd B2 hdz2
      have hxz := openText_len hn hsh
      have hxl : ((openText name.data.toList l).length : Int) = x.size := by rw [hx, size_mkS]
      have hxd : (x ++ behind).data.toList = openText name.data.toList l ++ behind.data.toList := by rw [hx]; simp [ByteArray.data_append, of_mkS]
      have hxz2 : (x ++ behind).size = x.size + behind.size := ByteArray.size_append
      have B1 := open_back hop behind.data.toList
      rw [← hxd, hxl] at B1
      have N1 := fun W h => next_calls W (x ++ behind) ⟨#[]⟩ 0 0 false h (by omega) (by decide)
      rw [show (⟨#[]⟩ : ByteArray).data.toList = [] from rfl, B1] at N1
      have N1 := Lib.hid N1
      have e1 : ¬ 9223372036854775807 < x.size + behind.size := by omega
      clear hx hxl hxd hxz2 B1 hop hn LG OC
      go_upto_region 6 with (go_at_call 22; refine (CD.out _).mono ?_; rintro e w3 ⟨rfl, rfl⟩)
      go_upto_region 7 with (go_at_call 12; refine (N1.out _ (HT.out.below hbb2)).mono ?_; rintro e w4 ⟨v4, rfl, hv4, hb4⟩; obtain ⟨A4, c4, rfl, hat4⟩ := start_out hv4)
      have hb4' := below_then hbb2 hbb2.size hb4
      have hR4 := blk_new w4 #[.int .i64 1, .string name, .slice A4 l.length c4, .bool false, .string ⟨#[]⟩] 27
      have hb5' := hb4'.alloc hb4'.size (.cells #[.int .i64 1, .string name, .slice A4 l.length c4, .bool false, .string ⟨#[]⟩] 27)
      have hat5 := hat4.below ((Below.refl w4.heap.size w4).alloc (Nat.le_refl _) (.cells #[.int .i64 1, .string name, .slice A4 l.length c4, .bool false, .string ⟨#[]⟩] 27))
      have k0 := blk_cell hR4 0
      have k1 := blk_cell hR4 1
      have k2 := blk_cell hR4 2
      have k3 := blk_cell hR4 3
      generalize w4.alloc (.cells #[.int .i64 1, .string name, .slice A4 l.length c4, .bool false, .string ⟨#[]⟩] 27) = w5 at *
      have AC := Lib.hid (attrs_same_calls w5 A4 A c4 c l hat5 (HAT.out.below hb5') (by have := hsh.1; omega))
      clear hat4 hat5
      go_upto_region 10 with (go_at_call 23; refine AC.out.mono ?_; rintro e w8 ⟨rfl, hb8⟩; have hb8' := below_then hb5' hb5'.size hb8)
      go_upto_region 11 with (go_at_call 12; refine (N2.out _ (HT.out.below hb8')).mono ?_; rintro e w6 ⟨v6, rfl, hv6, hb6⟩; obtain ⟨A6, c6, rfl⟩ := end_out hv6)
      have hb6' := below_then hb8' hb8'.size hb6
      have hR6 := blk_new w6 #[.int .i64 2, .string name, .slice A6 0 c6, .bool false, .string ⟨#[]⟩] 27
      have hb7' := hb6'.alloc hb6'.size (.cells #[.int .i64 2, .string name, .slice A6 0 c6, .bool false, .string ⟨#[]⟩] 27)
      have m0 := blk_cell hR6 0
      have m1 := blk_cell hR6 1
      generalize w6.alloc (.cells #[.int .i64 2, .string name, .slice A6 0 c6, .bool false, .string ⟨#[]⟩] 27) = w7 at *
      go_wp2_with (go_at_call 20; refine (LK.out _ (HT.out.below hb7')).mono ?_; rintro e w9 ⟨rfl, hb9⟩)
      go_ret
      exact ⟨rfl, below_then hb7' hb7'.size hb9⟩
    · cases hn : nameL name.data.toList with
      | true =>
        obtain ⟨d, hd⟩ : ∃ d, d = mkS (closeL name.data.toList) := ⟨_, rfl⟩
        have hdz : d.size ≤ 27 := by
          have := (name_parts hn).2.1
          rw [hd, size_mkS, closeL]
          simp only [List.length_cons, List.length_append, List.length_nil]
          omega
        have hdl : ((closeL name.data.toList).length : Int) = d.size := by rw [hd, size_mkS]
        have hdd : (d ++ behind).data.toList = closeL name.data.toList ++ behind.data.toList := by rw [hd]; simp [ByteArray.data_append, of_mkS]
        have B2 := close_back hn behind.data.toList
        rw [← hdd, hdl] at B2
        have hdz2 : (d ++ behind).size = d.size + behind.size := ByteArray.size_append
        have N2 := fun W h => next_calls W (d ++ behind) ⟨#[]⟩ 0 0 false h (by omega) (by decide)
        rw [show (⟨#[]⟩ : ByteArray).data.toList = [] from rfl, B2] at N2
        have N2 := Lib.hid N2
        have CD := CL.out
        rw [hn, if_pos rfl, ← hd] at CD
        have CD := Lib.hid CD
        have e2 : ¬ 9223372036854775807 < d.size + behind.size := by omega
        have hnn : mkS name.data.toList = name := mkS_of name
        clear hd hdl hdd B2 hdz2
        clear LG OC hn
        go_upto_region 10 with (go_at_call 22; refine (CD.out _).mono ?_; rintro e w3 ⟨rfl, rfl⟩)
        go_upto_region 11 with (go_at_call 12; refine (N2.out _ (HT.out.below hbb2)).mono ?_; rintro e w6 ⟨v6, rfl, hv6, hb6⟩; obtain ⟨A6, c6, rfl⟩ := end_out hv6)
        have hb6' := below_then hbb2 hbb2.size hb6
        have hR6 := blk_new w6 #[.int .i64 2, .string name, .slice A6 0 c6, .bool false, .string ⟨#[]⟩] 27
        have hb7' := hb6'.alloc hb6'.size (.cells #[.int .i64 2, .string name, .slice A6 0 c6, .bool false, .string ⟨#[]⟩] 27)
        have m0 := blk_cell hR6 0
        have m1 := blk_cell hR6 1
        generalize w6.alloc (.cells #[.int .i64 2, .string name, .slice A6 0 c6, .bool false, .string ⟨#[]⟩] 27) = w7 at *
        go_wp2_with (go_at_call 20; refine (LK.out _ (HT.out.below hb7')).mono ?_; rintro e w9 ⟨rfl, hb9⟩)
        go_ret
        exact ⟨rfl, below_then hb7' hb7'.size hb9⟩
      | false =>
        have CD := CL.out
        rw [hn, if_neg (by simp)] at CD
        have CD := Lib.hid CD
        clear LG OC hn
        go_wp2_with (first | (go_at_call 22; refine (CD.out _).mono ?_; rintro e w3 ⟨rfl, rfl⟩) | (go_at_call 20; refine (LK.out _ (HT.out.below hbb2)).mono ?_; rintro e w9 ⟨rfl, hb9⟩))
        go_ret
        exact ⟨rfl, below_then hbb2 hbb2.size hb9⟩
  · have LG : Hid (Calls Tryd.prog 19 #[.slice A l.length c] w fun e w' => e = .returned (.bool true) ∧ Below w.heap.size w w') := Lib.hid (LG.mono fun e w' ⟨b, he, hb, hw⟩ => ⟨by
      cases b with
      | true => exact he
      | false => exact absurd (hb.1 rfl) hsh, hw⟩)
    clear ht hl
    go_enter Tryd.func8, Tryd.ntmps8
    go_wp2_with (first | (go_at_call 19; refine LG.out.mono ?_; rintro e w1 ⟨rfl, hb1⟩) | (go_at_call 20; refine (LK.out _ (HT.out.below hb1)).mono ?_; rintro e w2 ⟨rfl, hb2⟩))
    go_ret
    exact ⟨rfl, below_then hb1 hb1.size hb2⟩

end Go.Proofs.YthfkldheflmlmaaDoor
