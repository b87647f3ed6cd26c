/- The law ToksNext: the program's next token is the reference's; its walk. -/
import Derived.Test.YthfkldheflmlmaaDoorRefY
import Derived.Test.YthfkldheflmlmaaDoorSame
import Derived.Test.YthfkldheflmlmaaDoorTags
import Derived.Test.YthfkldheflmlmaaDoorAttrsN
namespace Go.Proofs.YthfkldheflmlmaaDoor
open Go.RowKit Go.Lib

set_option maxRecDepth 100000 in
set_option maxHeartbeats 4000000 in
theorem next_law_calls (w : World) (s last : ByteArray) (p mk : Int) (cd : Bool) (ht : Tab w) :
    Calls Tryd.prog 3 #[.string s, .int .i64 p, .agg #[.int .i64 mk, .string last, .bool cd]] w fun e w' => e = .returned (.bool true) ∧ Below w.heap.size w w' := by
  have TG := Lib.hid (fun W (h : Tab W) => tags_calls W h)
  have HT := Lib.hid ht
  clear ht
  have hb0 : Below w.heap.size w (w.alloc (.cells #[.int .i64 mk, .string last, .bool cd] 23)) := (Below.refl _ _).alloc (Nat.le_refl _) _
  by_cases h1 : (2000 : Int) < s.size
  · go_enter Tryd.func3, Tryd.ntmps3
    go_wp2_with (go_at_call 11; refine (TG.out _ (HT.out.below hb0)).mono ?_; rintro e w1 ⟨rfl, hb1⟩)
    go_ret
    exact ⟨rfl, below_then hb0 hb0.size hb1⟩
  by_cases h2 : (2000 : Int) < last.size
  · go_enter Tryd.func3, Tryd.ntmps3
    go_wp2_with (go_at_call 11; refine (TG.out _ (HT.out.below hb0)).mono ?_; rintro e w1 ⟨rfl, hb1⟩)
    go_ret
    exact ⟨rfl, below_then hb0 hb0.size hb1⟩
  have NC := Lib.hid (fun W h => next_calls W s last p mk cd h (by omega) (by omega))
  have RC := Lib.hid (fun W => rnextR_calls W s last p mk cd (by omega) (by omega))
  obtain ⟨x, hx⟩ : ∃ x, nextL s.data.toList p mk last.data.toList cd = x := ⟨_, rfl⟩
  rw [hx] at NC RC
  obtain ⟨t, n'⟩ := x
  have hlen : t.attrs.length ≤ 1000000 := by
    have := nextL_attrs s.data.toList p mk last.data.toList cd
    rw [hx, len_toL] at this
    simp only at this
    omega
  clear hx
  simp only at NC RC
  have hM := blk_new w #[.int .i64 mk, .string last, .bool cd] 23
  go_enter Tryd.func3, Tryd.ntmps3
  go_upto_region 1 with fail
  generalize w.alloc (.cells #[.int .i64 mk, .string last, .bool cd] 23) = w0 at *
  have m0 := blk_cell hM 0
  have m1 := blk_cell hM 1
  have m2 := blk_cell hM 2
  go_upto_region 4 with (go_at_call 12; refine (NC.out _ (HT.out.below hb0)).mono ?_; rintro e w5 ⟨v5, rfl, hv5, hb5⟩; obtain ⟨A, c, rfl, hown⟩ := hv5.slice; have hba : Below w5.heap.size w5 (w5.alloc (.cells #[.int .i64 t.k, .string (mkS t.name), .slice A t.attrs.length c, .bool t.self, .string (mkS t.text)] 27)) := (Below.refl _ _).alloc (Nat.le_refl _) _; have hM6 := blk_alloc ((hb5.block _ (blk_lt hM)).trans hM) (.cells #[.int .i64 t.k, .string (mkS t.name), .slice A t.attrs.length c, .bool t.self, .string (mkS t.text)] 27); have hT6 := blk_new w5 #[.int .i64 t.k, .string (mkS t.name), .slice A t.attrs.length c, .bool t.self, .string (mkS t.text)] 27; have hB6 := below_then (below_then hb0 hb0.size hb5) (below_then hb0 hb0.size hb5).size hba; have hown6 := own_keep hown (Ch.of_below (O := fun _ => False) hba) (fun _ _ _ e => e); clear hv5 hown hba hb5)
  generalize w5.alloc (.cells #[.int .i64 t.k, .string (mkS t.name), .slice A t.attrs.length c, .bool t.self, .string (mkS t.text)] 27) = w6 at *
  generalize w5.heap.size = X at *
  clear m0 m1 m2 hM hb0 NC
  have m0 := blk_cell hM6 0
  have m1 := blk_cell hM6 1
  have m2 := blk_cell hM6 2
  have lm := blk_lt hM6
  have HB6 := Lib.hid hB6
  have HOWN := Lib.hid hown6
  have HT6 := Lib.hid hT6
  clear hM6 hB6 hown6 hT6
  go_upto_region 5 with (go_at_call 13; refine (RC.out _).mono ?_; rintro e w7 ⟨v7, n, rfl, hn, hv7, hb7⟩; obtain ⟨A', c', rfl, hown7⟩ := hv7.slice; have hba : Below w7.heap.size w7 (w7.alloc (.cells #[.int .i64 t.k, .string (mkS t.name), .slice A' t.attrs.length c', .bool t.self, .string (mkS t.text), .int .i64 (n : Int)] 32)) := (Below.refl _ _).alloc (Nat.le_refl _) _; have hT8 := blk_alloc ((hb7.block _ (blk_lt HT6.out)).trans HT6.out) (.cells #[.int .i64 t.k, .string (mkS t.name), .slice A' t.attrs.length c', .bool t.self, .string (mkS t.text), .int .i64 (n : Int)] 32); have hG8 := blk_new w7 #[.int .i64 t.k, .string (mkS t.name), .slice A' t.attrs.length c', .bool t.self, .string (mkS t.text), .int .i64 (n : Int)] 32; have hB8 := below_then (below_then HB6.out HB6.out.size hb7) (below_then HB6.out HB6.out.size hb7).size hba; have hown8 := own_keep hown7 (Ch.of_below (O := fun _ => False) hba) (fun _ _ _ e => e); have hownA := own_keep (own_keep HOWN.out (Ch.of_below (O := fun _ => False) hb7) (fun _ _ _ e => e)) (Ch.of_below (O := fun _ => False) hba) (fun _ _ _ e => e); clear hv7 hown7 hba hb7)
  generalize w7.alloc (.cells #[.int .i64 t.k, .string (mkS t.name), .slice A' t.attrs.length c', .bool t.self, .string (mkS t.text), .int .i64 (n : Int)] 32) = w8 at *
  generalize w7.heap.size = Y at *
  subst hn
  clear m0 m1 m2 lm HT6 RC HOWN HB6
  have hatA : AttrsAt w8 A t.attrs := by obtain ⟨A1, c1, h, _, h3⟩ := own_attrs hownA; cases h; exact h3
  have hatB : AttrsAt w8 A' t.attrs := by obtain ⟨A1, c1, h, _, h3⟩ := own_attrs hown8; cases h; exact h3
  have SC := Lib.hid (fun W h h' => same_calls W t t A A' c c' h h' hlen hlen)
  rw [sameT_refl] at SC
  have t0 := blk_cell hT8 0
  have t1 := blk_cell hT8 1
  have t2 := blk_cell hT8 2
  have t3 := blk_cell hT8 3
  have t4 := blk_cell hT8 4
  have g0 := blk_cell hG8 0
  have g1 := blk_cell hG8 1
  have g2 := blk_cell hG8 2
  have g3 := blk_cell hG8 3
  have g4 := blk_cell hG8 4
  have g5 := blk_cell hG8 5
  have lt8 := blk_lt hT8
  have lg8 := blk_lt hG8
  have HG8 := Lib.hid hG8
  have HB8 := Lib.hid hB8
  have HA := Lib.hid hatA
  have HA' := Lib.hid hatB
  clear hT8 hG8 hB8 hown8 hownA hatA hatB
  go_wp2_with (first | (go_at_call 14; refine (SC.out _ HA.out HA'.out).mono ?_; rintro e w9 ⟨rfl, hb9⟩; have g95 := blk_cell ((hb9.block _ (blk_lt HG8.out)).trans HG8.out) 5; have lg9 := blk_lt ((hb9.block _ (blk_lt HG8.out)).trans HG8.out)) | (go_at_call 11; refine (TG.out _ (HT.out.below (below_then HB8.out HB8.out.size hb9))).mono ?_; rintro e w10 ⟨rfl, hb10⟩))
  go_ret
  exact ⟨rfl, below_then (below_then HB8.out HB8.out.size hb9) (below_then HB8.out HB8.out.size hb9).size hb10⟩

end Go.Proofs.YthfkldheflmlmaaDoor
