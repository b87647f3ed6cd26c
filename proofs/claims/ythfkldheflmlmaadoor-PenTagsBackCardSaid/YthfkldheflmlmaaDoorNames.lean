/- Walk of the law ToksNames. -/
import Derived.Test.YthfkldheflmlmaaDoorGoes
import Derived.Test.YthfkldheflmlmaaDoorNamesL
import Derived.Lib.QuietBelow
import Derived.BigQuiet
namespace Go.Proofs.YthfkldheflmlmaaDoor
open Go.RowKit Go.Sort Go.BigFrame

theorem add_five (ad : Addr) (j f : Nat) : ad.add (j * 5 + (f + 1)) = ⟨(ad.add (j * 5)).block, (ad.add (j * 5)).off + (f + 1), none⟩ := by
  unfold Addr.add
  by_cases h : j = 0
  · subst h; simp
  · rw [if_neg (by omega), if_neg (by omega)]
    simp [Nat.add_assoc]
theorem tokCells_at : ∀ (l : List (TokM × Value)) (j f : Nat) (t : TokM × Value), l[j]? = some t → f < 5 →
    (tokCells l)[j * 5 + f]? = ([.int .i64 t.1.k, .string (mkS t.1.name), t.2, .bool t.1.self, .string (mkS t.1.text)] : List Value)[f]?
  | [], j, f, t, h, _ => by simp at h
  | x :: l, 0, f, t, h, hf => by
    simp only [List.getElem?_cons_zero, Option.some.injEq] at h
    subst h
    rw [tokCells, List.flatMap_cons, List.getElem?_append_left (by simp; omega)]
    simp
  | x :: l, j + 1, f, t, h, hf => by
    have ih := tokCells_at l j f t (by simpa using h) hf
    rw [tokCells, List.flatMap_cons, List.getElem?_append_right (by simp; omega)]
    rw [← ih, tokCells]
    congr 1
    simp
    omega
theorem ToksOwn.row {w : World} {B : Nat} {v : Value} {l : List (TokM × Value)} (h : ToksOwn w B v l) : ∃ A c, v = .slice A l.length c ∧ l.length ≤ c ∧ ∀ j t, l[j]? = some t → ∃ ad, A = some ad ∧
    w.cell? (ad.add (j * 5)) = some (.int .i64 t.1.k) ∧ w.cell? ⟨(ad.add (j * 5)).block, (ad.add (j * 5)).off + 1, none⟩ = some (.string (mkS t.1.name)) ∧ w.cell? ⟨(ad.add (j * 5)).block, (ad.add (j * 5)).off + 2, none⟩ = some t.2 ∧
    w.cell? ⟨(ad.add (j * 5)).block, (ad.add (j * 5)).off + 3, none⟩ = some (.bool t.1.self) ∧ w.cell? ⟨(ad.add (j * 5)).block, (ad.add (j * 5)).off + 4, none⟩ = some (.string (mkS t.1.text)) := by
  have h := h.1
  rcases h.2 with ⟨rfl, h0⟩ | ⟨g, cap, cur, rfl, _, _, hle, _⟩
  · refine ⟨none, 0, by rw [h0], by omega, fun j t hj => ?_⟩
    have := (List.getElem?_eq_some_iff.1 hj).1
    omega
  · refine ⟨_, cap, rfl, hle, fun j t hj => ⟨_, rfl, ?_⟩⟩
    have hc := fun f u => h.cells (g := g) rfl (j * 5 + f) u
    refine ⟨hc 0 _ (tokCells_at l j 0 t hj (by decide)), ?_, ?_, ?_, ?_⟩
    · rw [← add_five]; exact hc 1 _ (tokCells_at l j 1 t hj (by decide))
    · rw [← add_five]; exact hc 2 _ (tokCells_at l j 2 t hj (by decide))
    · rw [← add_five]; exact hc 3 _ (tokCells_at l j 3 t hj (by decide))
    · rw [← add_five]; exact hc 4 _ (tokCells_at l j 4 t hj (by decide))

theorem own_short {w : World} {B n : Nat} {e : TypeId} {size : Nat} {v : Value} {xs : List Value} (h : w.ownsRow B e size v n xs) : n ≤ maxLen := by
  rcases h.2 with ⟨_, h0⟩ | ⟨g, cap, cur, _, _, _, hle, hcm, _⟩
  · rw [h0]; exact Nat.zero_le _
  · omega
set_option maxRecDepth 100000 in
set_option maxHeartbeats 4000000 in
theorem names_calls (w : World) (s : ByteArray) (ht : Tab w) :
    Calls Tryd.prog 5 #[.string s] w fun e w' => e = .returned (.bool true) ∧ Below w.heap.size w w' := by
  have TG := Lib.hid (fun W (h : Tab W) => tags_calls W h)
  have HT := Lib.hid ht
  by_cases h1 : (2000 : Int) < s.size
  · clear ht
    go_enter Tryd.func5, Tryd.ntmps5
    go_wp2_with (go_at_call 11; refine (TG.out _ HT.out).mono ?_; rintro e w1 ⟨rfl, hb1⟩)
    go_ret
    exact ⟨rfl, hb1⟩
  have AC := Lib.hid (all_tokens_calls w s ht (by omega))
  clear ht
  have LC := Lib.hid (fun W x h => lower_calls W x h)
  go_enter Tryd.func5, Tryd.ntmps5
  go_wp2_with (go_at_call 15; refine AC.out.mono ?_; rintro e w1 ⟨v, l, rfl, hO, hl, hb1⟩; obtain ⟨A, c, rfl, hlc, hrow⟩ := hO.row)
  clear AC
  have hok : ∀ t ∈ l, NameOK s.data.toList.length t.1 := fun t h => toksL_ok s.data.toList t.1 (by rw [← hl]; exact List.mem_map.2 ⟨t, h, rfl⟩)
  have hlen : l.length ≤ 2000 := by
    have := toksL_len s.data.toList
    rw [← hl, List.length_map, len_toL] at this
    omega
  have HOK := Lib.hid hok
  have HROW := Lib.hid hrow
  have HO := Lib.hid hO
  clear hl hO hrow hok
  go_loopw [16] (fun i wr => ∃ k : Nat, k ≤ l.length ∧ i = .int .i64 k ∧ Below w1.heap.size w1 wr) (fun i _ => l.length - (intOf i).toNat)
  case atStart => exact ⟨0, by omega, rfl, Below.refl _ _⟩
  case round =>
    obtain ⟨k, hk, rfl, hB⟩ := hrel
    by_cases hlt : k < l.length
    · obtain ⟨x, hx⟩ : ∃ x, l[k]? = some x := ⟨_, List.getElem?_eq_getElem hlt⟩
      have hmem : x ∈ l := List.mem_of_getElem? hx
      obtain ⟨ad, rfl, d0, d1, d2, d3, d4⟩ := HROW.out k x hx
      obtain ⟨⟨hn1, hnz⟩, hn2, hn3, hn4⟩ := HOK.out x hmem
      rw [len_toL] at hnz
      obtain ⟨A2, c2, ev, hle2, hat⟩ := own_attrs (HO.out.2 x hmem)
      have hshort := own_short (HO.out.2 x hmem)
      unfold maxLen at hshort
      obtain ⟨t, va⟩ := x
      simp only at ev hle2 hat d0 d1 d2 d3 d4 hn1 hn2 hn3 hn4 hnz hshort
      subst ev
      have keep : ∀ {a : Addr} {u : Value}, w1.cell? a = some u → wr.cell? a = some u := fun {a u} h => (hB.cell (World.block_lt_of_cell? w1 _ h)).trans h
      replace d0 := keep d0
      replace d1 := keep d1
      replace d2 := keep d2
      replace d3 := keep d3
      replace d4 := keep d4
      have hat2 := hat.below hB
      clear keep hat hx hmem
      obtain ⟨tk, tn, ta, ts, tt⟩ := t
      simp only at d0 d1 d2 d3 d4 hn1 hn2 hn3 hn4 hle2 hat2 hnz hshort ⊢
      go_upto_region 6 with fail
      have hR := blk_new wr #[.int .i64 tk, .string (mkS tn), .slice A2 ta.length c2, .bool ts, .string (mkS tt)] 27
      have LC6 := (fun W => LC.out W (mkS tn) (by rw [size_mkS]; omega))
      rw [of_mkS, hn1] at LC6
      have LC6 := Lib.hid LC6
      go_cut [50] from 20 to 51 (fun c wx => c = .bool false ∧ Below wr.heap.size wr wx ∧ wx.heap[wr.heap.size]? = some (.cells #[.int .i64 tk, .string (mkS tn), .slice A2 ta.length c2, .bool ts, .string (mkS tt)] 27 (0, 0)))
      case first =>
        by_cases hk2 : tk = 2
        · obtain ⟨ea, es⟩ := hn2 hk2
          subst hk2
          subst es
          subst ea
          obtain ⟨w5, hw5⟩ : ∃ w5, w5 = wr.alloc (.cells #[.int .i64 2, .string (mkS tn), .slice A2 ([] : List AttrT).length c2, .bool false, .string (mkS tt)] 27) := ⟨_, rfl⟩
          have hb5 : Below wr.heap.size wr w5 := by rw [hw5]; exact (Below.refl _ _).alloc (Nat.le_refl _) _
          rw [← hw5] at hR ⊢
          clear hw5
          have r0 := blk_cell hR 0
          have r1 := blk_cell hR 1
          have r2 := blk_cell hR 2
          have r3 := blk_cell hR 3
          have r4 := blk_cell hR 4
          have rf0 := blk_frozen hR 0
          have rf1 := blk_frozen hR 1
          have rf2 := blk_frozen hR 2
          have rf3 := blk_frozen hR 3
          have rf4 := blk_frozen hR 4
          have gr0 := cell_regrown r0
          have gr1 := cell_regrown r1
          have gr2 := cell_regrown r2
          have gr3 := cell_regrown r3
          have cL : ∀ d os, Calls Tryd.prog 16 #[.string (mkS tn)] (grow (redrawn w5 d) os) fun e w'' => e = .returned (.string (mkS tn)) ∧ ∃ p : Regrown, w'' = grow (redrawn w5 p.d) p.os := fun d os => Calls.regrown_of (LC6.out _)
          refine wp_region_quiet_below (by kernel_rfl) (by kernel_rfl) ?_
          repeat (go_big_quiet_step (exact cL _ _))
          refine wpQuiet_nil ?_
          intro w6 hw'
          obtain ⟨⟨dq, osq⟩, hw''⟩ := hw'
          have hb6 := below_regrown w5 dq osq
          rw [← hw''] at hb6
          clear hw''
          go_wp2_with fail
          go_meet
          case rel => exact ⟨rfl, below_then hb5 hb5.size hb6, (hb6.block _ (blk_lt hR)).trans hR⟩
        · have q2 : (tk == 2) = false := by simpa using hk2
          by_cases hk3 : 2 < tk
          · have hnm := hn3 hk3
            subst hnm
            rw [mkS_nil] at *
            obtain ⟨w5, hw5⟩ : ∃ w5, w5 = wr.alloc (.cells #[.int .i64 tk, .string ⟨#[]⟩, .slice A2 ta.length c2, .bool ts, .string (mkS tt)] 27) := ⟨_, rfl⟩
            have hb5 : Below wr.heap.size wr w5 := by rw [hw5]; exact (Below.refl _ _).alloc (Nat.le_refl _) _
            rw [← hw5] at hR ⊢
            clear hw5
            have r0 := blk_cell hR 0
            have r1 := blk_cell hR 1
            have r2 := blk_cell hR 2
            have r3 := blk_cell hR 3
            have r4 := blk_cell hR 4
            have rf0 := blk_frozen hR 0
            have rf1 := blk_frozen hR 1
            have rf2 := blk_frozen hR 2
            have rf3 := blk_frozen hR 3
            have rf4 := blk_frozen hR 4
            have gr0 := cell_regrown r0
            have gr1 := cell_regrown r1
            have gr2 := cell_regrown r2
            have gr3 := cell_regrown r3
            have cL : ∀ d os, Calls Tryd.prog 16 #[.string ⟨#[]⟩] (grow (redrawn w5 d) os) fun e w'' => e = .returned (.string ⟨#[]⟩) ∧ ∃ p : Regrown, w'' = grow (redrawn w5 p.d) p.os := fun d os => Calls.regrown_of (LC6.out _)
            refine wp_region_quiet_below (by kernel_rfl) (by kernel_rfl) ?_
            repeat (go_big_quiet_step (exact cL _ _))
            refine wpQuiet_nil ?_
            intro w6 hw'
            obtain ⟨⟨dq, osq⟩, hw''⟩ := hw'
            have hb6 := below_regrown w5 dq osq
            rw [← hw''] at hb6
            clear hw''
            go_wp2_with fail
            go_meet
            case rel => exact ⟨rfl, below_then hb5 hb5.size hb6, (hb6.block _ (blk_lt hR)).trans hR⟩
          · have q3 : decide (2 < tk) = false := by simpa using hk3
            obtain ⟨w5, hw5⟩ : ∃ w5, w5 = wr.alloc (.cells #[.int .i64 tk, .string (mkS tn), .slice A2 ta.length c2, .bool ts, .string (mkS tt)] 27) := ⟨_, rfl⟩
            have hb5 : Below wr.heap.size wr w5 := by rw [hw5]; exact (Below.refl _ _).alloc (Nat.le_refl _) _
            rw [← hw5] at hR ⊢
            clear hw5
            have r0 := blk_cell hR 0
            have r1 := blk_cell hR 1
            have r2 := blk_cell hR 2
            have r3 := blk_cell hR 3
            have r4 := blk_cell hR 4
            have rf0 := blk_frozen hR 0
            have rf1 := blk_frozen hR 1
            have rf2 := blk_frozen hR 2
            have rf3 := blk_frozen hR 3
            have rf4 := blk_frozen hR 4
            have gr0 := cell_regrown r0
            have gr1 := cell_regrown r1
            have gr2 := cell_regrown r2
            have gr3 := cell_regrown r3
            have cL : ∀ d os, Calls Tryd.prog 16 #[.string (mkS tn)] (grow (redrawn w5 d) os) fun e w'' => e = .returned (.string (mkS tn)) ∧ ∃ p : Regrown, w'' = grow (redrawn w5 p.d) p.os := fun d os => Calls.regrown_of (LC6.out _)
            refine wp_region_quiet_below (by kernel_rfl) (by kernel_rfl) ?_
            repeat (go_big_quiet_step (exact cL _ _))
            refine wpQuiet_nil ?_
            intro w6 hw'
            obtain ⟨⟨dq, osq⟩, hw''⟩ := hw'
            have hb6 := below_regrown w5 dq osq
            rw [← hw''] at hb6
            clear hw''
            go_wp2_with fail
            go_meet
            case rel => exact ⟨rfl, below_then hb5 hb5.size hb6, (hb6.block _ (blk_lt hR)).trans hR⟩
      case rest =>
        obtain ⟨rfl, hb6, hR6⟩ := hcut
        have HB1 := Lib.hid (below_then hB hB.size hb6)
        have hat6 := hat2.below hb6
        obtain ⟨hn5, hn6⟩ := hn4
        have HN5 := Lib.hid hn5
        have HN6 := Lib.hid hn6
        have HAT6 := Lib.hid hat6
        clear hn1 hn2 hn3 hn5 hn6 hat2 hat6 d0 d1 d2 d3 d4 LC6 hR hB hb6
        generalize wr.heap.size = R at hR6 ⊢
        rename World => wA
        have r0 := blk_cell hR6 0
        have r1 := blk_cell hR6 1
        have r2 := blk_cell hR6 2
        have r3 := blk_cell hR6 3
        have r4 := blk_cell hR6 4
        have rf0 := blk_frozen hR6 0
        have rf1 := blk_frozen hR6 1
        have rf2 := blk_frozen hR6 2
        have rf3 := blk_frozen hR6 3
        have rf4 := blk_frozen hR6 4
        have hz6 := blk_lt hR6
        have HR6 := Lib.hid hR6
        clear hR6
        go_wp2_with fail
        go_loopw [54] (fun i wq => ∃ m : Nat, m ≤ ta.length ∧ i = .int .i64 m ∧ Below wA.heap.size wA wq) (fun i _ => ta.length - (intOf i).toNat)
        case atStart => exact ⟨0, by omega, rfl, Below.refl _ _⟩
        case round =>
          obtain ⟨m, hm, rfl, hBq⟩ := hrel
          rename World => wq
          by_cases hml : m < ta.length
          · obtain ⟨ad2, rfl, c0, c1⟩ := (HAT6.out.below hBq).at_ hml
            have hmem : ta.getD m ([], []) ∈ ta := by rw [List.getD, List.getElem?_eq_getElem hml]; exact List.getElem_mem hml
            obtain ⟨hx1, hx2, hx3⟩ := HN5.out _ hmem
            obtain ⟨x, hx⟩ : ∃ x, ta.getD m ([], []) = x := ⟨_, rfl⟩
            rw [hx] at c0 c1 hx1 hx2 hx3
            have HX := Lib.hid hx
            clear hmem hx
            obtain ⟨x1, x2⟩ := x
            simp only at c0 c1 hx1 hx2 hx3
            rw [len_toL] at hx3
            go_upto_region 11 with fail
            have hAb := blk_new wq #[.string (mkS x1), .string (mkS x2)] 41
            have LC7 := (fun W => LC.out W (mkS x1) (by rw [size_mkS]; omega))
            rw [of_mkS, hx1] at LC7
            have LC7 := Lib.hid LC7
            have hne : ((mkS x1).toList == []) = false := by rw [ByteArray.toList_eq, of_mkS]; simpa using hx2
            obtain ⟨w5, hw5⟩ : ∃ w5, w5 = wq.alloc (.cells #[.string (mkS x1), .string (mkS x2)] 41) := ⟨_, rfl⟩
            have hb5 : Below wq.heap.size wq w5 := by rw [hw5]; exact (Below.refl _ _).alloc (Nat.le_refl _) _
            rw [← hw5] at hAb ⊢
            clear hw5
            go_cut [69] from 59 to 70 (fun c wx => c = .bool false ∧ Below wq.heap.size wq wx ∧ wx.heap[wq.heap.size]? = some (.cells #[.string (mkS x1), .string (mkS x2)] 41 (0, 0)))
            case first =>
              have b0 := blk_cell hAb 0
              have gb0 := cell_regrown b0
              have cL : ∀ d os, Calls Tryd.prog 16 #[.string (mkS x1)] (grow (redrawn w5 d) os) fun e w'' => e = .returned (.string (mkS x1)) ∧ ∃ p : Regrown, w'' = grow (redrawn w5 p.d) p.os := fun d os => Calls.regrown_of (LC7.out _)
              refine wp_region_quiet_below (by kernel_rfl) (by kernel_rfl) ?_
              repeat (go_big_quiet_step (exact cL _ _))
              refine wpQuiet_nil ?_
              intro w6 hw'
              obtain ⟨⟨dq, osq⟩, hw''⟩ := hw'
              have hb6 := below_regrown w5 dq osq
              rw [← hw''] at hb6
              clear hw''
              go_wp2_with fail
              go_meet
              case rel => exact ⟨rfl, below_then hb5 hb5.size hb6, (hb6.block _ (blk_lt hAb)).trans hAb⟩
            case rest =>
              obtain ⟨rfl, hb7, hA7⟩ := hcut
              rename World => wB
              have hBB : Below wA.heap.size wA wB := below_then hBq hBq.size hb7
              have hRB := (hBB.block _ (blk_lt HR6.out)).trans HR6.out
              have e2 := blk_cell hRB 2
              have a0 := blk_cell hA7 0
              have hzB := hb7.size
              clear hAb hb5 LC7 c0 c1 hb7 hRB
              generalize wq.heap.size = Q at hA7 a0 hzB ⊢
              have hQB := blk_lt hA7
              go_wp2_with fail
              go_loopw [75] (fun i wz => ∃ n : Nat, n ≤ m ∧ i = .int .i64 n ∧ Below wB.heap.size wB wz) (fun i _ => m - (intOf i).toNat)
              case atStart => exact ⟨0, by omega, rfl, Below.refl _ _⟩
              case round =>
                obtain ⟨n, hn, rfl, hBz⟩ := hrel
                rename World => wz
                have hAz := (hBz.block _ hQB).trans hA7
                have a0 := blk_cell hAz 0
                have hQz := blk_lt hAz
                by_cases hnm : n < m
                · obtain ⟨ad3, e3, c0, c1⟩ := ((HAT6.out.below hBB).below hBz).at_ (show n < ta.length by omega)
                  cases e3
                  have hxy : (ta.getD n ([], [])).1 ≠ x1 := by
                    have h := List.pairwise_iff_getElem.1 HN6.out n m (by omega) hml hnm
                    have hX := HX.out
                    rw [List.getD, List.getElem?_eq_getElem hml] at hX
                    simp only [Option.getD_some] at hX
                    rw [List.getD, List.getElem?_eq_getElem (show n < ta.length by omega)]
                    simp only [Option.getD_some]
                    rw [hX] at h
                    exact h
                  generalize ta.getD n ([], []) = y at c0 c1 hxy
                  obtain ⟨y1, y2⟩ := y
                  simp only at c0 c1 hxy
                  have hxy' : ((mkS x1).toList == (mkS y1).toList) = false := by
                    rw [ByteArray.toList_eq, ByteArray.toList_eq, of_mkS, of_mkS]
                    simpa using fun e : x1 = y1 => hxy e.symm
                  clear hxy hAz
                  go_wp2_with fail
                  go_roundw
                  case rel => exact ⟨n + 1, by omega, by go_num, hBz.alloc hBz.size _⟩
                  case measure => simp [intOf]; omega
                · go_wp2_with fail
                  go_roundw
                  case rel => exact ⟨m + 1, by omega, by go_num, below_then hBB hBB.size hBz⟩
                  case measure => simp [intOf]; omega
          · go_wp2_with fail
            go_roundw
            case rel => exact ⟨k + 1, by omega, by go_num, below_then HB1.out HB1.out.size hBq⟩
            case measure => simp [intOf]; omega
    · have hBw := below_then hb1 hb1.size hB
      go_wp2_with (go_at_call 11; refine (TG.out _ (HT.out.below hBw)).mono ?_; rintro e w6 ⟨rfl, hb6⟩)
      go_ret
      exact ⟨rfl, below_then hBw hBw.size hb6⟩

end Go.Proofs.YthfkldheflmlmaaDoor
