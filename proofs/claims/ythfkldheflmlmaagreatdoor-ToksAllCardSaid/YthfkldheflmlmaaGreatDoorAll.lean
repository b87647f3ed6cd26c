/- Walk of toks.All. -/
import Derived.Test.YthfkldheflmlmaaGreatDoorAllL
import Derived.Maps.AppendAt
namespace Go.Proofs.YthfkldheflmlmaaGreatDoor
open Go.RowKit

def tokCells (l : List (TokM × Value)) : List Value := l.flatMap fun t => [.int .i64 t.1.k, .string (mkS t.1.name), t.2, .bool t.1.self, .string (mkS t.1.text)]
theorem tokCells_snoc (l : List (TokM × Value)) (t : TokM × Value) : tokCells (l ++ [t]) = tokCells l ++ [.int .i64 t.1.k, .string (mkS t.1.name), t.2, .bool t.1.self, .string (mkS t.1.text)] := by simp [tokCells]
/-- A slice of tokens of the call's own. -/
def ToksOwn (w : World) (B : Nat) (v : Value) (l : List (TokM × Value)) : Prop :=
  w.ownsRow B 30 5 v l.length (tokCells l) ∧ ∀ t ∈ l, w.ownsRow B 48 2 t.2 t.1.attrs.length (attrCells t.1.attrs)
theorem own_below {w w' : World} {B n : Nat} {e : TypeId} {size : Nat} {v : Value} {xs : List Value} (h : w.ownsRow B e size v n xs) (hb : Below w.heap.size w w') : w'.ownsRow B e size v n xs :=
  own_keep h (Ch.of_below (O := fun _ => False) hb) (fun _ _ _ e => e)
theorem ToksOwn.below {w w' : World} {B : Nat} {v : Value} {l : List (TokM × Value)} (h : ToksOwn w B v l) (hb : Below w.heap.size w w') : ToksOwn w' B v l :=
  ⟨own_below h.1 hb, fun t ht => own_below (h.2 t ht) hb⟩
theorem infoT : (Tryz.prog.info? 30).map (fun i => (i.zero, i.size, i.bytes)) = some (some (.agg #[.int .i64 0, .string ⟨#[]⟩, .slice none 0 0, .bool false, .string ⟨#[]⟩]), 5, 72) := by kernel_rfl
/-- A row of one type is not touched where a row of another grows. -/
theorem own_apart {w w' : World} {B n m : Nat} {e e' : TypeId} {size size' : Nat} {v v' : Value} {xs ys : List Value} (h : w.ownsRow B e size v n xs) (h' : w.ownsRow B e' size' v' m ys) (hne : e ≠ e') (hg : w.grownBy w' v'.ownBlock) : w'.ownsRow B e size v n xs := by
  refine h.kept hg ?_
  rcases h.2 with ⟨h0, _⟩ | ⟨g, cap, cur, h0, _, hgg, _⟩
  · exact .inl (by rw [h0]; rfl)
  · right
    rcases h'.2 with ⟨h1, _⟩ | ⟨g', cap', cur', h1, _, hgg', _⟩
    · rw [h0, h1]; simp [Value.ownBlock]
    · rw [h0, h1]
      simp only [Value.ownBlock]
      intro e
      have e : g = g' := by simpa using e
      rw [← e, hgg] at hgg'
      injection hgg' with h2
      injection h2 with _ h3
      exact hne h3

theorem heap_alloc_at {w : World} {n : Nat} (o : Obj) (h : w.heap.size = n) : (w.alloc o).heap[n]? = some o := by
  subst h
  exact heap_alloc_new w o
theorem own_base {w : World} {B n k : Nat} {e : TypeId} {size : Nat} {v : Value} {xs : List Value} (h : w.ownsRow B e size v n xs) (hk : v.ownBlock = some k) : B ≤ k := by
  rcases h.2 with ⟨h0, _⟩ | ⟨g, cap, cur, h0, hge, _⟩
  · rw [h0] at hk; cases hk
  · rw [h0] at hk
    simp [Value.ownBlock] at hk
    omega
theorem ToksOwn.snoc {w w1 : World} {B : Nat} {v v' va : Value} {l : List (TokM × Value)} {t : TokM} (hO : ToksOwn w B v l) (ht : w.ownsRow B 48 2 va t.attrs.length (attrCells t.attrs))
    (hown : w1.ownsRow B 30 5 v' (l.length + 1) (tokCells l ++ [.int .i64 t.k, .string (mkS t.name), va, .bool t.self, .string (mkS t.text)])) (hg : w.grownBy w1 v.ownBlock) : ToksOwn w1 B v' (l ++ [(t, va)]) := by
  refine ⟨?_, ?_⟩
  · rw [tokCells_snoc, List.length_append]
    exact hown
  · intro x hx
    rcases List.mem_append.1 hx with hx | hx
    · exact own_apart (hO.2 x hx) hO.1 (by decide) hg
    · rw [List.mem_singleton.1 hx]
      exact own_apart ht hO.1 (by decide) hg

set_option maxRecDepth 100000 in
set_option maxHeartbeats 4000000 in
theorem all_tokens_calls (w : World) (s : ByteArray) (ht : Tab w) (hs : s.size ≤ 1000000) :
    Calls Tryz.prog 6 #[.string s] w fun e w' =>
      ∃ v l, e = .returned v ∧ ToksOwn w' w.heap.size v l ∧ l.map (·.1) = toksL s.data.toList ∧ Below w.heap.size w w' := by
  obtain ⟨i0, hi, hz0, hz1, hz2⟩ := info_parts infoT
  have HT := Lib.hid ht
  clear ht
  go_enter Tryz.func6, Tryz.ntmps6
  go_wp2
  go_loopw [3, 4] (fun v a wr => ∃ (p f : Nat) (l : List (TokM × Value)), p ≤ s.size ∧ a = .int .i64 p ∧ ToksOwn wr w.heap.size v l ∧ Below w.heap.size w wr ∧ l.length ≤ p ∧ s.size - p < f ∧ Hid (toksL s.data.toList = l.map (·.1) ++ toksGo s.data.toList f p)) (fun _ a _ => s.size - (intOf a).toNat)
  case atStart => exact ⟨0, s.data.toList.length + 1, [], Nat.zero_le _, rfl, ⟨zero_owns _ _ _ _, fun t h => by cases h⟩, Below.refl _ _, Nat.le_refl _, by rw [len_toL]; omega, rfl⟩
  case round =>
    obtain ⟨p, f, l, hp, rfl, hO, hB, hlp, hf, HI⟩ := hrel
    obtain ⟨f, rfl⟩ : ∃ f', f = f' + 1 := ⟨f - 1, by omega⟩
    have hB0 := hB.size
    by_cases hend : s.size ≤ p
    · have hnil : toksGo s.data.toList (f + 1) p = [] := by rw [toksGo, if_pos (by rw [len_toL]; exact hend)]
      have HNIL := Lib.hid hnil
      clear hnil
      go_wp2
      go_ret
      exact ⟨_, l, rfl, hO, by rw [HI.out, HNIL.out, List.append_nil], hB⟩
    · have hlt : (p : Int) < s.size := by omega
      have NC := Lib.hid (fun W h => next_calls W s ⟨#[]⟩ p 0 false h (by omega) (by decide))
      have hnx : nextL s.data.toList p 0 (⟨#[]⟩ : ByteArray).data.toList false = ((nextIn (s.data.toList.drop p) 0 [] false).1, (p : Int) + (nextIn (s.data.toList.drop p) 0 [] false).2) := by
        rw [nextL, if_neg (by rw [len_toL]; omega), Int.toNat_natCast]
      rw [hnx] at NC
      have hle := nextIn_le (s.data.toList.drop p) 0 [] false (by rw [List.length_drop, len_toL]; omega)
      rw [List.length_drop, len_toL] at hle
      have hgo : toksGo s.data.toList (f + 1) p = if (nextIn (s.data.toList.drop p) 0 [] false).1.k = 0 then toksGo s.data.toList f (p + (nextIn (s.data.toList.drop p) 0 [] false).2) else (nextIn (s.data.toList.drop p) 0 [] false).1 :: toksGo s.data.toList f (p + (nextIn (s.data.toList.drop p) 0 [] false).2) := by
        rw [toksGo, if_neg (by rw [len_toL]; exact hend)]
      generalize nextIn (s.data.toList.drop p) 0 [] false = x at *
      have HGO := Lib.hid hgo
      have HO := Lib.hid hO
      have HB := Lib.hid hB
      clear hnx hgo hO hB
      cases hk0 : (x.1.k == 0) with
      | true =>
        have hn0 : (x.1.k != 0) = false := by simp [bne, hk0]
        go_wp2_with (first | (go_at_call 12; refine (NC.out _ ((HT.out.below HB.out).below ((Below.refl _ _).alloc (Nat.le_refl _) _))).mono ?_; rintro e w5 ⟨v5, rfl, hv5, hb5⟩; obtain ⟨A, c, rfl, hown⟩ := hv5.slice; have hR5 := blk_below (blk_new wr #[.int .i64 0, .string ⟨#[]⟩, .slice none 0 0, .bool false, .string ⟨#[]⟩] 30) hb5; have hz5 := blk_lt hR5; have r0 := blk_cell hR5 0; have r1 := blk_cell hR5 1; have r2 := blk_cell hR5 2; have r3 := blk_cell hR5 3; have r4 := blk_cell hR5 4; have rf0 := blk_frozen hR5 0; have rf1 := blk_frozen hR5 1; have rf2 := blk_frozen hR5 2; have rf3 := blk_frozen hR5 3; have rf4 := blk_frozen hR5 4))
        have hBf : ∀ W, Ch (fun j => wr.heap.size ≤ j) wr W → Below wr.heap.size wr W := fun W h => h.toBelow (Nat.le_refl _) (fun j hj e => by omega)
        have hb6 := below_then ((Below.refl wr.heap.size wr).alloc (Nat.le_refl _) (.cells #[.int .i64 0, .string ⟨#[]⟩, .slice none 0 0, .bool false, .string ⟨#[]⟩] 30)) (by simp) hb5
        have hgo := HGO.out
        rw [if_pos (by simpa using hk0)] at hgo
        go_roundw
        case measure => simp [intOf]; omega
        case rel =>
          refine ⟨p + x.2, f, l, by omega, by go_num, HO.out.below (hBf _ ?_), below_then HB.out hB0 (hBf _ ?_), by omega, by omega, Lib.hid (by rw [HI.out, hgo])⟩
          · exact (Ch.setCell (Ch.setCell (Ch.setCell (Ch.setCell (Ch.setCell (Ch.of_below hb6) (.inr (Nat.le_refl _)) _) (.inr (Nat.le_refl _)) _) (.inr (Nat.le_refl _)) _) (.inr (Nat.le_refl _)) _) (.inr (Nat.le_refl _)) _)
          · exact (Ch.setCell (Ch.setCell (Ch.setCell (Ch.setCell (Ch.setCell (Ch.of_below hb6) (.inr (Nat.le_refl _)) _) (.inr (Nat.le_refl _)) _) (.inr (Nat.le_refl _)) _) (.inr (Nat.le_refl _)) _) (.inr (Nat.le_refl _)) _)
      | false =>
        have hn0 : (x.1.k != 0) = true := by simp [bne, hk0]
        go_upto_region 7 with (first | (go_at_call 12; refine (NC.out _ ((HT.out.below HB.out).below ((Below.refl _ _).alloc (Nat.le_refl _) _))).mono ?_; rintro e w5 ⟨v5, rfl, hv5, hb5⟩; obtain ⟨A, c, rfl, hown⟩ := hv5.slice; have hR5 := blk_below (blk_new wr #[.int .i64 0, .string ⟨#[]⟩, .slice none 0 0, .bool false, .string ⟨#[]⟩] 30) hb5; have hz5 := blk_lt hR5; have r0 := blk_cell hR5 0; have r1 := blk_cell hR5 1; have r2 := blk_cell hR5 2; have r3 := blk_cell hR5 3; have r4 := blk_cell hR5 4; have rf0 := blk_frozen hR5 0; have rf1 := blk_frozen hR5 1; have rf2 := blk_frozen hR5 2; have rf3 := blk_frozen hR5 3; have rf4 := blk_frozen hR5 4))
        have hBf : ∀ W, Ch (fun j => wr.heap.size ≤ j) wr W → Below wr.heap.size wr W := fun W h => h.toBelow (Nat.le_refl _) (fun j hj e => by omega)
        have hb6 := below_then ((Below.refl wr.heap.size wr).alloc (Nat.le_refl _) (.cells #[.int .i64 0, .string ⟨#[]⟩, .slice none 0 0, .bool false, .string ⟨#[]⟩] 30)) (by simp) hb5
        have hgo := HGO.out
        rw [if_neg (by simpa using hk0)] at hgo
        have hone : ∀ u ∈ [Value.int .i64 x.1.k, .string (mkS x.1.name), .slice A x.1.attrs.length c, .bool x.1.self, .string (mkS x.1.text)], u.oneCell' = true := by simp [Value.oneCell']
        obtain ⟨w6, hw6⟩ : ∃ w6, w6 = ((((w5.setCell ⟨wr.heap.size, 0, none⟩ (.int .i64 x.1.k)).setCell ⟨wr.heap.size, 1, none⟩ (.string (mkS x.1.name))).setCell ⟨wr.heap.size, 2, none⟩ (.slice A x.1.attrs.length c)).setCell ⟨wr.heap.size, 3, none⟩ (.bool x.1.self)).setCell ⟨wr.heap.size, 4, none⟩ (.string (mkS x.1.text)) := ⟨_, rfl⟩
        rw [← hw6]
        have hR6 : w6.heap[wr.heap.size]? = some (.cells #[.int .i64 x.1.k, .string (mkS x.1.name), .slice A x.1.attrs.length c, .bool x.1.self, .string (mkS x.1.text)] 30 (0, 0)) := by
          rw [hw6]
          exact blk_set (blk_set (blk_set (blk_set (blk_set hR5 0 _) 1 _) 2 _) 3 _) 4 _
        have hC6 : Ch (fun j => wr.heap.size ≤ j) wr w6 := by
          rw [hw6]
          exact (Ch.setCell (Ch.setCell (Ch.setCell (Ch.setCell (Ch.setCell (Ch.of_below hb6) (.inr (Nat.le_refl _)) _) (.inr (Nat.le_refl _)) _) (.inr (Nat.le_refl _)) _) (.inr (Nat.le_refl _)) _) (.inr (Nat.le_refl _)) _)
        have hO6 : w6.ownsRow wr.heap.size 48 2 (.slice A x.1.attrs.length c) x.1.attrs.length (attrCells x.1.attrs) := by
          refine own_lower (B := wr.heap.size + 1) ?_ (by omega)
          rw [hw6]
          refine own_keep (w := w5) (O := fun j => j = wr.heap.size) (by simpa using hown) ?_ (fun i hi _ e => by omega)
          exact ((((((Ch.refl (fun j => j = wr.heap.size) w5).setCell (.inl rfl) _).setCell (.inl rfl) _).setCell (.inl rfl) _).setCell (.inl rfl) _).setCell (.inl rfl) _)
        have hz6 : wr.heap.size < w6.heap.size := blk_lt hR6
        clear hw6 hR5 r0 r1 r2 r3 r4 rf0 rf1 rf2 rf3 rf4 hb5 hb6 hv5 hown hz5
        have q0 := blk_cell hR6 0
        have q1 := blk_cell hR6 1
        have q2 := blk_cell hR6 2
        have q3 := blk_cell hR6 3
        have q4 := blk_cell hR6 4
        have qf0 := blk_frozen hR6 0
        have qf1 := blk_frozen hR6 1
        have qf2 := blk_frozen hR6 2
        have qf3 := blk_frozen hR6 3
        have qf4 := blk_frozen hR6 4
        have hOl := own_below HO.out.1 (hBf _ (hC6.alloc (.cells #[.int .i64 x.1.k, .string (mkS x.1.name), .slice A x.1.attrs.length c, .bool x.1.self, .string (mkS x.1.text)] 30)))
        have hnews := World.news_of_block (heap_alloc_new w6 (.cells #[.int .i64 x.1.k, .string (mkS x.1.name), .slice A x.1.attrs.length c, .bool x.1.self, .string (mkS x.1.text)] 30))
        have h63 : l.length + 1 ≤ maxLen := by unfold maxLen; omega
        go_wp2_with (at_builtin; refine wpList_append_own_at _ rfl _ _ 23 rfl w.heap.size 30 i0 _ 5 72 Tryz.underlying23 hi hz0 hz1 hz2 rfl (by decide) _ _ (tokCells l) rfl hOl ⟨w6.heap.size, 0, none⟩ 1 1 [.int .i64 x.1.k, .string (mkS x.1.name), .slice A x.1.attrs.length c, .bool x.1.self, .string (mkS x.1.text)] rfl rfl hnews hone h63 (by omega) (by simp; omega) ?_; intro v' w1 hown' hg hnil hat)
        go_roundw
        case measure => simp [intOf]; omega
        case rel =>
          refine ⟨p + x.2, f, l ++ [(x.1, .slice A x.1.attrs.length c)], by omega, by go_num, ToksOwn.snoc ⟨hOl, fun t ht => ?_⟩ ?_ hown' hg, ?_, by rw [List.length_append]; simp; omega, by omega, Lib.hid (by rw [HI.out, hgo, List.map_append, List.append_assoc]; rfl)⟩
          · exact own_below (HO.out.2 t ht) (hBf _ (hC6.alloc _))
          · exact own_lower (own_keep hO6 (O := fun _ => False) (Ch.of_below ((Below.refl _ _).alloc (Nat.le_refl _) _)) (fun _ _ _ e => e)) hB0
          · refine Ch.toBelow (O := fun j => w.heap.size ≤ j) (Ch.ofGrown ((Ch.of_below HB.out).trans (hC6.alloc _) (fun i hi h => ?_)) hg (fun k hk => .inl (own_base hOl hk))) (Nat.le_refl _) (fun i hi h => by omega)
            omega

end Go.Proofs.YthfkldheflmlmaaGreatDoor
