/- The law ToksAll: the program's tokens are the reference's; its walk. -/
import Derived.Test.YthfkldheflmlmaaGreatDoorRefY
import Derived.Maps.AppendAt
import Derived.Test.YthfkldheflmlmaaGreatDoorSame2
import Derived.Test.YthfkldheflmlmaaGreatDoorTags
import Derived.Lib.QuietBelow
namespace Go.Proofs.YthfkldheflmlmaaGreatDoor
open Go.RowKit Go.Lib Go.Sort Go.BigFrame

theorem tagGo_attrs : ∀ (f : Nat) (ats : List AttrT) (l : List UInt8) (p : Nat) (x : List AttrT × Bool × Nat), tagGo f ats l p = some x → x.1.length ≤ ats.length + f
  | 0, ats, l, p, x, h => by cases h
  | f + 1, ats, l, p, x, h => by
    rw [tagGo] at h
    split at h
    · cases h
    split at h
    · cases h; simp
    split at h
    · cases h; simp
    split at h
    · have := tagGo_attrs f _ _ _ _ h; omega
    split at h
    · have := tagGo_attrs f _ _ _ _ h
      have h2 := addL_len ats (attrL (l.drop (spN l))).1
      omega
    · cases h
theorem tagL_attrs (kind : Int) (l : List UInt8) : (tagL kind l).1.attrs.length ≤ l.length + 1 := by
  rw [tagL]
  cases hg : tagGo (l.length + 1) [] (l.drop (untN nameStops l)) (untN nameStops l) with
  | none => simp [tagRes, zeroTok]
  | some x =>
    have := tagGo_attrs _ _ _ _ _ hg
    obtain ⟨a, b, c⟩ := x
    simp only [tagRes]
    split
    · simp
    · simpa using this
theorem noteL_attrs (l : List UInt8) : (noteL l).1.attrs = [] := by
  rw [noteL]
  repeat' split
  all_goals rfl
theorem bangL_attrs (cd : Bool) (l : List UInt8) : (bangL cd l).1.attrs = [] := by
  rw [bangL]
  split
  · exact noteL_attrs _
  split
  · rfl
  split
  · simp only
    split <;> rfl
  · rfl
theorem markL_attrs (cd : Bool) (l : List UInt8) : (markL cd l).1.attrs.length ≤ l.length + 1 := by
  rw [markL]
  split
  · rw [bangL_attrs]; simp
  split
  · simp [oddL, noteT]
  split
  · have := tagL_attrs 1 (l.drop 1); rw [List.length_drop] at this; simp only; omega
  split
  · have := tagL_attrs 2 (l.drop 2); rw [List.length_drop] at this; simp only; omega
  split
  · simp [zeroTok]
  · simp [oddL, noteT]
theorem dataGo_attrs (cd : Bool) : ∀ (f : Nat) (l : List UInt8) (p : Nat), (dataGo cd f l p).1.attrs.length ≤ l.length + 1
  | 0, l, p => by simp [dataGo, zeroTok]
  | f + 1, l, p => by
    rw [dataGo]
    split
    · simp [zeroTok]
    split
    · simp [charsT]
    split
    · have := dataGo_attrs cd f (l.drop (markL cd l).2) (p + (markL cd l).2); rw [List.length_drop] at this; omega
    · exact markL_attrs cd l
theorem nextIn_attrs (l : List UInt8) (mk : Int) (last : List UInt8) (cd : Bool) : (nextIn l mk last cd).1.attrs.length ≤ l.length + 1 := by
  rw [nextIn]
  split
  · exact dataGo_attrs cd _ _ _
  split
  · have := tagL_attrs 2 (l.drop 2); rw [List.length_drop] at this; simp only; omega
  · simp [charsT]
theorem nextL_attrs (l : List UInt8) (p mk : Int) (last : List UInt8) (cd : Bool) : (nextL l p mk last cd).1.attrs.length ≤ l.length + 1 := by
  rw [nextL]
  split
  · simp [zeroTok]
  · have := nextIn_attrs (l.drop p.toNat) mk last cd; rw [List.length_drop] at this; simp only; omega
theorem toksGo_attrs (s : List UInt8) : ∀ (f p : Nat), ∀ t ∈ toksGo s f p, t.attrs.length ≤ s.length + 1
  | 0, p, t, h => by cases h
  | f + 1, p, t, h => by
    rw [toksGo] at h
    have hn := nextIn_attrs (s.drop p) 0 [] false
    rw [List.length_drop] at hn
    split at h
    · cases h
    split at h
    · exact toksGo_attrs s f _ t h
    · rcases List.mem_cons.1 h with rfl | h
      · omega
      · exact toksGo_attrs s f _ t h

/-- A slice of the reference's tokens of the call's own. -/
def RToksOwn (w : World) (B : Nat) (v : Value) (l : List (TokM × Value)) : Prop :=
  w.ownsRow B 31 5 v l.length (tokCells l) ∧ ∀ t ∈ l, w.ownsRow B 48 2 t.2 t.1.attrs.length (attrCells t.1.attrs)
theorem RToksOwn.below {w w' : World} {B : Nat} {v : Value} {l : List (TokM × Value)} (h : RToksOwn w B v l) (hb : Below w.heap.size w w') : RToksOwn w' B v l :=
  ⟨own_below h.1 hb, fun t ht => own_below (h.2 t ht) hb⟩
theorem infoRT : (Tryz.prog.info? 31).map (fun i => (i.zero, i.size, i.bytes)) = some (some (.agg #[.int .i64 0, .string ⟨#[]⟩, .slice none 0 0, .bool false, .string ⟨#[]⟩]), 5, 72) := by kernel_rfl
theorem RToksOwn.snoc {w w1 : World} {B : Nat} {v v' va : Value} {l : List (TokM × Value)} {t : TokM} (hO : RToksOwn w B v l) (ht : w.ownsRow B 48 2 va t.attrs.length (attrCells t.attrs))
    (hown : w1.ownsRow B 31 5 v' (l.length + 1) (tokCells l ++ [.int .i64 t.k, .string (mkS t.name), va, .bool t.self, .string (mkS t.text)])) (hg : w.grownBy w1 v.ownBlock) : RToksOwn w1 B v' (l ++ [(t, va)]) := by
  refine ⟨?_, ?_⟩
  · rw [tokCells_snoc, List.length_append]
    exact hown
  · intro x hx
    rcases List.mem_append.1 hx with hx | hx
    · exact own_apart (hO.2 x hx) hO.1 (by decide) hg
    · rw [List.mem_singleton.1 hx]
      exact own_apart ht hO.1 (by decide) hg
set_option maxRecDepth 100000 in
set_option maxHeartbeats 8000000 in
theorem rall_tokens_calls (w : World) (s : ByteArray) (hs : s.size ≤ 1000000) :
    Calls Tryz.prog 7 #[.string s] w fun e w' =>
      ∃ v l, e = .returned v ∧ RToksOwn w' w.heap.size v l ∧ l.map (·.1) = toksL s.data.toList ∧ Below w.heap.size w w' := by
  obtain ⟨i0, hi, hz0, hz1, hz2⟩ := info_parts infoRT
  go_enter Tryz.func7, Tryz.ntmps7
  go_wp2
  go_loopw [3, 4] (fun v a wr => ∃ (p f : Nat) (l : List (TokM × Value)), p ≤ s.size ∧ a = .int .i64 p ∧ RToksOwn wr w.heap.size v l ∧ Below w.heap.size w wr ∧ l.length ≤ p ∧ s.size - p < f ∧ Hid (toksL s.data.toList = l.map (·.1) ++ toksGo s.data.toList f p)) (fun _ a _ => s.size - (RowKit.intOf a).toNat)
  case atStart => exact ⟨0, s.data.toList.length + 1, [], Nat.zero_le _, rfl, ⟨zero_owns _ _ _ _, fun t h => by cases h⟩, Below.refl _ _, Nat.le_refl _, by rw [len_toL]; omega, rfl⟩
  case round =>
    obtain ⟨p, f, l, hp, rfl, hO, hB, hlp, hf, HI⟩ := hrel
    obtain ⟨f, rfl⟩ : ∃ f', f = f' + 1 := ⟨f - 1, by omega⟩
    have hB0 := hB.size
    by_cases hend : s.size ≤ p
    · have hnil : toksGo s.data.toList (f + 1) p = [] := by rw [toksGo, if_pos (by rw [len_toL]; exact hend)]
      have HNIL := Lib.hid hnil
      clear hnil
      go_wp2
      go_ret
      exact ⟨_, l, rfl, hO, by rw [HI.out, HNIL.out, List.append_nil], hB⟩
    · have hlt : (p : Int) < s.size := by omega
      have NC := Lib.hid (fun W => rnextR_calls W s ⟨#[]⟩ p 0 false hs (by decide))
      have hnx : nextL s.data.toList p 0 (⟨#[]⟩ : ByteArray).data.toList false = ((nextIn (s.data.toList.drop p) 0 [] false).1, (p : Int) + (nextIn (s.data.toList.drop p) 0 [] false).2) := by
        rw [nextL, if_neg (by rw [len_toL]; omega), Int.toNat_natCast]
      rw [hnx] at NC
      have hle := nextIn_le (s.data.toList.drop p) 0 [] false (by rw [List.length_drop, len_toL]; omega)
      rw [List.length_drop, len_toL] at hle
      have hgo : toksGo s.data.toList (f + 1) p = if (nextIn (s.data.toList.drop p) 0 [] false).1.k = 0 then toksGo s.data.toList f (p + (nextIn (s.data.toList.drop p) 0 [] false).2) else (nextIn (s.data.toList.drop p) 0 [] false).1 :: toksGo s.data.toList f (p + (nextIn (s.data.toList.drop p) 0 [] false).2) := by
        rw [toksGo, if_neg (by rw [len_toL]; exact hend)]
      generalize nextIn (s.data.toList.drop p) 0 [] false = x at *
      obtain ⟨q, hq⟩ : ∃ q, p + x.2 = q := ⟨_, rfl⟩
      rw [hq] at hgo
      have NQ : Hid (∀ W, Calls Tryz.prog 13 #[.string s, .int .i64 p, .agg #[.int .i64 0, .string ⟨#[]⟩, .bool false]] W fun e w' => ∃ v, e = .returned v ∧ GotV w' W.heap.size x.1 q v ∧ Below W.heap.size W w') := Lib.hid (fun W => by
        refine (NC.out W).mono ?_
        rintro e w' ⟨v, n, h1, h2, h3, h4⟩
        simp only at h2 h3
        have : n = q := by omega
        subst this
        exact ⟨v, h1, h3, h4⟩)
      have hpq : p < q ∧ q ≤ s.size := by omega
      have HGO := Lib.hid hgo
      have HO := Lib.hid hO
      have HB := Lib.hid hB
      clear hnx hgo hO hB NC hle hq
      go_upto_region 5 with (go_at_call 13; (with_reducible refine (NQ.out _).mono ?_); rintro _ w5 ⟨v5, rfl, hv5, hb5⟩; obtain ⟨A, c, rfl, hown⟩ := hv5.slice; have hba : Below w5.heap.size w5 (w5.alloc (.cells #[.int .i64 x.1.k, .string (mkS x.1.name), .slice A x.1.attrs.length c, .bool x.1.self, .string (mkS x.1.text), .int .i64 (q : Int)] 42)) := (Below.refl _ _).alloc (Nat.le_refl _) _; have hG6 := blk_new w5 #[.int .i64 x.1.k, .string (mkS x.1.name), .slice A x.1.attrs.length c, .bool x.1.self, .string (mkS x.1.text), .int .i64 (q : Int)] 42; have hB6 := below_then hb5 hb5.size hba; have hown6 := own_below hown hba; clear hv5 hown hba hb5)
      generalize w5.alloc (.cells #[.int .i64 x.1.k, .string (mkS x.1.name), .slice A x.1.attrs.length c, .bool x.1.self, .string (mkS x.1.text), .int .i64 (q : Int)] 42) = w6 at *
      generalize w5.heap.size = Y at *
      have g0 := blk_cell hG6 0
      have g1 := blk_cell hG6 1
      have g2 := blk_cell hG6 2
      have g3 := blk_cell hG6 3
      have g4 := blk_cell hG6 4
      have g5 := blk_cell hG6 5
      have lg := blk_lt hG6
      have HO6 := Lib.hid (HO.out.below hB6)
      have HB6 := Lib.hid (below_then HB.out hB0 hB6)
      have HOW := Lib.hid (own_lower hown6 hB0)
      have hs6 : w.heap.size ≤ w6.heap.size := Nat.le_trans hB0 hB6.size
      clear hown6 hB6 HO HB
      cases hk0 : (x.1.k == 0) with
      | true =>
        have hn0 : (x.1.k != 0) = false := by simp [bne, hk0]
        have hgo := HGO.out
        rw [if_pos (by simpa using hk0)] at hgo
        have HQ := Lib.hid (show toksL s.data.toList = l.map (·.1) ++ toksGo s.data.toList f q by rw [HI.out, hgo])
        clear hgo hk0
        go_wp2
        go_roundw
        case measure => simp [RowKit.intOf]; omega
        case rel => exact ⟨q, f, l, by omega, by trivial, HO6.out, HB6.out, by omega, by omega, HQ⟩
      | false =>
        have hn0 : (x.1.k != 0) = true := by simp [bne, hk0]
        have hgo := HGO.out
        rw [if_neg (by simpa using hk0)] at hgo
        have HQ := Lib.hid (show toksL s.data.toList = (l ++ [(x.1, Value.slice A x.1.attrs.length c)]).map (·.1) ++ toksGo s.data.toList f q by rw [HI.out, hgo, List.map_append, List.append_assoc]; rfl)
        have hone : ∀ u ∈ [Value.int .i64 x.1.k, .string (mkS x.1.name), .slice A x.1.attrs.length c, .bool x.1.self, .string (mkS x.1.text)], u.oneCell' = true := by simp [Value.oneCell']
        have hba : Below w6.heap.size w6 (w6.alloc (.cells #[.int .i64 x.1.k, .string (mkS x.1.name), .slice A x.1.attrs.length c, .bool x.1.self, .string (mkS x.1.text)] 31)) := (Below.refl _ _).alloc (Nat.le_refl _) _
        have hOl := (HO6.out.below hba).1
        have HOL := Lib.hid hOl
        have nG := own_farT hOl ((hba.block _ (blk_lt hG6)).trans hG6) (by decide)
        have zG := Nat.lt_of_lt_of_le lg hba.size
        have HG7 := Lib.hid ((hba.block _ (blk_lt hG6)).trans hG6)
        have NG := Lib.hid nG
        have HBA := Lib.hid hba
        have hnews := World.news_of_block (heap_alloc_new w6 (.cells #[.int .i64 x.1.k, .string (mkS x.1.name), .slice A x.1.attrs.length c, .bool x.1.self, .string (mkS x.1.text)] 31))
        have h63 : l.length + 1 ≤ maxLen := by unfold maxLen; omega
        have hbs : w.heap.size ≤ (w6.alloc (.cells #[.int .i64 x.1.k, .string (mkS x.1.name), .slice A x.1.attrs.length c, .bool x.1.self, .string (mkS x.1.text)] 31)).heap.size := Nat.le_trans hs6 hba.size
        clear hgo hk0 hba nG
        go_wp2_with (at_builtin; refine wpList_append_own_at _ rfl _ _ 25 rfl w.heap.size 31 i0 _ 5 72 Tryz.underlying25 hi hz0 hz1 hz2 rfl (by decide) _ _ (tokCells l) rfl hOl ⟨w6.heap.size, 0, none⟩ 1 1 [.int .i64 x.1.k, .string (mkS x.1.name), .slice A x.1.attrs.length c, .bool x.1.self, .string (mkS x.1.text)] rfl rfl hnews hone h63 (by omega) hbs ?_; intro v' w8 hown' hg hnil hat; have HOW8 := Lib.hid hown'; have HGR := Lib.hid hg; have g5' := blk_cell ((HGR.out.block Y zG NG.out).trans HG7.out) 5; have lg' := blk_lt ((HGR.out.block Y zG NG.out).trans HG7.out); clear hown' hg hnil hat hOl hnews hone)
        go_roundw
        case measure => simp [RowKit.intOf]; omega
        case rel =>
          refine ⟨q, f, l ++ [(x.1, .slice A x.1.attrs.length c)], by omega, by trivial, RToksOwn.snoc (HO6.out.below HBA.out) (own_below HOW.out HBA.out) HOW8.out HGR.out, ?_, by rw [List.length_append]; simp; omega, by omega, HQ⟩
          exact Ch.toBelow (O := fun j => w.heap.size ≤ j) (Ch.ofGrown (Ch.of_below (O := fun j => w.heap.size ≤ j) (below_then HB6.out HB6.out.size HBA.out)) HGR.out (fun k hk => .inl (own_base HOL.out hk))) (Nat.le_refl _) (fun i hi h => by omega)

theorem toks_len (s : List UInt8) (h : s.length ≤ 2000) : (toksL s).length ≤ 2000 := by
  have key : ∀ (f p : Nat), (toksGo s f p).length ≤ s.length - p := by
    intro f
    induction f with
    | zero => intro p; simp [toksGo]
    | succ f ih =>
      intro p
      rw [toksGo]
      by_cases hp : s.length ≤ p
      · rw [if_pos hp]; simp
      · rw [if_neg hp]
        have hle := nextIn_le (s.drop p) 0 [] false (by rw [List.length_drop]; omega)
        rw [List.length_drop] at hle
        have := ih (p + (nextIn (s.drop p) 0 [] false).2)
        split
        · omega
        · rw [List.length_cons]; omega
  have := key (s.length + 1) 0
  rw [toksL]; omega
set_option maxRecDepth 100000 in
set_option maxHeartbeats 8000000 in
theorem all_law_calls (w : World) (s : ByteArray) (i k : Int) (ht : Tab w) :
    Calls Tryz.prog 3 #[.string s, .int .i64 i, .int .i64 k] w fun e w' => e = .returned (.bool true) ∧ Below w.heap.size w w' := by
  have TG := Lib.hid (fun W (h : Tab W) => tags_calls W h)
  have HT := Lib.hid ht
  by_cases h1 : (2000 : Int) < s.size
  · clear ht
    go_enter Tryz.func3, Tryz.ntmps3
    go_wp2_with (go_at_call 5; refine (TG.out _ HT.out).mono ?_; rintro e w1 ⟨rfl, hb1⟩)
    go_ret
    exact ⟨rfl, hb1⟩
  have AC := Lib.hid (all_tokens_calls w s ht (by omega))
  have RC := Lib.hid (fun W => rall_tokens_calls W s (by omega))
  clear ht
  go_enter Tryz.func3, Tryz.ntmps3
  go_upto_region 5 with (first | (go_at_call 6; refine AC.out.mono ?_; rintro e w1 ⟨v, l, rfl, hO, hl, hb1⟩; obtain ⟨A, c, rfl, hlc, hrow⟩ := row5 hO.1) | (go_at_call 7; refine (RC.out _).mono ?_; rintro e w2 ⟨v', l', rfl, hO', hl', hb2⟩; obtain ⟨A', c', rfl, hlc', hrow'⟩ := row5 hO'.1))
  clear AC RC
  have hlen : l.length ≤ 2000 := by
    have := toks_len s.data.toList (by rw [len_toL]; omega)
    rw [← hl, List.length_map] at this
    exact this
  have hll : l.length = l'.length := by
    have := congrArg List.length (hl.trans hl'.symm)
    rwa [List.length_map, List.length_map] at this
  have hat : ∀ t ∈ l, t.1.attrs.length ≤ 2001 := fun t ht => by
    have := toksGo_attrs s.data.toList _ _ t.1 (show t.1 ∈ toksL s.data.toList by rw [← hl]; exact List.mem_map.2 ⟨t, ht, rfl⟩)
    rw [len_toL] at this; omega
  have hto : ∀ (j : Nat) (x y : TokM × Value), l[j]? = some x → l'[j]? = some y → y.1 = x.1 := fun j x y hx hy => by
    have e := congrArg (fun z : List TokM => z[j]?) (hl.trans hl'.symm)
    simp only [List.getElem?_map, hx, hy, Option.map_some] at e
    exact (Option.some.inj e).symm
  have hB2 := below_then hb1 hb1.size hb2
  -- what is known of both rows, in the world behind both calls
  have keep2 : ∀ {a : Addr} {u : Value}, w1.cell? a = some u → w2.cell? a = some u := fun {a u} h => (hb2.cell (World.block_lt_of_cell? w1 _ h)).trans h
  have R1 : Hid (∀ (j : Nat) (t : TokM × Value), l[j]? = some t → ∃ ad A2 c2, A = some ad ∧ AttrsAt w2 A2 t.1.attrs ∧
      w2.cell? (ad.add (j * 5)) = some (.int .i64 t.1.k) ∧ w2.cell? ⟨(ad.add (j * 5)).block, (ad.add (j * 5)).off + 1, none⟩ = some (.string (mkS t.1.name)) ∧ w2.cell? ⟨(ad.add (j * 5)).block, (ad.add (j * 5)).off + 2, none⟩ = some (.slice A2 t.1.attrs.length c2) ∧
      w2.cell? ⟨(ad.add (j * 5)).block, (ad.add (j * 5)).off + 3, none⟩ = some (.bool t.1.self) ∧ w2.cell? ⟨(ad.add (j * 5)).block, (ad.add (j * 5)).off + 4, none⟩ = some (.string (mkS t.1.text))) := Lib.hid (fun j t hj => by
    obtain ⟨ad, e0, d0, d1, d2, d3, d4⟩ := hrow j t hj
    obtain ⟨A2, c2, ev, _, hat2⟩ := own_attrs (hO.2 t (List.mem_of_getElem? hj))
    rw [ev] at d2
    exact ⟨ad, A2, c2, e0, hat2.below hb2, keep2 d0, keep2 d1, keep2 d2, keep2 d3, keep2 d4⟩)
  have R2 : Hid (∀ (j : Nat) (t : TokM × Value), l'[j]? = some t → ∃ ad A2 c2, A' = some ad ∧ AttrsAt w2 A2 t.1.attrs ∧
      w2.cell? (ad.add (j * 5)) = some (.int .i64 t.1.k) ∧ w2.cell? ⟨(ad.add (j * 5)).block, (ad.add (j * 5)).off + 1, none⟩ = some (.string (mkS t.1.name)) ∧ w2.cell? ⟨(ad.add (j * 5)).block, (ad.add (j * 5)).off + 2, none⟩ = some (.slice A2 t.1.attrs.length c2) ∧
      w2.cell? ⟨(ad.add (j * 5)).block, (ad.add (j * 5)).off + 3, none⟩ = some (.bool t.1.self) ∧ w2.cell? ⟨(ad.add (j * 5)).block, (ad.add (j * 5)).off + 4, none⟩ = some (.string (mkS t.1.text))) := Lib.hid (fun j t hj => by
    obtain ⟨ad, e0, d0, d1, d2, d3, d4⟩ := hrow' j t hj
    obtain ⟨A2, c2, ev, _, hat2⟩ := own_attrs (hO'.2 t (List.mem_of_getElem? hj))
    rw [ev] at d2
    exact ⟨ad, A2, c2, e0, hat2, d0, d1, d2, d3, d4⟩)
  have HAT := Lib.hid hat
  have HTO := Lib.hid hto
  have HB2 := Lib.hid hB2
  have HLL := Lib.hid hll
  have hne : ((l.length : Int) != (l'.length : Int)) = false := by rw [hll]; simp
  clear hl hl' hO hO' hrow hrow' hat hto hB2 keep2 hb1 hb2 hll
  go_wp2
  go_loopw [25] (fun a wr => ∃ m : Nat, m ≤ l.length ∧ a = .int .i64 m ∧ Below w2.heap.size w2 wr) (fun a _ => l.length - (RowKit.intOf a).toNat)
  case atStart => exact ⟨0, by omega, rfl, Below.refl _ _⟩
  case round =>
    obtain ⟨m, hm, rfl, hB⟩ := hrel
    have keep : ∀ {a : Addr} {u : Value}, w2.cell? a = some u → wr.cell? a = some u := fun {a u} h => (hB.cell (World.block_lt_of_cell? w2 _ h)).trans h
    have HBr := Lib.hid hB
    by_cases hlt : m < l.length
    · have hlt' : m < l'.length := by have := HLL.out; omega
      have i1 : (m : Int) < (l'.length : Int) := by omega
      obtain ⟨x, hx⟩ : ∃ x, l[m]? = some x := ⟨_, List.getElem?_eq_getElem hlt⟩
      obtain ⟨y, hy⟩ : ∃ y, l'[m]? = some y := ⟨_, List.getElem?_eq_getElem hlt'⟩
      obtain ⟨ad, A2, c2, rfl, ha, d0, d1, d2, d3, d4⟩ := R1.out m x hx
      obtain ⟨ad', B2, e2, rfl, hb, f0, f1, f2, f3, f4⟩ := R2.out m y hy
      have hxy := HTO.out m x y hx hy
      have hsh := HAT.out x (List.mem_of_getElem? hx)
      obtain ⟨t, va⟩ := x
      obtain ⟨t', vb⟩ := y
      simp only at ha d0 d1 d2 d3 d4 hb f0 f1 f2 f3 f4 hxy hsh
      subst hxy
      replace d0 := keep d0
      replace d1 := keep d1
      replace d2 := keep d2
      replace d3 := keep d3
      replace d4 := keep d4
      replace f0 := keep f0
      replace f1 := keep f1
      replace f2 := keep f2
      replace f3 := keep f3
      replace f4 := keep f4
      have ha' := ha.below hB
      have hb' := hb.below hB
      have SC := Lib.hid (fun W h h' => same_calls W t' t' A2 B2 c2 e2 h h' (by omega) (by omega))
      rw [sameT_refl] at SC
      have HA := Lib.hid ha'
      have HA' := Lib.hid hb'
      clear keep hx hy ha hb ha' hb' hlt' R1 R2 HTO HAT hB
      go_upto_region 10 with fail
      have gd0 := cell_regrown d0
      have gd1 := cell_regrown d1
      have gd2 := cell_regrown d2
      have gd3 := cell_regrown d3
      have gd4 := cell_regrown d4
      have gf0 := cell_regrown f0
      have gf1 := cell_regrown f1
      have gf2 := cell_regrown f2
      have gf3 := cell_regrown f3
      have gf4 := cell_regrown f4
      have cS : ∀ d os, Calls Tryz.prog 8 #[.agg #[.int .i64 t'.k, .string (mkS t'.name), .slice A2 t'.attrs.length c2, .bool t'.self, .string (mkS t'.text)], .agg #[.int .i64 t'.k, .string (mkS t'.name), .slice B2 t'.attrs.length e2, .bool t'.self, .string (mkS t'.text)]] (grow (redrawn wr d) os) fun e w'' => e = .returned (.bool true) ∧ ∃ p : Regrown, w'' = grow (redrawn wr p.d) p.os := fun d os => Calls.regrown_of (SC.out _ (HA.out.below (below_regrown wr d os)) (HA'.out.below (below_regrown wr d os)))
      clear d0 d1 d2 d3 d4 f0 f1 f2 f3 f4
      refine wp_region_quiet_below (by kernel_rfl) (by kernel_rfl) ?_
      repeat (go_big_quiet_step (exact cS _ _))
      refine wpQuiet_nil ?_
      intro w6 hw'
      obtain ⟨⟨dq, osq⟩, hw''⟩ := hw'
      have hb6 := below_regrown wr dq osq
      rw [← hw''] at hb6
      clear hw''
      go_wp2_with fail
      go_roundw
      case rel => exact ⟨m + 1, by omega, by go_num, below_then HBr.out HBr.out.size hb6⟩
      case measure => simp [RowKit.intOf]; omega
    · obtain rfl : m = l.length := by omega
      clear hlt
      have HBW := Lib.hid (below_then HB2.out HB2.out.size HBr.out)
      have HTW := Lib.hid (HT.out.below HBW.out)
      by_cases hin : (0 ≤ i ∧ i < l.length) ∧ 0 ≤ k ∧ k < l.length
      · obtain ⟨⟨gi0, gi1⟩, gk0, gk1⟩ := hin
        obtain ⟨i, rfl⟩ : ∃ n : Nat, i = n := ⟨i.toNat, by omega⟩
        obtain ⟨k, rfl⟩ : ∃ n : Nat, k = n := ⟨k.toNat, by omega⟩
        have hi1 : i < l.length := by omega
        have hk1 : k < l.length := by omega
        have hk2 : k < l'.length := by have := HLL.out; omega
        have j1 : (k : Int) < (l'.length : Int) := by omega
        obtain ⟨x, hx⟩ : ∃ x, l[i]? = some x := ⟨_, List.getElem?_eq_getElem hi1⟩
        obtain ⟨z, hz⟩ : ∃ z, l[k]? = some z := ⟨_, List.getElem?_eq_getElem hk1⟩
        obtain ⟨y, hy⟩ : ∃ y, l'[k]? = some y := ⟨_, List.getElem?_eq_getElem hk2⟩
        obtain ⟨ad, A2, c2, rfl, ha, d0, d1, d2, d3, d4⟩ := R1.out i x hx
        obtain ⟨ad1, A3, c3, e1, ha3, k0, k1, k2, k3, k4⟩ := R1.out k z hz
        obtain ⟨ad', B2, e2, rfl, hb, f0, f1, f2, f3, f4⟩ := R2.out k y hy
        have hxy := HTO.out k z y hz hy
        have hsx := HAT.out x (List.mem_of_getElem? hx)
        have hsz := HAT.out z (List.mem_of_getElem? hz)
        obtain rfl : ad = ad1 := Option.some.inj e1
        clear e1
        obtain ⟨t, va⟩ := x
        obtain ⟨u, vz⟩ := z
        obtain ⟨u', vb⟩ := y
        simp only at ha d0 d1 d2 d3 d4 ha3 k0 k1 k2 k3 k4 hb f0 f1 f2 f3 f4 hxy hsx hsz
        subst hxy
        replace d0 := keep d0
        replace d1 := keep d1
        replace d2 := keep d2
        replace d3 := keep d3
        replace d4 := keep d4
        replace k0 := keep k0
        replace k1 := keep k1
        replace k2 := keep k2
        replace k3 := keep k3
        replace k4 := keep k4
        replace f0 := keep f0
        replace f1 := keep f1
        replace f2 := keep f2
        replace f3 := keep f3
        replace f4 := keep f4
        have HA := Lib.hid (ha.below hB)
        have HA3 := Lib.hid (ha3.below hB)
        have HA' := Lib.hid (hb.below hB)
        have SA := Lib.hid (fun W h h' => tokSame_calls W t u' A2 A3 c2 c3 h h' (by omega) (by omega))
        have SB := Lib.hid (fun W h h' => same_calls W t u' A2 B2 c2 e2 h h' (by omega) (by omega))
        obtain ⟨b, hb0⟩ : ∃ b, sameT t u' = b := ⟨_, rfl⟩
        rw [hb0] at SA SB
        clear keep hx hz hy ha ha3 hb hb0 hi1 hk1 hk2 R1 R2 HTO HAT hB HLL
        cases b
        all_goals
          go_upto_region 14 with fail
          have gd0 := cell_regrown d0
          have gd1 := cell_regrown d1
          have gd2 := cell_regrown d2
          have gd3 := cell_regrown d3
          have gd4 := cell_regrown d4
          have gk0 := cell_regrown k0
          have gk1 := cell_regrown k1
          have gk2 := cell_regrown k2
          have gk3 := cell_regrown k3
          have gk4 := cell_regrown k4
          have gf0 := cell_regrown f0
          have gf1 := cell_regrown f1
          have gf2 := cell_regrown f2
          have gf3 := cell_regrown f3
          have gf4 := cell_regrown f4
          have cA := fun d os => Calls.regrown_of (SA.out _ (HA.out.below (below_regrown wr d os)) (HA3.out.below (below_regrown wr d os)))
          have cB := fun d os => Calls.regrown_of (SB.out _ (HA.out.below (below_regrown wr d os)) (HA'.out.below (below_regrown wr d os)))
          have cT := fun d os => Calls.regrown_of (TG.out _ (HTW.out.below (below_regrown wr d os)))
          clear d0 d1 d2 d3 d4 k0 k1 k2 k3 k4 f0 f1 f2 f3 f4
          refine wp_region_quiet_below (by kernel_rfl) (by kernel_rfl) ?_
          repeat (go_big_quiet_step (first | with_reducible exact cA _ _ | with_reducible exact cB _ _ | with_reducible exact cT _ _))
          refine wpQuiet_nil ?_
          intro w6 hw'
          obtain ⟨⟨dq, osq⟩, hw''⟩ := hw'
          have hb6 := below_regrown wr dq osq
          rw [← hw''] at hb6
          clear hw''
          go_wp2_with fail
          go_ret
          exact ⟨rfl, below_then HBW.out HBW.out.size hb6⟩
      · have hways : i < 0 ∨ (0 ≤ i ∧ ¬ i < l.length) ∨ (0 ≤ i ∧ i < l.length ∧ k < 0) ∨ (0 ≤ i ∧ i < l.length ∧ 0 ≤ k ∧ ¬ k < l.length) := by omega
        clear hin keep
        rcases hways with g | ⟨g, g'⟩ | ⟨g, g', g''⟩ | ⟨g, g', g'', g3⟩
        all_goals
          go_wp2_with (go_at_call 5; refine (TG.out _ HTW.out).mono ?_; rintro e w5 ⟨rfl, hb5⟩)
          go_ret
          exact ⟨rfl, below_then HBW.out HBW.out.size hb5⟩

end Go.Proofs.YthfkldheflmlmaaGreatDoor
