/- The items of a page's nodes (keys.lister.all, keys.Items): plain, and contracts. -/
import Derived.Test.YtdlenbkkcpcbmaaRegT
import Derived.Test.YtdlenbkkcpcbmaaCount
import Derived.Deep.AppendLies
namespace Go.Proofs.Ytdlenbkkcpcbmaa
open Go.RowKit Go.Lib Go.Sort Go.BigFrame

structure ItemT where
  me : Int
  parent : Int
  place : Int
  depth : Int
  size : Int
instance : Inhabited ItemT := ⟨⟨0, 0, 0, 0, 0⟩⟩
def ItemT.vals (x : ItemT) : List Value := [.int .i64 x.me, .int .i64 x.parent, .int .i64 x.place, .int .i64 x.depth, .int .i64 x.size]
def itemCells (l : List ItemT) : List Value := l.flatMap ItemT.vals
theorem itemCells_append (a b : List ItemT) : itemCells (a ++ b) = itemCells a ++ itemCells b := List.flatMap_append
theorem itemCells_len (l : List ItemT) : (itemCells l).length = l.length * 5 := by
  induction l with
  | nil => rfl
  | cons x l ih => simp [itemCells, ItemT.vals] at ih ⊢; omega
theorem itemCells_at (l : List ItemT) (i : Nat) (x : ItemT) (h : l[i]? = some x) (f : Nat) (hf : f < 5) : (itemCells l)[i * 5 + f]? = x.vals[f]? := by
  induction l generalizing i with
  | nil => simp at h
  | cons y l ih =>
    cases i with
    | zero =>
      simp only [List.getElem?_cons_zero, Option.some.injEq] at h
      subst h
      simp only [itemCells, List.flatMap_cons]
      rw [List.getElem?_append_left (by simp [ItemT.vals]; omega)]
      simp
    | succ i =>
      have := ih i (by simpa using h)
      simp only [itemCells, List.flatMap_cons] at this ⊢
      rw [List.getElem?_append_right (by simp [ItemT.vals]; omega)]
      rw [← this]
      congr 1
      simp [ItemT.vals]
      omega
theorem itemCells_set (l : List ItemT) (i : Nat) (x : ItemT) (h : l[i]? = some x) (v : Int) : (itemCells l).set (i * 5 + 4) (.int .i64 v) = itemCells (l.set i { x with size := v }) := by
  induction l generalizing i with
  | nil => simp at h
  | cons y l ih =>
    cases i with
    | zero =>
      simp only [List.getElem?_cons_zero, Option.some.injEq] at h
      subst h
      rfl
    | succ i =>
      have := ih i (by simpa using h)
      simp only [itemCells, List.flatMap_cons, List.set_cons_succ] at this ⊢
      rw [← this, List.set_append_right _ _ (by simp [ItemT.vals]; omega)]
      congr 2
      simp [ItemT.vals]
      omega
mutual
def itemsN : NodeT → Int → Int → Nat → Nat → List ItemT
  | .mk _ _ _ _ _ ks, p, d, st, pl => ⟨st, p, pl, d, (1 + countL ks : Nat)⟩ :: itemsL ks st (d + 1) (st + 1) 0
/-- The items of nodes with this parent, in this depth; the first has this number, and this place. -/
def itemsL : List NodeT → Int → Int → Nat → Nat → List ItemT
  | [], _, _, _, _ => []
  | n :: l, p, d, st, pl => itemsN n p d st pl ++ itemsL l p d (st + n.count) (pl + 1)
end
theorem itemsN_eq (n : NodeT) (p d : Int) (st pl : Nat) : itemsN n p d st pl = ⟨st, p, pl, d, (1 + countL n.kids : Nat)⟩ :: itemsL n.kids st (d + 1) (st + 1) 0 := by
  cases n; rw [itemsN]; rfl
mutual
theorem itemsN_len : ∀ (n : NodeT) (p d : Int) (st pl : Nat), (itemsN n p d st pl).length = n.count
  | .mk _ _ _ _ _ ks, p, d, st, pl => by
    rw [itemsN, List.length_cons, itemsL_len ks, NodeT.count]; omega
theorem itemsL_len : ∀ (l : List NodeT) (p d : Int) (st pl : Nat), (itemsL l p d st pl).length = countL l
  | [], _, _, _, _ => by simp [itemsL, countL]
  | n :: l, p, d, st, pl => by
    rw [itemsL, List.length_append, itemsN_len n, itemsL_len l, countL]
end
theorem itemsL_append (a b : List NodeT) (p d : Int) : ∀ st pl, itemsL (a ++ b) p d st pl = itemsL a p d st pl ++ itemsL b p d (st + countL a) (pl + a.length) := by
  induction a with
  | nil => intro st pl; simp [itemsL, countL]
  | cons n a ih =>
    intro st pl
    rw [List.cons_append, itemsL, itemsL, ih, countL, List.length_cons, List.append_assoc, show st + n.count + countL a = st + (n.count + countL a) by omega, show pl + 1 + a.length = pl + (a.length + 1) by omega]
theorem itemsL_take (l : List NodeT) (k : Nat) (n : NodeT) (h : l[k]? = some n) (p d : Int) (st : Nat) : itemsL (l.take (k + 1)) p d st 0 = itemsL (l.take k) p d st 0 ++ itemsN n p d (st + countL (l.take k)) k := by
  obtain ⟨h1, h2⟩ := List.getElem?_eq_some_iff.1 h
  rw [List.take_succ_eq_append_getElem h1, itemsL_append, h2, itemsL, itemsL, List.append_nil, List.length_take]
  congr 2
  omega

theorem own_store {w : World} {B n : Nat} {e : TypeId} {size : Nat} {g cap : Nat} {xs : List Value} (h : w.ownsRow B e size (.slice (some ⟨g, 0, none⟩) n cap) n xs) (i : Nat) (_hi : i < xs.length) (u : Value) :
    (w.setCell ⟨g, i, none⟩ u).ownsRow B e size (.slice (some ⟨g, 0, none⟩) n cap) n (xs.set i u) := by
  obtain ⟨hl, h⟩ := h
  refine ⟨by simpa using hl, ?_⟩
  rcases h with ⟨h0, _⟩ | ⟨g', cap', cur, h0, hb, hg, hn, hc, hsz, ht⟩
  · cases h0
  · injection h0 with h1 h2 h3
    injection h1 with h4
    injection h4 with h5 h6 h7
    subst h5 h3
    refine .inr ⟨g, cap, cur.setIfInBounds i u, rfl, hb, blk_set hg i u, hn, hc, by simpa using hsz, ?_⟩
    rw [Array.toList_setIfInBounds, List.take_set, ht]
theorem own_cell {w : World} {B n : Nat} {e : TypeId} {size : Nat} {g cap : Nat} {xs : List Value} (h : w.ownsRow B e size (.slice (some ⟨g, 0, none⟩) n cap) n xs) (i : Nat) (u : Value) (hi : xs[i]? = some u) :
    w.cell? ⟨g, i, none⟩ = some u ∧ w.frozen? ⟨g, i, none⟩ = false := by
  rcases h.2 with ⟨h0, _⟩ | ⟨g', cap', cur, h0, hb, hg, hn, hc, hsz, ht⟩
  · cases h0
  · injection h0 with h1 h2 h3
    injection h1 with h4
    injection h4 with h5 h6 h7
    subst h5
    refine ⟨?_, blk_frozen hg i⟩
    rw [blk_cell hg i, ← Array.getElem?_toList]
    rw [← ht] at hi
    rw [List.getElem?_take] at hi
    split at hi
    · exact hi
    · cases hi
theorem own_form {w : World} {B n : Nat} {e : TypeId} {size : Nat} {v : Value} {xs : List Value} (h : w.ownsRow B e size v n xs) (hn : 0 < n) : ∃ g cap, v = .slice (some ⟨g, 0, none⟩) n cap ∧ B ≤ g ∧ n ≤ cap ∧ g < w.heap.size := by
  rcases h.2 with ⟨_, h0⟩ | ⟨g, cap, cur, h0, hb, hg, hle, _⟩
  · omega
  · exact ⟨g, cap, h0, hb, hle, blk_lt hg⟩
theorem own_val {w : World} {B n : Nat} {e : TypeId} {size : Nat} {v : Value} {xs : List Value} (h : w.ownsRow B e size v n xs) : ∃ A c, v = .slice A n c := by
  rcases h.2 with ⟨h0, h1⟩ | ⟨g, cap, cur, h0, _⟩
  · subst h1; exact ⟨_, _, h0⟩
  · exact ⟨_, _, h0⟩
theorem infoI : (Try.prog.info? 49).map (fun i => (i.zero, i.size, i.bytes)) = some (some (.agg #[.int .i64 0, .int .i64 0, .int .i64 0, .int .i64 0, .int .i64 0]), 5, 40) := by kernel_rfl
/-- A lister in block b, whose row lies behind it. -/
def Lister (w : World) (b : Nat) (xs : List ItemT) : Prop := ∃ v, w.heap[b]? = some (.cells #[v] 68 (0, 0)) ∧ w.ownsRow (b + 1) 49 5 v xs.length (itemCells xs)
set_option maxRecDepth 100000 in
set_option maxHeartbeats 8000000 in
theorem all_calls (w0 : World) (b : Nat) (hb0 : w0.heap.size ≤ b) : ∀ (N : Nat) (l : List NodeT), countL l ≤ N → ∀ (w : World) (K : Option Addr) (c : Nat) (p : Int) (d : Nat) (xs : List ItemT), NodesIn w0 K 0 l → Below w0.heap.size w0 w → Lister w b xs →
    xs.length + countL l ≤ 100000 → d + countL l ≤ 100000 →
    Calls Try.prog 26 #[.pointer (some ⟨b, 0, none⟩), .slice K l.length c, .int .i64 p, .int .i64 d] w fun e w' =>
      e = .returned (.int .i64 (countL l : Nat)) ∧ Below w0.heap.size w0 w' ∧ Lister w' b (xs ++ itemsL l p d xs.length 0) := by
  intro N
  induction N with
  | zero =>
    intro l hN w K c p d xs hl hB hL hz hd
    have hnil : l = [] := by
      cases l with
      | nil => rfl
      | cons n l => rw [countL, count_kids] at hN; omega
    subst hnil
    have HL := Lib.hid hL
    have HB := Lib.hid hB
    clear hN hz hd hL hB hl
    go_enter Try.func26, Try.ntmps26
    go_wp2
    go_loopw [9, 16] (fun a i wr => a = .int .i64 0 ∧ i = .int .i64 0 ∧ w = wr) (fun _ i _ => 0)
    case atStart => exact ⟨rfl, rfl, rfl⟩
    case round =>
      obtain ⟨rfl, rfl, rfl⟩ := hrel
      go_wp2
      go_ret
      exact ⟨rfl, HB.out, by simpa [itemsL] using HL.out⟩
  | succ N ih =>
    intro l hN w K c p d xs hl hB hL hz hd
    have hlz : l.length ≤ 100000 := Nat.le_trans (len_count l) (by omega)
    have IH := Lib.hid ih
    have HL := Lib.hid hl
    have HLI : Hid (Lister w b (xs ++ itemsL (l.take 0) p d xs.length 0)) := Lib.hid (by simpa [itemsL] using hL)
    have HB := Lib.hid hB
    have hbw : b < w.heap.size := by obtain ⟨v, h, _⟩ := hL; exact blk_lt h
    clear ih hl hL hB
    go_enter Try.func26, Try.ntmps26
    go_wp2
    go_loopw [9, 16] (fun a i wr => ∃ k : Nat, k ≤ l.length ∧ i = .int .i64 k ∧ a = .int .i64 (countL (l.take k) : Nat) ∧ Below w0.heap.size w0 wr ∧ Hid (Lister wr b (xs ++ itemsL (l.take k) p d xs.length 0))) (fun _ i _ => l.length - (RowKit.intOf i).toNat)
    case atStart => exact ⟨0, by omega, rfl, by simp [countL], HB.out, HLI⟩
    case round =>
      clear HLI HB
      obtain ⟨k, hk, rfl, rfl, hBr, HLR⟩ := hrel
      by_cases hlt : k < l.length
      · obtain ⟨n, hn⟩ : ∃ n, l[k]? = some n := ⟨_, List.getElem?_eq_getElem hlt⟩
        have hc1 := countL_take l k n hn
        have hc2 := countL_take_le l (k + 1)
        have hit := itemsL_take l k n hn p d xs.length
        rw [itemsN_eq] at hit
        obtain ⟨ad, A, c', K', d', rfl, hv, e0, e1, e2, e3, e4, e5⟩ := HL.out.at_ hn
        have keep : ∀ {a : Addr} {u : Value}, w0.cell? a = some u → wr.cell? a = some u := fun {a u} h => (hBr.cell (World.block_lt_of_cell? w0 _ h)).trans h
        replace e0 := keep e0
        replace e1 := keep e1
        replace e2 := keep e2
        replace e3 := keep e3
        replace e4 := keep e4
        replace e5 := keep e5
        have hylen : (xs ++ itemsL (l.take k) p d xs.length 0).length = xs.length + countL (l.take k) := by rw [List.length_append, itemsL_len]
        obtain ⟨Y, hY⟩ : ∃ Y, xs ++ itemsL (l.take k) p d xs.length 0 = Y := ⟨_, rfl⟩
        rw [hY] at HLR hylen
        have hit2 : xs ++ itemsL (l.take (k + 1)) p d xs.length 0 = Y ++ ⟨(Y.length : Nat), p, k, d, (1 + countL n.kids : Nat)⟩ :: itemsL n.kids (Y.length : Nat) (d + 1) (Y.length + 1) 0 := by
          rw [hit, ← List.append_assoc, hY, hylen]
        obtain ⟨v, hbk, hown⟩ := HLR.out
        have HST := Lib.hid hit2
        have HKN := Lib.hid hv.kids
        have HC1 := Lib.hid hc1
        have hs1 : countL (l.take k) + (1 + countL n.kids) ≤ 100000 := by omega
        have hy1 : Y.length + (1 + countL n.kids) ≤ 100000 := by omega
        have hkN : countL n.kids ≤ N := by omega
        have hdd : d + 1 + countL n.kids ≤ 100000 := by omega
        obtain ⟨A0, c0, hv0⟩ := own_val hown
        subst hv0
        clear keep hn hit hit2 hv hc1 hc2 hylen hY HLR hN
        generalize hs0 : countL (l.take k) = s0 at *
        clear hs0
        have hB1 := hBr.alloc hBr.size (.cells (nodeVal n A c' K' d') 44)
        have hbk1 := blk_alloc hbk (.cells (nodeVal n A c' K' d') 44)
        have hbox := blk_new wr (nodeVal n A c' K' d') 44
        have hown1 := hown.alloc (.cells (nodeVal n A c' K' d') 44)
        have hbX := blk_lt hbk
        unfold nodeVal at hB1 hbk1 hbox hown1
        clear hBr hbk hown
        go_upto_region 5 with fail
        generalize wr.alloc (.cells #[.int .i64 n.kind, .int .i64 n.space, .string (mkS n.name), .slice A n.attrs.length c', .string (mkS n.text), .slice K' n.kids.length d'] 44) = w1 at *
        generalize wr.heap.size = X at *
        have l0 := blk_cell hbk1 0
        have HB1 := Lib.hid hB1
        have HBK1 := Lib.hid hbk1
        have HBOX := Lib.hid hbox
        have HOWN1 := Lib.hid hown1
        have hb1s := blk_lt hbk1
        have hbz := hB1.size
        obtain ⟨i0, hi, hz0, hz1, hz2⟩ := info_parts infoI
        have hcl := itemCells_len Y
        clear e0 e1 e2 e3 e4 e5 hB1 hbk1 hbox hown1
        go_wp2_with (at_builtin; refine wpList_append_own _ rfl _ _ 36 rfl (b + 1) 49 i0 _ 5 40 Try.underlying36 hi hz0 hz1 hz2 rfl (by decide) _ _ _ rfl (HOWN1.out.alloc _) ⟨w1.heap.size, 0, none⟩ 1 1 (ItemT.vals ⟨(Y.length : Nat), p, k, d, 0⟩) rfl rfl ?c1 ?c2 ?c3 ?c4 ?c5 ?_)
        case c1 => exact World.news_of_block (heap_alloc_new w1 _)
        case c2 => simp [ItemT.vals, Value.oneCell']
        case c3 => unfold maxLen; omega
        case c4 => omega
        case c5 => simp; omega
        intro v' w2 hown2 hgrow _
        have hfar : some b ≠ (Value.slice A0 Y.length c0).ownBlock := fun e => by have := own_base HOWN1.out e.symm; omega
        have hbk2 := (hgrow.block b (by simp; omega) hfar).trans (blk_alloc HBK1.out _)
        have hX2 : w2.heap[X]? = _ := (hgrow.block X (by simp; have := blk_lt HBOX.out; omega) (own_farT HOWN1.out HBOX.out (by decide))).trans (blk_alloc HBOX.out _)
        have hB2 : Below w0.heap.size w0 w2 := (HB1.out.alloc HB1.out.size _).grown hgrow (by simp; omega) (fun j hj => by have := own_base HOWN1.out hj; omega)
        obtain ⟨A2, c2, rfl⟩ := own_val hown2
        have l2 := blk_cell hbk2 0
        have f2 := blk_frozen hbk2 0
        have b2 := blk_lt hbk2
        have HBK2 := Lib.hid hbk2
        have HX2 := Lib.hid hX2
        have HB2 := Lib.hid hB2
        have HOWN2 := Lib.hid hown2
        have hbX2 : b ≠ X := fun e => by subst e; have h1 := HBK1.out; rw [HBOX.out] at h1; injection h1 with h2; injection h2 with _ h3; exact absurd h3 (by decide)
        clear hfar hgrow hbk2 hX2 hB2 hown2 l0 HBK1 HBOX HOWN1 HB1
        go_upto_region 7 with fail
        have hbk3 := blk_set HBK2.out 0 (.slice A2 (Y.length + 1) c2)
        have hX3 := blk_far (p := ⟨b, 0, none⟩) HX2.out (by dsimp only; omega) (.slice A2 (Y.length + 1) c2)
        have hB3 := HB2.out.setCell (p := ⟨b, 0, none⟩) (by dsimp only; omega) (.slice A2 (Y.length + 1) c2)
        have hown3 := HOWN2.out.kept (grown_set w2 ⟨b, 0, none⟩ (.slice A2 (Y.length + 1) c2)) (.inr (own_farB HOWN2.out (Nat.lt_succ_self b)).symm)
        generalize w2.setCell ⟨b, 0, none⟩ (.slice A2 (Y.length + 1) c2) = w3 at *
        have hL3 : Lister w3 b (Y ++ [⟨(Y.length : Nat), p, k, d, 0⟩]) := ⟨_, hbk3, by rw [itemCells_append, List.length_append]; exact hown3⟩
        have CA := Lib.hid (IH.out n.kids hkN w3 K' d' (Y.length : Nat) (d + 1) _ HKN.out hB3 hL3 (by rw [List.length_append]; simp; omega) hdd)
        rw [List.length_append, show ((d + 1 : Nat) : Int) = (d : Int) + 1 by omega] at CA
        have x5 := blk_cell hX3 5
        clear HBK2 HX2 HB2 HOWN2 hbk3 hX3 hB3 hown3 hL3 hbX2 l2 f2 b2
        go_upto_region 8 with (go_at_call 26; (with_reducible refine CA.out.mono ?_); rintro e w4 ⟨rfl, hB4, hL4⟩)
        clear CA x5
        have hL4 : Lister w4 b (Y ++ ⟨(Y.length : Nat), p, k, d, 0⟩ :: itemsL n.kids (Y.length : Nat) (d + 1) (Y.length + 1) 0) := by simpa using hL4
        obtain ⟨Z, hZ⟩ : ∃ Z, itemsL n.kids (Y.length : Nat) ((d : Int) + 1) (Y.length + 1) 0 = Z := ⟨_, rfl⟩
        rw [hZ] at hL4 HST
        obtain ⟨v4, hbk4, hown4⟩ := hL4
        obtain ⟨g, cap, rfl, hg0, hg1, hg2⟩ := own_form hown4 (by simp; omega)
        have hget : (Y ++ (⟨(Y.length : Nat), p, k, d, 0⟩ : ItemT) :: Z)[Y.length]? = some ⟨(Y.length : Nat), p, k, d, 0⟩ := by simp
        have hic := itemCells_at _ _ _ hget 4 (by decide)
        obtain ⟨s4, sf⟩ := own_cell hown4 (Y.length * 5 + 4) _ hic
        have s4 : w4.cell? ⟨g, Y.length * 5 + 4, none⟩ = some (.int .i64 0) := s4
        have hset := itemCells_set _ _ _ hget (1 + countL n.kids : Nat)
        have hset : (itemCells (Y ++ (⟨(Y.length : Nat), p, k, d, 0⟩ : ItemT) :: Z)).set (Y.length * 5 + 4) (.int .i64 (1 + countL n.kids : Nat)) = itemCells (Y ++ (⟨(Y.length : Nat), p, k, d, (1 + countL n.kids : Nat)⟩ : ItemT) :: Z) := by
          rw [hset]; congr 1; simp
        have hlen4 : (Y ++ (⟨(Y.length : Nat), p, k, d, 0⟩ : ItemT) :: Z).length = (Y ++ (⟨(Y.length : Nat), p, k, d, (1 + countL n.kids : Nat)⟩ : ItemT) :: Z).length := by simp
        have hM : Y.length < (Y ++ (⟨(Y.length : Nat), p, k, d, 0⟩ : ItemT) :: Z).length := by simp
        have hstore := own_store hown4 (Y.length * 5 + 4) (by rw [itemCells_len]; omega) (.int .i64 (1 + countL n.kids : Nat))
        rw [hset, hlen4] at hstore
        rw [hlen4] at hbk4 hM
        obtain ⟨M4, hM4⟩ : ∃ M4, (Y ++ (⟨(Y.length : Nat), p, k, d, (1 + countL n.kids : Nat)⟩ : ItemT) :: Z).length = M4 := ⟨_, rfl⟩
        rw [hM4] at hbk4 hM hstore
        have HM4 := Lib.hid hM4
        have HSTO := Lib.hid hstore
        have HBK4 := Lib.hid hbk4
        have HB4 := Lib.hid hB4
        have l4 := blk_cell hbk4 0
        have hadd := add0 g (Y.length * 5)
        have hi4 : (Y.length : Int) < (M4 : Int) := by omega
        have hsz : ((1 + countL n.kids : Nat) : Int) = 1 + (countL n.kids : Nat) := by omega
        have HSZ := Lib.hid hsz
        have hbg : b ≠ g := by omega
        clear hown4 hget hic hset hlen4 hstore hM4 hbk4 hsz hZ hB4
        go_upto_region 9 with fail
        have hown5 := HSTO.out
        rw [HSZ.out] at hown5
        have hB5 := HB4.out.setCell (p := ⟨g, Y.length * 5 + 4, none⟩) (by dsimp only; omega) (.int .i64 (1 + (countL n.kids : Nat)))
        have hbk5 := blk_far (p := ⟨g, Y.length * 5 + 4, none⟩) HBK4.out hbg (.int .i64 (1 + (countL n.kids : Nat)))
        have hM5 := HM4.out
        rw [HSZ.out] at hM5
        have hST := HST.out
        rw [HSZ.out] at hST
        generalize w4.setCell ⟨g, Y.length * 5 + 4, none⟩ (.int .i64 (1 + (countL n.kids : Nat))) = w5 at *
        have hget5 : (Y ++ (⟨(Y.length : Nat), p, k, d, 1 + (countL n.kids : Nat)⟩ : ItemT) :: Z)[Y.length]? = some ⟨(Y.length : Nat), p, k, d, 1 + (countL n.kids : Nat)⟩ := by simp
        obtain ⟨s5, -⟩ := own_cell hown5 (Y.length * 5 + 4) _ (itemCells_at _ _ _ hget5 4 (by decide))
        have s5 : w5.cell? ⟨g, Y.length * 5 + 4, none⟩ = some (.int .i64 (1 + (countL n.kids : Nat))) := s5
        have l5 := blk_cell hbk5 0
        have HL5 : Hid (Lister w5 b (xs ++ itemsL (l.take (k + 1)) p d xs.length 0)) := Lib.hid (by rw [hST]; exact ⟨_, hbk5, by rw [hM5]; exact hown5⟩)
        have hc9 : (s0 : Int) + (1 + (countL n.kids : Nat)) ≤ 100000 := by omega
        clear hget5 hbk5 hown5 hM5 hST HM4 HSTO HST HBK4 HB4 s4 sf l4 HSZ hbg
        go_wp2
        go_roundw
        case rel => exact ⟨k + 1, by omega, by go_num, by rw [HC1.out]; go_num, hB5, HL5⟩
        case measure => simp [RowKit.intOf]; omega
      · obtain rfl : k = l.length := by omega
        have h := HLR.out
        rw [List.take_length] at h
        have HF := Lib.hid h
        clear hlt h HLR
        rw [List.take_length]
        go_wp2
        go_ret
        exact ⟨rfl, hBr, HF.out⟩
/-- A slice of items that is read. -/
def ItemsAt (w : World) (A : Option Addr) (l : List ItemT) : Prop := 0 < l.length → ∃ g, A = some ⟨g, 0, none⟩ ∧ ∀ j u, (itemCells l)[j]? = some u → w.cell? ⟨g, j, none⟩ = some u
theorem ItemsAt.below {w w' : World} {A : Option Addr} {l : List ItemT} (h : ItemsAt w A l) (hb : Below w.heap.size w w') : ItemsAt w' A l := fun hl => by
  obtain ⟨ad, e, hc⟩ := h hl
  exact ⟨ad, e, fun j u hu => (hb.cell (World.block_lt_of_cell? w _ (hc j u hu))).trans (hc j u hu)⟩
theorem ItemsAt.at_ {w : World} {A : Option Addr} {l : List ItemT} (h : ItemsAt w A l) {i : Nat} {x : ItemT} (hi : l[i]? = some x) :
    ∃ g, A = some ⟨g, 0, none⟩ ∧ w.cell? ⟨g, i * 5, none⟩ = some (.int .i64 x.me) ∧ w.cell? ⟨g, i * 5 + 1, none⟩ = some (.int .i64 x.parent) ∧ w.cell? ⟨g, i * 5 + 2, none⟩ = some (.int .i64 x.place) ∧ w.cell? ⟨g, i * 5 + 3, none⟩ = some (.int .i64 x.depth) ∧ w.cell? ⟨g, i * 5 + 4, none⟩ = some (.int .i64 x.size) := by
  have hl := (List.getElem?_eq_some_iff.1 hi).1
  obtain ⟨g, e, hc⟩ := h (by omega)
  exact ⟨g, e, hc _ _ (itemCells_at l i x hi 0 (by decide)), hc _ _ (itemCells_at l i x hi 1 (by decide)), hc _ _ (itemCells_at l i x hi 2 (by decide)), hc _ _ (itemCells_at l i x hi 3 (by decide)), hc _ _ (itemCells_at l i x hi 4 (by decide))⟩
set_option maxRecDepth 100000 in
set_option maxHeartbeats 2000000 in
theorem items_calls (l : List NodeT) (hz : countL l ≤ 50000) (w : World) (K : Option Addr) (c : Nat) (hl : NodesIn w K 0 l) :
    Calls Try.prog 13 #[.slice K l.length c] w fun e w' => ∃ A c', e = .returned (.slice A (itemsL l (-1) 0 0 0).length c') ∧ ItemsAt w' A (itemsL l (-1) 0 0 0) ∧ Below w.heap.size w w' := by
  have hL0 : Lister (w.alloc (.cells #[.slice none 0 0] 68)) w.heap.size [] := ⟨_, blk_new w _ _, zero_owns _ _ _ _⟩
  have hB0 : Below w.heap.size w (w.alloc (.cells #[.slice none 0 0] 68)) := (Below.refl _ _).alloc (Nat.le_refl _) _
  have CA := Lib.hid (all_calls w w.heap.size (Nat.le_refl _) _ l (Nat.le_refl _) _ K c (-1) 0 [] hl hB0 hL0 (by simp; omega) (by omega))
  rw [show ((0 : Nat) : Int) = 0 from rfl] at CA
  clear hl hL0 hB0
  go_enter Try.func13, Try.ntmps13
  go_upto_region 3 with (go_at_call 26; (with_reducible refine CA.out.mono ?_); rintro e w1 ⟨rfl, hB1, hL1⟩)
  have hL1 : Lister w1 w.heap.size (itemsL l (-1) 0 0 0) := hL1
  obtain ⟨v, hbk, hown⟩ := hL1
  obtain ⟨A, c', rfl⟩ := own_val hown
  have hat : ItemsAt w1 A (itemsL l (-1) 0 0 0) := fun hp => by
    obtain ⟨g, cap, e, -⟩ := own_form hown hp
    injection e with e1 e2 e3
    subst e1 e3
    exact ⟨g, rfl, fun j u hu => (own_cell hown j u hu).1⟩
  have l0 := blk_cell hbk 0
  have lz := blk_lt hbk
  have HA := Lib.hid hat
  clear hat hown hbk CA
  go_wp2
  go_ret
  exact ⟨A, c', rfl, HA.out, hB1⟩

end Go.Proofs.Ytdlenbkkcpcbmaa
