/- Walks of (*Token).add, with slices.ContainsFunc at its closure. -/
import Derived.Test.YthfkldheflmlmaaGreatDoorAttr
import Derived.Deep.AppendLies
namespace Go.Proofs.YthfkldheflmlmaaGreatDoor
open Go.RowKit

abbrev AttrT := List UInt8 × List UInt8
def attrCells (l : List AttrT) : List Value := l.flatMap fun a => [.string (mkS a.1), .string (mkS a.2)]
theorem attrCells_len (l : List AttrT) : (attrCells l).length = l.length * 2 := by
  induction l with
  | nil => rfl
  | cons a t ih => simp [attrCells] at ih ⊢; omega
theorem attrCells_at (l : List AttrT) (j : Nat) (h : j < l.length) : (attrCells l)[j * 2]? = some (.string (mkS (l.getD j ([], [])).1)) ∧ (attrCells l)[j * 2 + 1]? = some (.string (mkS (l.getD j ([], [])).2)) := by
  induction l generalizing j with
  | nil => cases h
  | cons a t ih =>
    cases j with
    | zero => exact ⟨rfl, rfl⟩
    | succ j =>
      have := ih j (by simpa using h)
      have e : (j + 1) * 2 = j * 2 + 1 + 1 := by omega
      rw [e]
      exact this
theorem attrCells_snoc (l : List AttrT) (a : AttrT) : attrCells (l ++ [a]) = attrCells l ++ [.string (mkS a.1), .string (mkS a.2)] := by simp [attrCells]

/-- A slice of attributes that is read. -/
def AttrsAt (w : World) (A : Option Addr) (l : List AttrT) : Prop := 0 < l.length → ∃ ad, A = some ad ∧ ∀ j u, (attrCells l)[j]? = some u → w.cell? (ad.add j) = some u
theorem AttrsAt.below {w w' : World} {A : Option Addr} {l : List AttrT} (h : AttrsAt w A l) (hb : Below w.heap.size w w') : AttrsAt w' A l := fun hl => by
  obtain ⟨ad, e, hc⟩ := h hl
  exact ⟨ad, e, fun j u hu => (hb.cell (World.block_lt_of_cell? w _ (hc j u hu))).trans (hc j u hu)⟩
theorem add_two (ad : Addr) (j : Nat) : ad.add (j * 2 + 1) = ⟨(ad.add (j * 2)).block, (ad.add (j * 2)).off + 1, none⟩ := by
  unfold Addr.add
  by_cases h : j = 0
  · subst h; simp
  · rw [if_neg (by omega), if_neg (by omega)]
    simp [Nat.add_assoc]
theorem AttrsAt.at_ {w : World} {A : Option Addr} {l : List AttrT} (h : AttrsAt w A l) {j : Nat} (hj : j < l.length) :
    ∃ ad, A = some ad ∧ w.cell? (ad.add (j * 2)) = some (.string (mkS (l.getD j ([], [])).1)) ∧ w.cell? ⟨(ad.add (j * 2)).block, (ad.add (j * 2)).off + 1, none⟩ = some (.string (mkS (l.getD j ([], [])).2)) := by
  obtain ⟨ad, e, hc⟩ := h (by omega)
  obtain ⟨h0, h1⟩ := attrCells_at l j hj
  exact ⟨ad, e, hc _ _ h0, by rw [← add_two]; exact hc _ _ h1⟩

set_option maxRecDepth 100000 in
set_option maxHeartbeats 1000000 in
theorem same_name_calls (w : World) (b : Nat) (n1 x1 x2 : ByteArray) (hb : w.cell? ⟨b, 0, none⟩ = some (.string n1)) :
    Calls Tryz.prog 84 #[.agg #[.string x1, .string x2], .pointer (some ⟨b, 0, none⟩)] w fun e w' => e = .returned (.bool (x1.toList == n1.toList)) ∧ Below w.heap.size w w' := by
  have hlt : b < w.heap.size := World.block_lt_of_cell? w _ hb
  go_enter Tryz.func84, Tryz.ntmps84
  go_wp2
  go_ret
  exact ⟨rfl, (Below.refl _ _).alloc (Nat.le_refl _) _⟩

/-- Is there an attribute of a name? -/
def hasName (l : List AttrT) (n : List UInt8) : Bool := l.any (fun a => a.1 == n)
/-- Where the first attribute of a name is; -1: there is none. -/
def idxName (l : List AttrT) (n : List UInt8) : Int := if hasName l n then (l.findIdx (fun a => a.1 == n) : Int) else -1
theorem idxName_at (l : List AttrT) (n : List UInt8) (k : Nat) (hk : k < l.length) (hno : ∀ j, j < k → ((l.getD j ([], [])).1 == n) = false) (h : ((l.getD k ([], [])).1 == n) = true) : idxName l n = k := by
  have hg : ∀ j (hj : j < l.length), l.getD j ([], []) = l[j] := fun j hj => by rw [List.getD, List.getElem?_eq_getElem hj]; rfl
  have ha : hasName l n = true := List.any_eq_true.mpr ⟨l[k], List.getElem_mem hk, by rw [← hg k hk]; exact h⟩
  rw [idxName, if_pos ha]
  congr 1
  rw [List.findIdx_eq hk]
  exact ⟨by rw [← hg k hk]; exact h, fun j hj => by rw [← hg j (by omega)]; exact hno j hj⟩
theorem idxName_none (l : List AttrT) (n : List UInt8) (hno : ∀ j, j < l.length → ((l.getD j ([], [])).1 == n) = false) : hasName l n = false := by
  rw [hasName, List.any_eq_false]
  intro x hx
  obtain ⟨j, hj, rfl⟩ := List.getElem_of_mem hx
  have := hno j hj
  rw [List.getD, List.getElem?_eq_getElem hj] at this
  simpa using this
theorem idxName_ge (l : List AttrT) (n : List UInt8) : decide (0 ≤ idxName l n) = hasName l n := by
  rw [idxName]
  cases hasName l n <;> simp

set_option maxRecDepth 100000 in
set_option maxHeartbeats 1000000 in
theorem indexFunc_calls (w : World) (b : Nat) (n1 : ByteArray) (A : Option Addr) (c : Nat) (l : List AttrT) (hb : w.cell? ⟨b, 0, none⟩ = some (.string n1)) (hl : AttrsAt w A l) (hz : l.length ≤ 1000000000) :
    Calls Tryz.prog 105 #[.slice A l.length c, .func (.func 84) #[] #[.pointer (some ⟨b, 0, none⟩)]] w fun e w' =>
      e = .returned (.int .i64 (idxName l n1.data.toList)) ∧ Below w.heap.size w w' := by
  have HB := Lib.hid hb
  have HLL := Lib.hid hl
  clear hb hl
  go_enter Tryz.func105, Tryz.ntmps105
  go_wp2
  go_loopw [8] (fun i wr => ∃ k : Nat, k ≤ l.length ∧ i = .int .i64 k ∧ Below w.heap.size w wr ∧ Hid (∀ j, j < k → ((l.getD j ([], [])).1 == n1.data.toList) = false)) (fun i _ => l.length - (intOf i).toNat)
  case atStart => exact ⟨0, by omega, rfl, Below.refl _ _, Lib.hid (fun j hj => by omega)⟩
  case round =>
    obtain ⟨k, hk, rfl, hbw, HN⟩ := hrel
    by_cases hlt : k < l.length
    · obtain ⟨ad, rfl, hc0, hc1⟩ := (HLL.out.below hbw).at_ hlt
      have hb' : wr.cell? ⟨b, 0, none⟩ = some (.string n1) := (hbw.cell (World.block_lt_of_cell? w _ HB.out)).trans HB.out
      have SC := Lib.hid (same_name_calls wr b n1 (mkS (l.getD k ([], [])).1) (mkS (l.getD k ([], [])).2) hb')
      rw [ByteArray.toList_eq, ByteArray.toList_eq, of_mkS] at SC
      obtain ⟨e, he⟩ : ∃ e, ((l.getD k ([], [])).1 == n1.data.toList) = e := ⟨_, rfl⟩
      rw [he] at SC
      have HE := Lib.hid he
      clear hb' he
      obtain ⟨x, hx⟩ : ∃ x, l.getD k ([], []) = x := ⟨_, rfl⟩
      rw [hx] at hc0 hc1 SC
      clear hx
      cases e with
      | true =>
        have HQ := Lib.hid (idxName_at l n1.data.toList k hlt HN.out HE.out)
        go_wp2_with (go_at_call 84; refine SC.out.mono ?_; rintro e w1 ⟨rfl, hb1⟩)
        go_ret
        exact ⟨by rw [HQ.out]; rfl, below_then hbw hbw.size hb1⟩
      | false =>
        go_wp2_with (go_at_call 84; refine SC.out.mono ?_; rintro e w1 ⟨rfl, hb1⟩)
        go_roundw
        case rel => exact ⟨k + 1, by omega, by go_num, below_then hbw hbw.size hb1, Lib.hid (fun j hj => by
          by_cases ej : j = k
          · subst ej; exact HE.out
          · exact HN.out j (by omega))⟩
        case measure => simp [intOf]; omega
    · have hno := idxName_none l n1.data.toList (fun j hj => HN.out j (by omega))
      have HQ : Hid (idxName l n1.data.toList = -1) := Lib.hid (by rw [idxName, hno]; rfl)
      clear hno
      go_wp2
      go_ret
      exact ⟨by rw [HQ.out]; rfl, hbw⟩

set_option maxHeartbeats 1000000 in
theorem containsFunc_calls (w : World) (b : Nat) (n1 : ByteArray) (A : Option Addr) (c : Nat) (l : List AttrT) (hb : w.cell? ⟨b, 0, none⟩ = some (.string n1)) (hl : AttrsAt w A l) (hz : l.length ≤ 1000000000) :
    Calls Tryz.prog 83 #[.slice A l.length c, .func (.func 84) #[] #[.pointer (some ⟨b, 0, none⟩)]] w fun e w' =>
      e = .returned (.bool (hasName l n1.data.toList)) ∧ Below w.heap.size w w' := by
  have IC := Lib.hid (indexFunc_calls w b n1 A c l hb hl hz)
  rw [← idxName_ge]
  clear hb hl
  go_enter Tryz.func83, Tryz.ntmps83
  go_wp2_with (go_at_call 105; refine IC.out.mono ?_; rintro e w1 ⟨rfl, hb1⟩)
  go_ret
  exact ⟨rfl, hb1⟩

def addL (l : List AttrT) (a : AttrT) : List AttrT := if hasName l a.1 then l else l ++ [a]
theorem infoA : (Tryz.prog.info? 48).map (fun i => (i.zero, i.size, i.bytes)) = some (some (.agg #[.string ⟨#[]⟩, .string ⟨#[]⟩]), 2, 32) := by kernel_rfl

theorem blk_set {w : World} {b : Nat} {cs : Array Value} {t : TypeId} (h : w.heap[b]? = some (.cells cs t (0, 0))) (i : Nat) (u : Value) : (w.setCell ⟨b, i, none⟩ u).heap[b]? = some (.cells (cs.setIfInBounds i u) t (0, 0)) := by
  simp [World.setCell, Array.getElem?_modify, h]
theorem grown_set (w : World) (p : Addr) (u : Value) : w.grownBy (w.setCell p u) (some p.block) :=
  ⟨rfl, rfl, rfl, by simp, fun k _ hne => Below.heap_setCell w p u k (fun e => hne (by rw [e]))⟩
/-- A token in a block of its own, with a row of attributes from block B on. -/
def TokAt (w : World) (B tb : Nat) (k : Int) (name : ByteArray) (v : Value) (l : List AttrT) (self : Bool) : Prop :=
  w.heap[tb]? = some (.cells #[.int .i64 k, .string name, v, .bool self, .string ⟨#[]⟩] 30 (0, 0)) ∧ w.ownsRow B 48 2 v l.length (attrCells l)
theorem own_attrs {w : World} {B : Nat} {v : Value} {l : List AttrT} (h : w.ownsRow B 48 2 v l.length (attrCells l)) : ∃ A c, v = .slice A l.length c ∧ l.length ≤ c ∧ AttrsAt w A l := by
  rcases Nat.eq_zero_or_pos l.length with h0 | h0
  · rcases h.2 with ⟨rfl, _⟩ | ⟨g, cap, cur, rfl, _, _, hle, _⟩
    · exact ⟨none, 0, by rw [h0], by omega, fun hp => by omega⟩
    · exact ⟨_, cap, rfl, hle, fun hp => by omega⟩
  · rcases h.2 with ⟨_, h1⟩ | ⟨g, cap, cur, rfl, _, _, hle, _⟩
    · omega
    · exact ⟨_, cap, rfl, hle, fun _ => ⟨_, rfl, h.cells (g := g) rfl⟩⟩

set_option maxRecDepth 100000 in
set_option maxHeartbeats 2000000 in
theorem add_calls (w : World) (B tb : Nat) (k : Int) (name : ByteArray) (v : Value) (l : List AttrT) (self : Bool) (a : AttrT) (h : TokAt w B tb k name v l self) (htb : tb < B) (hB : B ≤ w.heap.size) (hz : l.length ≤ 100000000) :
    Calls Tryz.prog 55 #[.pointer (some ⟨tb, 0, none⟩), .agg #[.string (mkS a.1), .string (mkS a.2)]] w fun e w' =>
      e = .returned (.tuple #[]) ∧ ∃ v', TokAt w' B tb k name v' (addL l a) self ∧ Ch (fun i => i = tb ∨ B ≤ i) w w' := by
  obtain ⟨hblk, hown⟩ := h
  obtain ⟨A, c, rfl, hle, hat⟩ := own_attrs hown
  have t2 := blk_cell hblk 2
  have f2 := blk_frozen hblk 2
  have htl := blk_lt hblk
  have CC := Lib.hid (fun W hb hl => containsFunc_calls W w.heap.size (mkS a.1) A c l hb hl (by omega))
  rw [of_mkS] at CC
  have HBK := Lib.hid hblk
  have HOW := Lib.hid hown
  have HAT := Lib.hid hat
  clear hblk hat
  cases hh : hasName l a.1 with
  | true =>
    have HH := Lib.hid hh
    have HA : Hid (addL l a = l) := Lib.hid (by rw [addL, if_pos hh])
    clear hh
    go_enter Tryz.func55, Tryz.ntmps55
    go_wp2_with (go_at_call 83; refine (CC.out _ (by go_simp) (HAT.out.below ((Below.refl _ _).alloc (Nat.le_refl _) _))).mono ?_; rintro e w1 ⟨rfl, hb1⟩; rw [HH.out])
    go_end0
    have hb2 : Below w.heap.size w w1 := below_then ((Below.refl _ _).alloc (Nat.le_refl _) _) (by simp) hb1
    exact ⟨rfl, _, by rw [HA.out]; exact ⟨blk_below HBK.out hb2, HOW.out.kept (row := none) ⟨hb2.os, hb2.tape, hb2.output, hb2.size, fun i hi _ => hb2.block i hi⟩ (by cases A <;> simp [Value.ownBlock])⟩, Ch.of_below hb2⟩
  | false =>
    have HH := Lib.hid hh
    have HA : Hid (addL l a = l ++ [a]) := Lib.hid (by rw [addL, hh]; rfl)
    clear hh
    obtain ⟨i0, hi, hz0, hz1, hz2⟩ := info_parts infoA
    go_enter Tryz.func55, Tryz.ntmps55
    go_wp2_with (go_at_call 83; refine (CC.out _ (by go_simp) (HAT.out.below ((Below.refl _ _).alloc (Nat.le_refl _) _))).mono ?_; rintro e w1 ⟨rfl, hb1⟩; rw [HH.out])
    have hb2 : Below w.heap.size w w1 := below_then ((Below.refl _ _).alloc (Nat.le_refl _) _) (by simp) hb1
    have hbox := blk_below (blk_new w #[.string (mkS a.1), .string (mkS a.2)] 48) hb1
    have x0 := blk_cell hbox 0
    have x1 := blk_cell hbox 1
    have hblk1 := blk_below HBK.out hb2
    have hown1 := HOW.out.kept (w' := w1) (row := none) ⟨hb2.os, hb2.tape, hb2.output, hb2.size, fun i hi _ => hb2.block i hi⟩ (by cases A <;> simp [Value.ownBlock])
    have t21 := blk_cell hblk1 2
    have f21 := blk_frozen hblk1 2
    have htl1 := blk_lt hblk1
    have hwl := blk_lt hbox
    have hown3 := hown1.kept (w' := w1.drew.alloc (.cells #[.string (mkS a.1), .string (mkS a.2)] 48)) (row := none) ⟨rfl, rfl, rfl, by simp, fun i hi _ => heap_alloc_old w1.drew _ hi⟩ (by cases A <;> simp [Value.ownBlock])
    have h63 : l.length + 1 ≤ maxLen := by unfold maxLen; omega
    have hbs : B ≤ (w1.drew.alloc (.cells #[.string (mkS a.1), .string (mkS a.2)] 48)).heap.size := by have := hb2.size; simp; omega
    have hone : ∀ u ∈ [Value.string (mkS a.1), .string (mkS a.2)], u.oneCell' = true := by simp [Value.oneCell']
    have hfar : some tb ≠ (Value.slice A l.length c).ownBlock := by
      intro e
      rcases hown1.2 with ⟨h0, _⟩ | ⟨g, cap, cur, h0, hg, _⟩
      · rw [h0] at e; cases e
      · rw [h0] at e; simp [Value.ownBlock] at e; omega
    have t23 : (w1.drew.alloc (.cells #[.string (mkS a.1), .string (mkS a.2)] 48)).cell? ⟨tb, 2, none⟩ = some (.slice A l.length c) := (World.cell?_of_block (heap_alloc_old w1.drew _ htl1)).trans t21
    have f23 : (w1.drew.alloc (.cells #[.string (mkS a.1), .string (mkS a.2)] 48)).frozen? ⟨tb, 2, none⟩ = false := (World.frozen?_of_block (heap_alloc_old w1.drew _ htl1)).trans f21
    have hsz1 : tb < (w1.drew.alloc (.cells #[.string (mkS a.1), .string (mkS a.2)] 48)).heap.size := by simp; omega
    go_region_law (refine step_append_lies _ (by rfl) _ _ _ (by rfl) B 48 i0 _ 2 _ Tryz.underlying28 hi hz0 hz1 hz2 rfl (by decide) _ l.length (attrCells l) (by rfl) hown3 ⟨w1.heap.size, 0, none⟩ 1 1 [.string (mkS a.1), .string (mkS a.2)] (by rfl) rfl (World.news_of_block (heap_alloc_new w1.drew _)) hone (by decide) h63 (by omega) hbs (w1.heap.size + 1) (by simp) ?_; intro g cap w2 hown2 hg2 hat2 hlt2; have t22 := (hg2.cell_far ⟨tb, 2, none⟩ hsz1 hfar).trans t23; have f22 := (hg2.frozen_far ⟨tb, 2, none⟩ hsz1 hfar).trans f23)
    all_goals go_end0
    all_goals (
      refine ⟨rfl, .slice (some ⟨g, 0, none⟩) (l.length + 1) cap, ⟨?_, ?_⟩, ?_⟩
      · exact blk_set (((hg2.block tb hsz1 hfar).trans (heap_alloc_old w1.drew _ htl1)).trans hblk1) 2 _
      · rw [HA.out, attrCells_snoc, List.length_append]
        refine hown2.kept (grown_set w2 _ _) (.inr ?_)
        rcases hown2.2 with ⟨_, h0⟩ | ⟨g', _, _, h0, hg', _⟩
        · omega
        · rw [h0]; simp [Value.ownBlock]; omega
      · refine (Ch.ofGrown (((Ch.of_below hb2).drew).alloc _) hg2 ?_).setCell (.inl (.inl rfl)) _
        intro k hk
        rcases hown.2 with ⟨h0, _⟩ | ⟨g', _, _, h0, hg', _⟩
        · rw [h0] at hk; cases hk
        · rw [h0] at hk; simp [Value.ownBlock] at hk; exact .inl (.inr (by omega)))

end Go.Proofs.YthfkldheflmlmaaGreatDoor
