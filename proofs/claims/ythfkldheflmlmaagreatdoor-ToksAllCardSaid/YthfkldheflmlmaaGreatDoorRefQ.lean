/- The reference's smaller steps (rectoref05: has, past, odd): contracts. -/
import Derived.Test.YthfkldheflmlmaaGreatDoorRefP
import Derived.Test.YthfkldheflmlmaaGreatDoorNote
import Derived.Test.YthfkldheflmlmaaGreatDoorTail
namespace Go.Proofs.YthfkldheflmlmaaGreatDoor
open Go.RowKit Go.Lib

theorem tail_same {P : Program} {f : FuncId} {args : Array Value} {w : World} {v : Value} (h : Calls P f args w fun e w' => e = .returned v ∧ w = w') : Calls P f args w fun e w'' => e = .returned v ∧ w'' = w :=
  h.mono fun _ _ ⟨he, hm⟩ => ⟨he, hm.symm⟩
set_option maxRecDepth 100000 in
set_option maxHeartbeats 1000000 in
theorem rhas_calls (w : World) (n1 : ByteArray) (A : Option Addr) (c : Nat) (l : List AttrT) (hl : AttrsAt w A l) (hz : l.length ≤ 1000000000) :
    Calls Tryz.prog 63 #[.slice A l.length c, .string n1] w fun e w' =>
      e = .returned (.bool (hasName l n1.data.toList)) ∧ Below w.heap.size w w' := by
  have HLL := Lib.hid hl
  clear hl
  go_enter Tryz.func63, Tryz.ntmps63
  go_wp2
  go_loopw [9] (fun i wr => ∃ k : Nat, k ≤ l.length ∧ i = .int .i64 k ∧ Below w.heap.size w wr ∧ Hid (∀ j, j < k → ((l.getD j ([], [])).1 == n1.data.toList) = false)) (fun i _ => l.length - (RowKit.intOf i).toNat)
  case atStart => exact ⟨0, by omega, rfl, Below.refl _ _, Lib.hid (fun j hj => by omega)⟩
  case round =>
    obtain ⟨k, hk, rfl, hbw, HN⟩ := hrel
    by_cases hlt : k < l.length
    · obtain ⟨ad, rfl, hc0, hc1⟩ := (HLL.out.below hbw).at_ hlt
      have hq : ((mkS (l.getD k ([], [])).1).toList == n1.toList) = ((l.getD k ([], [])).1 == n1.data.toList) := by rw [ByteArray.toList_eq, ByteArray.toList_eq, of_mkS]
      obtain ⟨e, he⟩ : ∃ e, ((l.getD k ([], [])).1 == n1.data.toList) = e := ⟨_, rfl⟩
      rw [he] at hq
      have HE := Lib.hid he
      have hx : l.getD k ([], []) ∈ l := by rw [List.getD, List.getElem?_eq_getElem hlt]; exact List.getElem_mem hlt
      have HX := Lib.hid hx
      clear he hx
      generalize hgx : l.getD k ([], []) = x at *
      have HGX := Lib.hid hgx
      clear hgx
      cases e with
      | true =>
        have HQ : Hid (hasName l n1.data.toList = true) := Lib.hid (List.any_eq_true.2 ⟨x, HX.out, HE.out⟩)
        go_wp2
        go_ret
        exact ⟨by rw [HQ.out]; rfl, hbw.alloc hbw.size _⟩
      | false =>
        go_wp2
        go_roundw
        case rel => exact ⟨k + 1, by omega, by go_num, hbw.alloc hbw.size _, Lib.hid (fun j hj => by
          by_cases ej : j = k
          · rw [ej, HGX.out]; exact HE.out
          · exact HN.out j (by omega))⟩
        case measure => simp [RowKit.intOf]; omega
    · have hno := idxName_none l n1.data.toList (fun j hj => HN.out j (by omega))
      have HQ := Lib.hid hno
      clear hno
      go_wp2
      go_ret
      exact ⟨by rw [HQ.out]; rfl, hbw⟩
/-- A token of the reference's, and the place behind it. -/
def GotV (w : World) (B : Nat) (t : TokM) (n : Nat) (v : Value) : Prop :=
  ∃ va, v = .agg #[.int .i64 t.k, .string (mkS t.name), va, .bool t.self, .string (mkS t.text), .int .i64 n] ∧ w.ownsRow B 48 2 va t.attrs.length (attrCells t.attrs)
theorem GotV.plain (w : World) (B : Nat) (k : Int) (l : List UInt8) (n : Nat) : GotV w B ⟨k, [], [], false, l⟩ n (.agg #[.int .i64 k, .string ⟨#[]⟩, .slice none 0 0, .bool false, .string (mkS l), .int .i64 n]) := ⟨_, rfl, zero_owns _ _ _ _⟩
theorem GotV.of {w : World} {B : Nat} {t : TokM} {n : Nat} {va : Value} {x : Int} {y : ByteArray} (hy : y = mkS t.text) (h : w.ownsRow B 48 2 va t.attrs.length (attrCells t.attrs)) (hx : x = ((n : Nat) : Int)) :
    GotV w B t n (.agg #[.int .i64 t.k, .string (mkS t.name), va, .bool t.self, .string y, .int .i64 x]) := ⟨va, by rw [hx, hy], h⟩
theorem past_calls (w : World) (s x : ByteArray) (i : Nat) (hs : s.size ≤ 1000000) (hx : x.size ≤ 1000000) :
    Calls Tryz.prog 69 #[.string s, .int .i64 i, .string x] w fun e w' => e = .returned (.int .i64 ((if s.size ≤ i then s.size else i + x.size : Nat) : Int)) ∧ w = w' := by
  by_cases h : s.size ≤ i
  · have h' : (s.size : Int) ≤ i := by omega
    rw [if_pos h]
    clear h
    go_enter Tryz.func69, Tryz.ntmps69
    go_wp2
    go_ret
    exact ⟨rfl, rfl⟩
  · have h' : ¬ (s.size : Int) ≤ i := by omega
    rw [if_neg h]
    go_enter Tryz.func69, Tryz.ntmps69
    go_wp2
    go_ret
    exact ⟨by go_num, rfl⟩
theorem rfind_index (p : List UInt8) (hp : p ≠ []) : ∀ l : List UInt8, (index l p = -1 ∧ rfindL p l = l.length) ∨ (0 ≤ index l p ∧ (rfindL p l : Int) = index l p ∧ rfindL p l + p.length ≤ l.length)
  | [] => .inl ⟨by rw [index, if_neg (by cases p <;> simp_all)], rfl⟩
  | b :: t => by
    rw [index, rfindL]
    by_cases h : p.isPrefixOf (b :: t) = true
    · have h' : hasPrefix (b :: t) p = true := h
      rw [if_pos h, if_pos h']
      have := (List.isPrefixOf_iff_prefix.1 h).length_le
      exact .inr ⟨Int.le_refl _, rfl, by omega⟩
    · have h' : ¬ hasPrefix (b :: t) p = true := h
      rw [if_neg h, if_neg h']
      rcases rfind_index p hp t with ⟨h1, h2⟩ | ⟨h1, h2, h3⟩
      · rw [h1]
        exact .inl ⟨rfl, by rw [h2, List.length_cons, Nat.add_comm]⟩
      · have hne : (index t p == -1) = false := beq_eq_false_iff_ne.2 (by omega)
        rw [hne, if_neg (by simp)]
        exact .inr ⟨by omega, by omega, by rw [List.length_cons]; omega⟩
theorem toL_find (p l : List UInt8) (hp : p ≠ []) : toL p l = (l.take (rfindL p l), if l.length ≤ rfindL p l then l.length else rfindL p l + p.length) := by
  have hpl : 0 < p.length := List.length_pos_iff.2 hp
  have hc : (cut l p).1 = l.take (rfindL p l) := by
    rw [cut]
    rcases rfind_index p hp l with ⟨h1, h2⟩ | ⟨h1, h2, h3⟩
    · rw [if_neg (by omega), h2, List.take_length]
    · rw [if_pos h1, show (index l p).toNat = rfindL p l by omega]
  rw [toL, hc, List.length_take]
  refine Prod.ext rfl ?_
  simp only
  rcases rfind_index p hp l with ⟨h1, h2⟩ | ⟨h1, h2, h3⟩
  · rw [if_pos (by omega)]; omega
  · rw [if_neg (by omega)]; omega
set_option maxRecDepth 100000 in
set_option maxHeartbeats 4000000 in
theorem rodd_calls (w : World) (s : ByteArray) (i : Nat) (hi : i ≤ s.size) (hs : s.size ≤ 1000000) :
    Calls Tryz.prog 66 #[.string s, .int .i64 i] w fun e w' => ∃ v, e = .returned v ∧ GotV w' w.heap.size (oddL (s.data.toList.drop i)).1 (i + (oddL (s.data.toList.drop i)).2) v ∧ Below w.heap.size w w' := by
  have hl := rfindL_le [62] (s.data.toList.drop i)
  rw [List.length_drop, len_toL] at hl
  obtain ⟨n, hn⟩ : ∃ n, rfindL [62] (s.data.toList.drop i) = n := ⟨_, rfl⟩
  obtain ⟨z, hz⟩ : ∃ z, i + n = z := ⟨_, rfl⟩
  obtain ⟨e, he⟩ : ∃ e, (if s.size ≤ z then s.size else z + 1) = e := ⟨_, rfl⟩
  have ho : oddL (s.data.toList.drop i) = (noteT ((s.data.toList.drop i).take n), e - i) := by
    rw [oddL, toL_find _ _ (by simp), hn, List.length_drop, len_toL]
    refine Prod.ext rfl ?_
    simp only
    rw [← he]
    by_cases h : s.size - i ≤ n
    · rw [if_pos h, if_pos (by omega)]
    · rw [if_neg h, if_neg (by omega)]; simp; omega
  have F1 : Hid (∀ W, Calls Tryz.prog 68 #[.string s, .int .i64 (i : Int), .string ⟨#[62]⟩] W fun y w' => y = .returned (.int .i64 (z : Int)) ∧ W = w') := Lib.hid (fun W => by
    have := rfind_calls W s ⟨#[62]⟩ i hs (by decide) (by decide) hi
    rwa [show (⟨#[62]⟩ : ByteArray).data.toList = [62] from rfl, hn, hz] at this)
  have P1 : Hid (∀ W, Calls Tryz.prog 69 #[.string s, .int .i64 (z : Int), .string ⟨#[62]⟩] W fun y w' => y = .returned (.int .i64 (e : Int)) ∧ W = w') := Lib.hid (fun W => by
    have := past_calls W s ⟨#[62]⟩ z hs (by decide)
    rwa [show (⟨#[62]⟩ : ByteArray).size = 1 from rfl, he] at this)
  have hie : i + (e - i) = e := by rw [← he]; split <;> omega
  have hex : s.extract i z = mkS ((s.data.toList.drop i).take n) := by
    rw [← mkS_of (s.extract i z), toL_extract, show z - i = n by omega]
  have HEX := Lib.hid hex
  have HO := Lib.hid ho
  have HE := Lib.hid hie
  have i1 : (i : Int) ≤ (z : Int) := by omega
  have i2 : (z : Int) ≤ (s.size : Int) := by omega
  have hR := blk_new w #[.int .i64 0, .string ⟨#[]⟩, .slice none 0 0, .bool false, .string ⟨#[]⟩, .int .i64 0] 42
  have hb0 : Below w.heap.size w (w.alloc (.cells #[.int .i64 0, .string ⟨#[]⟩, .slice none 0 0, .bool false, .string ⟨#[]⟩, .int .i64 0] 42)) := (Below.refl _ _).alloc (Nat.le_refl _) _
  clear hl hn hz he ho hie hex
  go_enter Tryz.func66, Tryz.ntmps66
  go_upto_region 1 with fail
  generalize w.alloc (.cells #[.int .i64 0, .string ⟨#[]⟩, .slice none 0 0, .bool false, .string ⟨#[]⟩, .int .i64 0] 42) = w0 at *
  have c0 := blk_cell hR 0
  have c1 := blk_cell hR 1
  have c2 := blk_cell hR 2
  have c3 := blk_cell hR 3
  have c4 := blk_cell hR 4
  have c5 := blk_cell hR 5
  have f0 := blk_frozen hR 0
  have f1 := blk_frozen hR 1
  have f2 := blk_frozen hR 2
  have f3 := blk_frozen hR 3
  have f4 := blk_frozen hR 4
  have f5 := blk_frozen hR 5
  have hlt := blk_lt hR
  go_wp2_with (go_at_call 68; (with_reducible refine (F1.out _).mono ?_); rintro y w1 ⟨rfl, rfl⟩)
  refine region_tail 9 (by kernel_rfl) (by kernel_rfl) ?_
  simp only [List.take_succ_cons, List.take_zero, List.drop_succ_cons, List.drop_zero]
  repeat (go_big_quiet_step (first | exact tail_same (P1.out _) _))
  refine wpQuiet_nil ?_
  go_wp2
  refine bodyPost_ret (v := .agg #[.int .i64 4, .string ⟨#[]⟩, .slice none 0 0, .bool false, .string (s.extract i z), .int .i64 e]) ?_ rfl ⟨_, rfl, ?_, ?_⟩
  · simp [results, Tryz.results66, go_sem, c0, c1, c2, c3, c4, c5]
  · rw [HO.out, HE.out, HEX.out]; exact GotV.plain _ _ _ _ _
  · refine below_drew1 ?_
    exact (((((hb0.setCell (Nat.le_refl _) _).setCell (Nat.le_refl _) _).setCell (Nat.le_refl _) _).setCell (Nat.le_refl _) _).setCell (Nat.le_refl _) _).setCell (Nat.le_refl _) _

end Go.Proofs.YthfkldheflmlmaaGreatDoor
