/- Words that the walks share: blocks, worlds, texts, rows of attributes. -/
import Derived.Test.YtdlenbkkcpcbmaaProg
import Derived.WalkKit
import Derived.WalkLawsBesides
import Derived.WalkSpells
import Derived.Below
import Derived.Deep.Draws
import Derived.Deep.QuietTactic
import Derived.BigQuiet
import Derived.StillTail
import Derived.Lib.Hide
import Derived.Lib.QuietBelow
import Derived.OwnWalk
import Derived.Laws.Rows
import Derived.Outline
import Derived.Lib.ConvBytes
import Derived.Deep.LoopGhost
import Derived.Deep.RegionWith
import Derived.Deep.DeepCutAuto
import Derived.Deep.Cut
import Derived.Maps.AppendAt
import Derived.IntWalk
import Derived.Lib.IndexMore
namespace Go.Proofs.Ytdlenbkkcpcbmaa
open Go.RowKit Go.Lib

def mkS (l : List UInt8) : ByteArray := ⟨l.toArray⟩
theorem of_mkS (l : List UInt8) : (mkS l).data.toList = l := by simp [mkS]
theorem mkS_of (s : ByteArray) : mkS s.data.toList = s := rfl
theorem size_mkS (l : List UInt8) : (mkS l).size = l.length := by show l.toArray.size = l.length; simp
theorem add0 (g j : Nat) : (⟨g, 0, none⟩ : Addr).add j = ⟨g, j, none⟩ := by unfold Addr.add; split <;> simp_all
theorem push_fold (l : List UInt8) : ∀ s : ByteArray, l.foldl (fun r b => r.push b) s = ⟨s.data ++ l.toArray⟩ := by
  induction l with
  | nil => intro s; simp
  | cons b l ih => intro s; rw [List.foldl_cons, ih]; simp [ByteArray.push]
theorem conv_bytes_string {P : Program} (w : World) (src dst e : TypeId) (a : Addr) (n c : Nat) (l : List UInt8) (hl : l.length = n)
    (hs : P.underlying src = some (.slice e)) (he : P.underlying e = some (.int .u8)) (hd : P.underlying dst = some .string)
    (hc : ∀ j, j < n → w.cell? (a.add j) = some (.int .u8 (l.getD j 0).toNat)) :
    (convert src dst (.slice (some a) n c)).run P w = .ok (.string (mkS l)) w := by
  rw [run_convert_bytes_string w src dst e _ n c hs he hd, run_bytesToString (ns := l.map fun b => (b.toNat : Int))]
  · rw [List.foldl_map]
    simp only [Int.toNat_natCast, UInt8.ofNat_toNat]
    rw [push_fold]
    simp [mkS, ByteArray.empty, ByteArray.emptyWithCapacity]
    rfl
  · rw [run_loadCells (w := w) a n (fun j => .int .u8 (l.getD j 0).toNat) hc]
    congr 1
    apply Array.ext
    · simp [hl]
    · intro i h1 h2
      simp at h1 h2
      simp [List.getD, h2]
theorem ret_int {k : IntKind} {a b : Int} (h : a = b) : Ending.returned (.int k a) = .returned (.int k b) := by rw [h]
theorem len_toL (s : ByteArray) : s.data.toList.length = s.size := Array.length_toList
theorem toL_extract (s : ByteArray) (a b : Nat) : (s.extract a b).data.toList = (s.data.toList.drop a).take (b - a) := by
  rw [← ByteArray.toList_eq]; exact Lib.extract_toList s a b
theorem toL_from (s : ByteArray) (a : Nat) : (s.extract a s.size).data.toList = s.data.toList.drop a := by
  rw [toL_extract, List.take_of_length_le (by simp)]
theorem size_from (s : ByteArray) (a : Nat) : (s.extract a s.size).size = s.size - a := by
  rw [← len_toL, toL_from]; simp
theorem nonempty_toL {s : ByteArray} (h : 0 < s.size) : (s.toList.isEmpty) = false := by
  rw [ByteArray.toList_eq]; simpa using fun h' => (by omega : s.size ≠ 0) (by show s.data.size = 0; rw [h']; rfl)
theorem empty_toL {s : ByteArray} (h : s.size = 0) : s.toList = [] := by
  rw [ByteArray.toList_eq]; exact List.length_eq_zero_iff.mp (Array.length_toList.trans h)
/-- The byte at a place; 0 beyond the end. -/
def bI (s : ByteArray) (i : Nat) : Int := ((s.data.toList.getD i 0).toNat : Int)
theorem bI_at (s : ByteArray) (i : Nat) : ∀ h : i < s.size, ((s[i]'h).toNat : Int) = bI s i := fun h => by
  have : i < s.data.size := h
  simp [bI, List.getD, ByteArray.getElem_eq_getElem_data, Array.getElem?_eq_getElem this]
theorem bI_range (s : ByteArray) (i : Nat) : 0 ≤ bI s i ∧ bI s i ≤ 255 := by
  unfold bI
  have := (s.data.toList.getD i 0).toNat_lt
  omega
theorem bI_end (s : ByteArray) (i : Nat) (h : s.size ≤ i) : bI s i = 0 := by
  rw [bI, List.getD, List.getElem?_eq_none (by rw [len_toL]; exact h)]; rfl
def uB (s : ByteArray) (i : Nat) : UInt8 := s.data.toList.getD i 0
theorem bI_uB (s : ByteArray) (i : Nat) : bI s i = ((uB s i).toNat : Int) := rfl
theorem drop_uB (s : ByteArray) (n : Nat) (h : n < s.size) : s.data.toList.drop n = uB s n :: s.data.toList.drop (n + 1) := by
  have hl : n < s.data.toList.length := by rw [len_toL]; exact h
  rw [List.drop_eq_getElem_cons hl, uB, List.getD, List.getElem?_eq_getElem hl]
  rfl
def byteL (c : Int) : UInt8 := UInt8.ofNat c.toNat
theorem byteL_nat (c : Int) : ((byteL c).toNat : Int) = ((c.toNat % 256 : Nat) : Int) := by simp [byteL]
theorem run_one_byte {P : Program} (w : World) (a : Addr) (b : Int) (hb0 : 0 ≤ b) (hb1 : b ≤ 255) (src dst e : TypeId) (hs : P.underlying src = some (.slice e)) (he : P.underlying e = some (.int .u8)) (hd : P.underlying dst = some .string) (n c : Nat) (hn : n = 1)
    (hc : w.cell? a = some (.int .u8 b)) : (convert src dst (.slice (some a) n c)).run P w = .ok (.string (mkS [byteL b])) w := by
  subst hn
  refine conv_bytes_string w src dst e a 1 c [byteL b] rfl hs he hd (fun j hj => ?_)
  obtain rfl : j = 0 := by omega
  rw [show a.add 0 = a from by unfold Addr.add; simp, hc]
  simp [byteL_nat]
  omega
theorem mkS_snoc (l : List UInt8) (x : ByteArray) (m : List UInt8) (h : x.data.toList = m) : mkS l ++ x = mkS (l ++ m) := by
  subst h
  apply ByteArray.ext
  apply Array.ext'
  simp [mkS]
theorem below_then {B : Nat} {w w1 w2 : World} (h : Below B w w1) (hB : B ≤ w1.heap.size) (k : Below w1.heap.size w1 w2) : Below B w w2 :=
  h.trans ⟨k.os, k.tape, k.output, k.size, fun i hi => k.block i (Nat.lt_of_lt_of_le hi hB)⟩
theorem below_drewN {B : Nat} {a w : World} (h : Below B a w) (n : Nat) : Below B a (w.drewN n) := ⟨h.os, h.tape, h.output, h.size, h.block⟩
theorem below_drew1 {B : Nat} {a w : World} (h : Below B a w) : Below B a w.drew := ⟨h.os, h.tape, h.output, h.size, h.block⟩
theorem quiet_same {P : Program} {f : FuncId} {args : Array Value} {w : World} {n : Nat} {v : Value}
    (h : Calls P f args (w.drewN n) fun e w' => e = .returned v ∧ w.drewN n = w') : Calls P f args (w.drewN n) fun e w'' => e = .returned v ∧ ∃ m, w'' = w.drewN m :=
  h.mono fun _ _ ⟨he, hm⟩ => ⟨he, n, hm.symm⟩
/-- Of what lay in w nothing has changed but blocks of O. -/
structure Ch (O : Nat → Prop) (w w' : World) : Prop where
  os : w'.os = w.os
  tape : w'.tape = w.tape
  output : w'.output = w.output
  size : w.heap.size ≤ w'.heap.size
  block : ∀ k, k < w.heap.size → ¬ O k → w'.heap[k]? = w.heap[k]?
theorem Ch.refl (O : Nat → Prop) (w : World) : Ch O w w := ⟨rfl, rfl, rfl, Nat.le_refl _, fun _ _ _ => rfl⟩
theorem Ch.trans {O O1 : Nat → Prop} {w w1 w2 : World} (h : Ch O w w1) (k : Ch O1 w1 w2) (hO : ∀ i, i < w.heap.size → O1 i → O i) : Ch O w w2 :=
  ⟨k.os.trans h.os, k.tape.trans h.tape, k.output.trans h.output, Nat.le_trans h.size k.size, fun i hi ho => (k.block i (Nat.lt_of_lt_of_le hi h.size) (fun hx => ho (hO i hi hx))).trans (h.block i hi ho)⟩
theorem Ch.same {O : Nat → Prop} {w w1 w2 : World} (h : Ch O w w1) (k : Ch O w1 w2) : Ch O w w2 := h.trans k (fun _ _ x => x)
theorem Ch.of_below {O : Nat → Prop} {w w' : World} (h : Below w.heap.size w w') : Ch O w w' := ⟨h.os, h.tape, h.output, h.size, fun i hi _ => h.block i hi⟩
theorem Ch.then_below {O : Nat → Prop} {w w1 w2 : World} (h : Ch O w w1) (k : Below w1.heap.size w1 w2) : Ch O w w2 := h.same (Ch.of_below k)
theorem Ch.alloc {O : Nat → Prop} {w w1 : World} (h : Ch O w w1) (o : Obj) : Ch O w (w1.alloc o) := h.then_below ((Below.refl _ _).alloc (Nat.le_refl _) o)
theorem Ch.drew {O : Nat → Prop} {w w1 : World} (h : Ch O w w1) : Ch O w w1.drew := ⟨h.os, h.tape, h.output, h.size, h.block⟩
theorem Ch.drewN {O : Nat → Prop} {w w1 : World} (h : Ch O w w1) (n : Nat) : Ch O w (w1.drewN n) := ⟨h.os, h.tape, h.output, h.size, h.block⟩
theorem Ch.setCell {O : Nat → Prop} {w w1 : World} (h : Ch O w w1) {p : Addr} (hp : O p.block ∨ w.heap.size ≤ p.block) (u : Value) : Ch O w (w1.setCell p u) :=
  ⟨h.os, h.tape, h.output, by simpa [World.setCell] using h.size, fun i hi ho => (Below.heap_setCell w1 p u i (by
    rintro rfl
    rcases hp with hp | hp
    · exact ho hp
    · omega)).trans (h.block i hi ho)⟩
theorem Ch.toBelow {O : Nat → Prop} {w w1 : World} {B : Nat} (h : Ch O w w1) (hB : B ≤ w.heap.size) (hO : ∀ i, i < B → ¬ O i) : Below B w w1 :=
  ⟨h.os, h.tape, h.output, h.size, fun i hi => h.block i (by omega) (hO i hi)⟩
theorem Ch.blk {O : Nat → Prop} {w w1 : World} {k : Nat} {o : Obj} (h : Ch O w w1) (hb : w.heap[k]? = some o) (ho : ¬ O k) : w1.heap[k]? = some o :=
  (h.block k (Array.getElem?_eq_some_iff.1 hb).1 ho).trans hb
theorem Ch.ofGrown {O : Nat → Prop} {w w0 w1 : World} {row : Option Nat} (h : Ch O w w0) (hg : w0.grownBy w1 row) (hr : ∀ k, row = some k → O k ∨ w.heap.size ≤ k) : Ch O w w1 :=
  h.trans (O1 := fun k => row = some k) ⟨hg.os, hg.tape, hg.output, hg.size, fun i hi hne => hg.block i hi (fun e => hne e.symm)⟩ (fun i hi e => (hr i e).elim id (fun x => by omega))
theorem blk_cell {w : World} {b : Nat} {t : TypeId} {cs : Array Value} (h : w.heap[b]? = some (.cells cs t (0, 0))) (j : Nat) : w.cell? ⟨b, j, none⟩ = cs[j]? := cell_of_row w b j cs t (0, 0) h
theorem blk_frozen {w : World} {b : Nat} {t : TypeId} {cs : Array Value} (h : w.heap[b]? = some (.cells cs t (0, 0))) (j : Nat) : w.frozen? ⟨b, j, none⟩ = false := by simp [World.frozen?, h]
theorem blk_lt {w : World} {b : Nat} {o : Obj} (h : w.heap[b]? = some o) : b < w.heap.size := (Array.getElem?_eq_some_iff.1 h).1
theorem blk_alloc {w : World} {b : Nat} {o : Obj} (h : w.heap[b]? = some o) (o' : Obj) : (w.alloc o').heap[b]? = some o := (Below.heap_alloc w o' b (blk_lt h)).trans h
theorem blk_new (w : World) (cs : Array Value) (t : TypeId) : (w.alloc (.cells cs t)).heap[w.heap.size]? = some (.cells cs t (0, 0)) := heap_alloc_new w _
theorem blk_far {w : World} {b : Nat} {o : Obj} (h : w.heap[b]? = some o) {p : Addr} (hp : b ≠ p.block) (u : Value) : (w.setCell p u).heap[b]? = some o := (Below.heap_setCell w p u b hp).trans h
theorem blk_below {w w' : World} {b : Nat} {o : Obj} (h : w.heap[b]? = some o) (hb : Below w.heap.size w w') : w'.heap[b]? = some o := (hb.block b (blk_lt h)).trans h
theorem blk_drewN {w : World} {b : Nat} {o : Obj} (h : w.heap[b]? = some o) (n : Nat) : (w.drewN n).heap[b]? = some o := h
theorem blk_set {w : World} {b : Nat} {cs : Array Value} {t : TypeId} (h : w.heap[b]? = some (.cells cs t (0, 0))) (i : Nat) (u : Value) : (w.setCell ⟨b, i, none⟩ u).heap[b]? = some (.cells (cs.setIfInBounds i u) t (0, 0)) := by
  simp [World.setCell, Array.getElem?_modify, h]
theorem still_of_quiet {P : Program} {ops : Array Oper} {w : World} {Q : Act → Prop} : ∀ (l : List Oper) (a : Act), wpQuiet P ops (fun w' => w' = w) Q l a → wpStill P ops w Q l a
  | [], _, h => h
  | o :: rest, a, h => by
    unfold wpQuiet at h
    unfold wpStill
    by_cases hw : Region.wanted o (yielded ops a.tmps) = true
    · rw [if_pos hw] at h
      rw [if_pos hw]
      obtain ⟨v, h1, h2⟩ := h
      have h1 := h1 w rfl
      have h2 := still_of_quiet rest _ h2
      unfold Oper.quietAt at h1
      unfold Oper.still
      cases hr : (execOp a.eval o).run P w with
      | ok x w' =>
        rw [hr] at h1
        cases x with
        | value u =>
          obtain ⟨e1, e2⟩ := h1
          subst e1 e2
          exact ⟨rfl, h2⟩
        | skip =>
          obtain ⟨e1, e2⟩ := h1
          subst e1 e2
          exact ⟨rfl, h2⟩
        | enter f args =>
          obtain ⟨e1, e2⟩ := h1
          subst e1
          exact ⟨rfl, v, e2, h2⟩
        | _ => exact h1.elim
      | _ => rw [hr] at h1; exact h1.elim
    · rw [if_neg hw] at h
      rw [if_neg hw]
      exact still_of_quiet rest _ h
theorem region_tail {P : Program} {id : Nat} {Q : Exit → Act → World → Prop} {a : Act} {w : World} {l : List Oper} (n : Nat) (hm : P.follows .mixedOrders = true) (hB : Region.lexTailB .any l.toArray n = true)
    (h : wpQuiet P l.toArray (fun w' => w' = w.drew) (fun a' => wpList P l.toArray Q (l.drop n) a' w.drew) (l.take n) a) : (Code.region id l.toArray true).wp P Q a w :=
  wp_region_still_tail n hm hB (still_of_quiet _ _ h)
theorem tail_same {P : Program} {f : FuncId} {args : Array Value} {w : World} {v : Value} (h : Calls P f args w fun e w' => e = .returned v ∧ w = w') : Calls P f args w fun e w'' => e = .returned v ∧ w'' = w :=
  h.mono fun _ _ ⟨he, hm⟩ => ⟨he, hm.symm⟩
abbrev AttrT := List UInt8 × List UInt8
def attrCells (l : List AttrT) : List Value := l.flatMap fun a => [.string (mkS a.1), .string (mkS a.2)]
theorem attrCells_len (l : List AttrT) : (attrCells l).length = l.length * 2 := by
  induction l with
  | nil => rfl
  | cons a t ih => simp [attrCells] at ih ⊢; omega
theorem attrCells_at (l : List AttrT) (j : Nat) (h : j < l.length) : (attrCells l)[j * 2]? = some (.string (mkS (l.getD j ([], [])).1)) ∧ (attrCells l)[j * 2 + 1]? = some (.string (mkS (l.getD j ([], [])).2)) := by
  induction l generalizing j with
  | nil => cases h
  | cons a t ih =>
    cases j with
    | zero => exact ⟨rfl, rfl⟩
    | succ j =>
      have := ih j (by simpa using h)
      have e : (j + 1) * 2 = j * 2 + 1 + 1 := by omega
      rw [e]
      exact this
theorem attrCells_snoc (l : List AttrT) (a : AttrT) : attrCells (l ++ [a]) = attrCells l ++ [.string (mkS a.1), .string (mkS a.2)] := by simp [attrCells]
/-- A slice of attributes that is read. -/
def AttrsAt (w : World) (A : Option Addr) (l : List AttrT) : Prop := 0 < l.length → ∃ ad, A = some ad ∧ ∀ j u, (attrCells l)[j]? = some u → w.cell? (ad.add j) = some u
theorem AttrsAt.below {w w' : World} {A : Option Addr} {l : List AttrT} (h : AttrsAt w A l) (hb : Below w.heap.size w w') : AttrsAt w' A l := fun hl => by
  obtain ⟨ad, e, hc⟩ := h hl
  exact ⟨ad, e, fun j u hu => (hb.cell (World.block_lt_of_cell? w _ (hc j u hu))).trans (hc j u hu)⟩
theorem add_two (ad : Addr) (j : Nat) : ad.add (j * 2 + 1) = ⟨(ad.add (j * 2)).block, (ad.add (j * 2)).off + 1, none⟩ := by
  unfold Addr.add
  by_cases h : j = 0
  · subst h; simp
  · rw [if_neg (by omega), if_neg (by omega)]
    simp [Nat.add_assoc]
theorem AttrsAt.at_ {w : World} {A : Option Addr} {l : List AttrT} (h : AttrsAt w A l) {j : Nat} (hj : j < l.length) :
    ∃ ad, A = some ad ∧ w.cell? (ad.add (j * 2)) = some (.string (mkS (l.getD j ([], [])).1)) ∧ w.cell? ⟨(ad.add (j * 2)).block, (ad.add (j * 2)).off + 1, none⟩ = some (.string (mkS (l.getD j ([], [])).2)) := by
  obtain ⟨ad, e, hc⟩ := h (by omega)
  obtain ⟨h0, h1⟩ := attrCells_at l j hj
  exact ⟨ad, e, hc _ _ h0, by rw [← add_two]; exact hc _ _ h1⟩
theorem infoA : (Try.prog.info? 74).map (fun i => (i.zero, i.size, i.bytes)) = some (some (.agg #[.string ⟨#[]⟩, .string ⟨#[]⟩]), 2, 32) := by kernel_rfl
theorem grown_set (w : World) (p : Addr) (u : Value) : w.grownBy (w.setCell p u) (some p.block) :=
  ⟨rfl, rfl, rfl, by simp, fun k _ hne => Below.heap_setCell w p u k (fun e => hne (by rw [e]))⟩
theorem own_attrs {w : World} {B : Nat} {v : Value} {l : List AttrT} (h : w.ownsRow B 74 2 v l.length (attrCells l)) : ∃ A c, v = .slice A l.length c ∧ l.length ≤ c ∧ AttrsAt w A l := by
  rcases Nat.eq_zero_or_pos l.length with h0 | h0
  · rcases h.2 with ⟨rfl, _⟩ | ⟨g, cap, cur, rfl, _, _, hle, _⟩
    · exact ⟨none, 0, by rw [h0], by omega, fun hp => by omega⟩
    · exact ⟨_, cap, rfl, hle, fun hp => by omega⟩
  · rcases h.2 with ⟨_, h1⟩ | ⟨g, cap, cur, rfl, _, _, hle, _⟩
    · omega
    · exact ⟨_, cap, rfl, hle, fun _ => ⟨_, rfl, h.cells (g := g) rfl⟩⟩
theorem own_keep {w w' : World} {O : Nat → Prop} {B n : Nat} {e : TypeId} {size : Nat} {v : Value} {xs : List Value} (h : w.ownsRow B e size v n xs) (hc : Ch O w w') (hO : ∀ i, B ≤ i → i < w.heap.size → ¬ O i) : w'.ownsRow B e size v n xs := by
  refine ⟨h.1, ?_⟩
  rcases h.2 with hn | ⟨g, cap, cur, rfl, hb, hg, rest⟩
  · exact .inl hn
  · exact .inr ⟨g, cap, cur, rfl, hb, hc.blk hg (hO g hb (blk_lt hg)), rest⟩
theorem own_lower {w : World} {B B' n : Nat} {e : TypeId} {size : Nat} {v : Value} {xs : List Value} (h : w.ownsRow B e size v n xs) (hB : B' ≤ B) : w.ownsRow B' e size v n xs := by
  refine ⟨h.1, ?_⟩
  rcases h.2 with hn | ⟨g, cap, cur, rfl, hb, hg, rest⟩
  · exact .inl hn
  · exact .inr ⟨g, cap, cur, rfl, by omega, hg, rest⟩
theorem zero_owns (w : World) (B : Nat) (e : TypeId) (size : Nat) : w.ownsRow B e size (.slice none 0 0) 0 [] := World.ownsRow_nil w B e size
theorem own_below {w w' : World} {B n : Nat} {e : TypeId} {size : Nat} {v : Value} {xs : List Value} (h : w.ownsRow B e size v n xs) (hb : Below w.heap.size w w') : w'.ownsRow B e size v n xs :=
  own_keep h (Ch.of_below (O := fun _ => False) hb) (fun _ _ _ e => e)
theorem own_base {w : World} {B n k : Nat} {e : TypeId} {size : Nat} {v : Value} {xs : List Value} (h : w.ownsRow B e size v n xs) (hk : v.ownBlock = some k) : B ≤ k := by
  rcases h.2 with ⟨h0, _⟩ | ⟨g, cap, cur, h0, hge, _⟩
  · rw [h0] at hk; cases hk
  · rw [h0] at hk
    simp [Value.ownBlock] at hk
    omega
/-- A row of one type is not touched where a row of another grows. -/
theorem own_apart {w w' : World} {B n m : Nat} {e e' : TypeId} {size size' : Nat} {v v' : Value} {xs ys : List Value} (h : w.ownsRow B e size v n xs) (h' : w.ownsRow B e' size' v' m ys) (hne : e ≠ e') (hg : w.grownBy w' v'.ownBlock) : w'.ownsRow B e size v n xs := by
  refine h.kept hg ?_
  rcases h.2 with ⟨h0, _⟩ | ⟨g, cap, cur, h0, _, hgg, _⟩
  · exact .inl (by rw [h0]; rfl)
  · right
    rcases h'.2 with ⟨h1, _⟩ | ⟨g', cap', cur', h1, _, hgg', _⟩
    · rw [h0, h1]; simp [Value.ownBlock]
    · rw [h0, h1]
      simp only [Value.ownBlock]
      intro e
      have e : g = g' := by simpa using e
      rw [← e, hgg] at hgg'
      injection hgg' with h2
      injection h2 with _ h3
      exact hne h3
theorem own_farB {w : World} {B n tb : Nat} {e : TypeId} {size : Nat} {v : Value} {xs : List Value} (h : w.ownsRow B e size v n xs) (ht : tb < B) : some tb ≠ v.ownBlock := by
  intro e
  rcases h.2 with ⟨h0, _⟩ | ⟨g, cap, cur, h0, hg, _⟩
  · rw [h0] at e; cases e
  · rw [h0] at e; simp [Value.ownBlock] at e; omega
theorem own_farT {w : World} {B n tb : Nat} {e t : TypeId} {size : Nat} {v : Value} {xs : List Value} {cs : Array Value} {fr : Nat × Nat} (h : w.ownsRow B e size v n xs) (hb : w.heap[tb]? = some (.cells cs t fr)) (ht : t ≠ e) : some tb ≠ v.ownBlock := by
  intro eq
  rcases h.2 with ⟨h0, _⟩ | ⟨g, cap, cur, h0, _, hgg, _⟩
  · rw [h0] at eq; cases eq
  · rw [h0] at eq
    simp only [Value.ownBlock] at eq
    have e1 : tb = g := by simpa using eq
    rw [e1, hgg] at hb
    injection hb with h2
    injection h2 with _ h3
    exact ht h3.symm
theorem heap_alloc_at {w : World} {n : Nat} (o : Obj) (h : w.heap.size = n) : (w.alloc o).heap[n]? = some o := by
  subst h
  exact heap_alloc_new w o
theorem drewN_add (w : World) (a b : Nat) : (w.drewN a).drewN b = w.drewN (a + b) := by simp [World.drewN, Nat.add_assoc]
def eqAt (l l' : List AttrT) (k : Nat) : Bool := ((l.getD k ([], [])).1 == (l'.getD k ([], [])).1) && ((l.getD k ([], [])).2 == (l'.getD k ([], [])).2)
theorem eq_of_at (l l' : List AttrT) (hl : l.length = l'.length) (h : ∀ j, j < l.length → eqAt l l' j = true) : l = l' := by
  apply List.ext_getElem hl
  intro j h1 h2
  have := h j h1
  rw [eqAt, List.getD, List.getD, List.getElem?_eq_getElem h1, List.getElem?_eq_getElem h2, Bool.and_eq_true, beq_iff_eq, beq_iff_eq] at this
  exact Prod.ext this.1 this.2
theorem at_of_eq (l : List AttrT) (j : Nat) : eqAt l l j = true := by simp [eqAt]
theorem AttrsAt.drewN {w : World} {A : Option Addr} {l : List AttrT} (h : AttrsAt w A l) (n : Nat) : AttrsAt (w.drewN n) A l := h
set_option maxRecDepth 100000 in
set_option maxHeartbeats 4000000 in
theorem rattrs_calls (w : World) (A B : Option Addr) (c c' : Nat) (l l' : List AttrT) (hl : AttrsAt w A l) (hl' : AttrsAt w B l') (hz : l.length ≤ 1000000) (_hz' : l'.length ≤ 1000000) :
    Calls Try.prog 30 #[.slice A l.length c, .slice B l'.length c'] w fun e w' =>
      e = .returned (.bool (decide (l = l'))) ∧ ∃ n, w' = w.drewN n := by
  have HL := Lib.hid hl
  have HL' := Lib.hid hl'
  obtain ⟨r, hr⟩ : ∃ r, decide (l = l') = r := ⟨_, rfl⟩
  rw [hr]
  have HRR := Lib.hid hr
  clear hl hl' hr
  go_enter Try.func30, Try.ntmps30
  go_wp2
  go_loopw [8] (fun i wr => ∃ k : Nat, k ≤ l.length ∧ i = .int .i64 k ∧ (∃ n, wr = w.drewN n) ∧ Hid (∀ j, j < k → j < l'.length ∧ eqAt l l' j = true)) (fun i _ => l.length - (RowKit.intOf i).toNat)
  case atStart => exact ⟨0, by omega, rfl, ⟨0, rfl⟩, Lib.hid (fun j hj => by omega)⟩
  case round =>
    obtain ⟨k, hk, rfl, ⟨n, rfl⟩, HN⟩ := hrel
    by_cases hlt : k < l.length
    · obtain ⟨ad, rfl, hc0, hc1⟩ := HL.out.at_ hlt
      by_cases hlt' : k < l'.length
      · obtain ⟨ad', rfl, hd0, hd1⟩ := HL'.out.at_ hlt'
        have hq1 : ((mkS (l.getD k ([], [])).1).toList == (mkS (l'.getD k ([], [])).1).toList) = ((l.getD k ([], [])).1 == (l'.getD k ([], [])).1) := by rw [ByteArray.toList_eq, ByteArray.toList_eq, of_mkS, of_mkS]
        have hq2 : ((mkS (l.getD k ([], [])).2).toList == (mkS (l'.getD k ([], [])).2).toList) = ((l.getD k ([], [])).2 == (l'.getD k ([], [])).2) := by rw [ByteArray.toList_eq, ByteArray.toList_eq, of_mkS, of_mkS]
        obtain ⟨x, hx⟩ : ∃ x, l.getD k ([], []) = x := ⟨_, rfl⟩
        obtain ⟨y, hy⟩ : ∃ y, l'.getD k ([], []) = y := ⟨_, rfl⟩
        have he : eqAt l l' k = ((x.1 == y.1) && (x.2 == y.2)) := by rw [eqAt, hx, hy]
        rw [hx] at hc0 hc1 hq1 hq2
        rw [hy] at hd0 hd1 hq1 hq2
        have HE := Lib.hid he
        clear hx hy he
        have hd1 : decide (l'.length ≤ k) = false := decide_eq_false (by omega)
        have i2 : (k : Int) < (l'.length : Int) := by omega
        have i3 : (k : Int) < (l.length : Int) := by omega
        cases e1 : x.1 == y.1 with
        | true =>
          rw [e1] at hq1
          cases e2 : x.2 == y.2 with
          | true =>
            rw [e2] at hq2
            have HQ := Lib.hid (show ∀ j, j < k + 1 → j < l'.length ∧ eqAt l l' j = true from fun j hj => by
              by_cases ej : j = k
              · subst ej; exact ⟨hlt', by rw [HE.out, e1, e2]; rfl⟩
              · exact HN.out j (by omega))
            clear e1 e2
            go_wp2
            go_quiet (fail)
            go_wp2
            go_roundw
            case rel => exact ⟨k + 1, by omega, by go_num, ⟨_, rfl⟩, HQ⟩
            case measure => simp [RowKit.intOf]; omega
          | false =>
            rw [e2] at hq2
            have HQ : Hid (r = false) := Lib.hid (by
              rw [← HRR.out, decide_eq_false]
              intro h
              have := at_of_eq l k
              rw [← h] at HE
              rw [HE.out, e2, Bool.and_false] at this
              cases this)
            clear e1 e2
            go_wp2
            go_quiet (fail)
            go_wp2
            go_ret
            exact ⟨by rw [HQ.out]; rfl, _, drewN_add w n nq⟩
        | false =>
          rw [e1] at hq1
          have HQ : Hid (r = false) := Lib.hid (by
            rw [← HRR.out, decide_eq_false]
            intro h
            have := at_of_eq l k
            rw [← h] at HE
            rw [HE.out, e1, Bool.false_and] at this
            cases this)
          clear e1
          cases e2 : x.2 == y.2
          all_goals
            rw [e2] at hq2
            clear e2
            go_wp2
            go_quiet (fail)
            go_wp2
            go_ret
            exact ⟨by rw [HQ.out]; rfl, _, drewN_add w n nq⟩
      · have hd1 : decide (l'.length ≤ k) = true := decide_eq_true (by omega)
        have HQ : Hid (r = false) := Lib.hid (by
          rw [← HRR.out, decide_eq_false]
          intro h
          rw [h] at hlt
          exact hlt' hlt)
        clear hc0 hc1
        go_wp2
        go_quiet (fail)
        go_wp2
        go_ret
        exact ⟨by rw [HQ.out]; rfl, _, drewN_add w n nq⟩
    · obtain rfl : k = l.length := by omega
      have HQ : Hid (r = decide (l.length = l'.length)) := Lib.hid (by
        rw [← HRR.out, decide_eq_decide]
        constructor
        · intro h; rw [h]
        · intro h; exact eq_of_at l l' h (fun j hj => (HN.out j hj).2))
      by_cases h : l.length = l'.length
      · have hh : ((l.length : Int) == (l'.length : Int)) = true := by rw [h]; simp
        have HR : Hid (r = true) := Lib.hid (by rw [HQ.out, decide_eq_true h])
        clear h hlt
        go_wp2
        go_ret
        exact ⟨by rw [HR.out]; rfl, _, rfl⟩
      · have hh : ((l.length : Int) == (l'.length : Int)) = false := beq_eq_false_iff_ne.2 (by omega)
        have HR : Hid (r = false) := Lib.hid (by rw [HQ.out, decide_eq_false h])
        clear h hlt
        go_wp2
        go_ret
        exact ⟨by rw [HR.out]; rfl, _, rfl⟩

end Go.Proofs.Ytdlenbkkcpcbmaa
