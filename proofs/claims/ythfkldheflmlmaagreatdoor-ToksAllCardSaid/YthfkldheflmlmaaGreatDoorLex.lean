/- Walks of the lexer's small methods. -/
import Derived.Test.YthfkldheflmlmaaGreatDoorRefsAll
namespace Go.Proofs.YthfkldheflmlmaaGreatDoor
open Go.RowKit

/-- Of what lay in w nothing has changed but blocks of O. -/
structure Ch (O : Nat → Prop) (w w' : World) : Prop where
  os : w'.os = w.os
  tape : w'.tape = w.tape
  output : w'.output = w.output
  size : w.heap.size ≤ w'.heap.size
  block : ∀ k, k < w.heap.size → ¬ O k → w'.heap[k]? = w.heap[k]?
theorem Ch.refl (O : Nat → Prop) (w : World) : Ch O w w := ⟨rfl, rfl, rfl, Nat.le_refl _, fun _ _ _ => rfl⟩
theorem Ch.trans {O O1 : Nat → Prop} {w w1 w2 : World} (h : Ch O w w1) (k : Ch O1 w1 w2) (hO : ∀ i, i < w.heap.size → O1 i → O i) : Ch O w w2 :=
  ⟨k.os.trans h.os, k.tape.trans h.tape, k.output.trans h.output, Nat.le_trans h.size k.size, fun i hi ho => (k.block i (Nat.lt_of_lt_of_le hi h.size) (fun hx => ho (hO i hi hx))).trans (h.block i hi ho)⟩
theorem Ch.same {O : Nat → Prop} {w w1 w2 : World} (h : Ch O w w1) (k : Ch O w1 w2) : Ch O w w2 := h.trans k (fun _ _ x => x)
theorem Ch.of_below {O : Nat → Prop} {w w' : World} (h : Below w.heap.size w w') : Ch O w w' := ⟨h.os, h.tape, h.output, h.size, fun i hi _ => h.block i hi⟩
theorem Ch.then_below {O : Nat → Prop} {w w1 w2 : World} (h : Ch O w w1) (k : Below w1.heap.size w1 w2) : Ch O w w2 := h.same (Ch.of_below k)
theorem Ch.alloc {O : Nat → Prop} {w w1 : World} (h : Ch O w w1) (o : Obj) : Ch O w (w1.alloc o) := h.then_below ((Below.refl _ _).alloc (Nat.le_refl _) o)
theorem Ch.drew {O : Nat → Prop} {w w1 : World} (h : Ch O w w1) : Ch O w w1.drew := ⟨h.os, h.tape, h.output, h.size, h.block⟩
theorem Ch.drewN {O : Nat → Prop} {w w1 : World} (h : Ch O w w1) (n : Nat) : Ch O w (w1.drewN n) := ⟨h.os, h.tape, h.output, h.size, h.block⟩
theorem Ch.setCell {O : Nat → Prop} {w w1 : World} (h : Ch O w w1) {p : Addr} (hp : O p.block ∨ w.heap.size ≤ p.block) (u : Value) : Ch O w (w1.setCell p u) :=
  ⟨h.os, h.tape, h.output, by simpa [World.setCell] using h.size, fun i hi ho => (Below.heap_setCell w1 p u i (by
    rintro rfl
    rcases hp with hp | hp
    · exact ho hp
    · omega)).trans (h.block i hi ho)⟩
theorem Ch.blk {O : Nat → Prop} {w w1 : World} {k : Nat} {o : Obj} (h : Ch O w w1) (hb : w.heap[k]? = some o) (ho : ¬ O k) : w1.heap[k]? = some o :=
  (h.block k (Array.getElem?_eq_some_iff.1 hb).1 ho).trans hb
theorem Ch.cell {O : Nat → Prop} {w w1 : World} {a : Addr} {v : Value} (h : Ch O w w1) (hc : w.cell? a = some v) (ho : ¬ O a.block) : w1.cell? a = some v :=
  (World.cell?_of_block (h.block _ (World.block_lt_of_cell? w a hc) ho)).trans hc
theorem Ch.toBelow {O : Nat → Prop} {w w1 : World} {B : Nat} (h : Ch O w w1) (hB : B ≤ w.heap.size) (hO : ∀ i, i < B → ¬ O i) : Below B w w1 :=
  ⟨h.os, h.tape, h.output, h.size, fun i hi => h.block i (by omega) (hO i hi)⟩
theorem Ch.grown {w w1 : World} {g : Nat} (h : Ch (· = g) w w1) : w.grownBy w1 (some g) := ⟨h.os, h.tape, h.output, h.size, fun i hi hne => h.block i hi (fun e => hne (by rw [e]))⟩
theorem Ch.ofGrown {O : Nat → Prop} {w w0 w1 : World} {row : Option Nat} (h : Ch O w w0) (hg : w0.grownBy w1 row) (hr : ∀ k, row = some k → O k ∨ w.heap.size ≤ k) : Ch O w w1 :=
  h.trans (O1 := fun k => row = some k) ⟨hg.os, hg.tape, hg.output, hg.size, fun i hi hne => hg.block i hi (fun e => hne e.symm)⟩ (fun i hi e => (hr i e).elim id (fun x => by omega))

theorem quiet_same {P : Program} {f : FuncId} {args : Array Value} {w : World} {n : Nat} {v : Value}
    (h : Calls P f args (w.drewN n) fun e w' => e = .returned v ∧ w.drewN n = w') : Calls P f args (w.drewN n) fun e w'' => e = .returned v ∧ ∃ m, w'' = w.drewN m :=
  h.mono fun _ _ ⟨he, hm⟩ => ⟨he, n, hm.symm⟩

/-- The lexer's block. -/
def LexAt (w : World) (g : Nat) (s : ByteArray) (i : Nat) : Prop := w.heap[g]? = some (.cells #[.string s, .int .i64 i] 54 (0, 0))
section
variable {w w' : World} {g : Nat} {s : ByteArray} {i : Nat}
theorem LexAt.c0 (h : LexAt w g s i) : w.cell? ⟨g, 0, none⟩ = some (.string s) := cell_of_row w g 0 _ _ (0, 0) h
theorem LexAt.c1 (h : LexAt w g s i) : w.cell? ⟨g, 1, none⟩ = some (.int .i64 i) := cell_of_row w g 1 _ _ (0, 0) h
theorem LexAt.f1 (h : LexAt w g s i) : w.frozen? ⟨g, 1, none⟩ = false := by unfold LexAt at h; simp [World.frozen?, h]
theorem LexAt.lt (h : LexAt w g s i) : g < w.heap.size := (Array.getElem?_eq_some_iff.1 h).1
theorem LexAt.keep {O : Nat → Prop} (h : LexAt w g s i) (hc : Ch O w w') (ho : ¬ O g) : LexAt w' g s i := hc.blk h ho
theorem LexAt.below (h : LexAt w g s i) (hc : Below w.heap.size w w') : LexAt w' g s i := (hc.block g h.lt).trans h
theorem LexAt.drewN (h : LexAt w g s i) (n : Nat) : LexAt (w.drewN n) g s i := h
theorem LexAt.set_ (h : LexAt w g s i) {j : Nat} {v : Value} (hv : v = .int .i64 (j : Int)) : LexAt (w.setCell ⟨g, 1, none⟩ v) g s j := by
  subst hv
  unfold LexAt at h ⊢
  simp [World.setCell, Array.getElem?_modify, h]
end

set_option maxHeartbeats 400000 in
theorem done_calls (w : World) (g : Nat) (s : ByteArray) (i : Nat) (h : LexAt w g s i) :
    Calls Tryz.prog 23 #[.pointer (some ⟨g, 0, none⟩)] w fun e w' => e = .returned (.bool (decide (s.size ≤ i))) ∧ ∃ n, w' = w.drewN n := by
  have h0 := h.c0
  have h1 := h.c1
  clear h
  go_enter Tryz.func23, Tryz.ntmps23
  go_wp2
  go_quiet (fail)
  go_wp2
  go_ret
  exact ⟨by simp, _, rfl⟩

def peekI (s : ByteArray) (i n : Nat) : Int := bI s (i + n)
theorem bI_end (s : ByteArray) (i : Nat) (h : s.size ≤ i) : bI s i = 0 := by
  rw [bI, List.getD, List.getElem?_eq_none (by rw [len_toL]; exact h)]; rfl

set_option maxHeartbeats 400000 in
theorem peek_calls (w : World) (g : Nat) (s : ByteArray) (i : Nat) (h : LexAt w g s i) (hi : i ≤ s.size) (hs : s.size ≤ 100000000) :
    Calls Tryz.prog 77 #[.pointer (some ⟨g, 0, none⟩), .int .i64 0] w fun e w' => e = .returned (.int .u8 (bI s i)) ∧ ∃ n, w' = w.drewN n := by
  have h0 := h.c0
  have h1 := h.c1
  have hbt := bI_at s
  clear h
  by_cases hlt : i < s.size
  · go_enter Tryz.func77, Tryz.ntmps77
    go_wp2
    go_quiet (fail)
    go_wp2
    go_quiet (fail)
    go_wp2
    go_ret
    exact ⟨rfl, _, World.drewN_drewN _ _ _⟩
  · have hz := bI_end s i (by omega)
    rw [hz]
    clear hz
    go_enter Tryz.func77, Tryz.ntmps77
    go_wp2
    go_quiet (fail)
    go_wp2
    go_ret
    exact ⟨rfl, _, rfl⟩

set_option maxHeartbeats 400000 in
theorem ahead_calls (w : World) (g : Nat) (s x : ByteArray) (i : Nat) (h : LexAt w g s i) (hi : i ≤ s.size) (_hs : s.size ≤ 100000000) :
    Calls Tryz.prog 53 #[.pointer (some ⟨g, 0, none⟩), .string x] w fun e w' => e = .returned (.bool (Lib.hasPrefix (s.data.toList.drop i) x.data.toList)) ∧ ∃ n, w' = w.drewN n := by
  have h0 := h.c0
  have h1 := h.c1
  have HC := Lib.hid (fun w => hasPrefix_calls w (s.extract i s.size) x)
  have HE := Lib.hid (toL_from s i)
  clear h
  go_enter Tryz.func53, Tryz.ntmps53
  go_wp2
  go_quiet ((go_at_call 20; exact quiet_same (HC.out _)))
  go_wp2
  go_ret
  exact ⟨by rw [HE.out]; rfl, _, rfl⟩

/-! ### spaces, until, to -/
def spN (l : List UInt8) : Nat := (l.takeWhile fun b => spaceI b.toNat).length
theorem spN_cons (b : UInt8) (t : List UInt8) : spN (b :: t) = if spaceI b.toNat then spN t + 1 else 0 := by
  simp only [spN, List.takeWhile_cons]
  split <;> simp
theorem spN_le (l : List UInt8) : spN l ≤ l.length := (List.takeWhile_prefix _).length_le
def untN (stops l : List UInt8) : Nat := (l.takeWhile fun b => !stops.contains b).length
theorem untN_cons (stops : List UInt8) (b : UInt8) (t : List UInt8) : untN stops (b :: t) = if stops.contains b then 0 else untN stops t + 1 := by
  simp only [untN, List.takeWhile_cons]
  cases stops.contains b <;> simp
theorem untN_le (stops l : List UInt8) : untN stops l ≤ l.length := (List.takeWhile_prefix _).length_le
theorem indexByte_neg (l : List UInt8) (c : UInt8) : decide (Lib.indexByte l c < 0) = !l.contains c := by
  induction l with
  | nil => rfl
  | cons b l ih =>
    have hge := Lib.indexByte_ge l c
    unfold Lib.indexByte
    by_cases h : b = c
    · subst h; simp
    · have h' : (b == c) = false := by simp [h]
      rw [h']
      rw [List.contains_cons, show (c == b) = false by simp [Ne.symm h]]
      rw [Bool.false_or, ← ih]
      simp only [Bool.false_eq_true, if_false]
      by_cases hm : Lib.indexByte l c = -1
      · simp [hm]
      · rw [if_neg (by simpa using hm)]
        have : ¬ Lib.indexByte l c < 0 := by omega
        have h2 : ¬ Lib.indexByte l c + 1 < 0 := by omega
        simp [this, h2]

set_option maxRecDepth 100000 in
set_option maxHeartbeats 1000000 in
theorem spaces_calls (w : World) (g : Nat) (s : ByteArray) (i : Nat) (h : LexAt w g s i) (hi : i ≤ s.size) (hs : s.size ≤ 100000000) :
    Calls Tryz.prog 52 #[.pointer (some ⟨g, 0, none⟩)] w fun e w' => e = .returned (.tuple #[]) ∧ LexAt w' g s (i + spN (s.data.toList.drop i)) ∧ Ch (· = g) w w' := by
  have hbt := bI_at s
  have HL := Lib.hid h
  clear h
  go_enter Tryz.func52, Tryz.ntmps52
  go_wp2
  go_loopg [] (s.size - i) (fun gk wr => ∃ k : Nat, k ≤ s.size ∧ gk = s.size - k ∧ LexAt wr g s k ∧ Ch (· = g) w wr ∧ Hid (i + spN (s.data.toList.drop i) = k + spN (s.data.toList.drop k)))
  case atStart => exact ⟨i, hi, rfl, HL.out, Ch.refl _ _, rfl⟩
  case round =>
    obtain ⟨k, hk, rfl, hL, hc, HI⟩ := hrel
    have h0 := hL.c0
    have h1 := hL.c1
    have hf := hL.f1
    by_cases hlt : k < s.size
    · have hd : decide (s.size ≤ k) = false := by simp; omega
      have DC := Lib.hid (fun n => done_calls (wr.drewN n) g s k (hL.drewN n))
      rw [hd] at DC
      have SC := Lib.hid (fun w => space_calls w (bI s k))
      have HDR := Lib.hid (drop_uB s k hlt)
      have HLL := Lib.hid hL
      cases hsp : spaceI (bI s k) with
      | true =>
        rw [hsp] at SC
        have HSP := Lib.hid hsp
        clear hsp hL hd
        go_wp2_with fail
        go_quiet (first | (go_at_call 23; exact Calls.quiet_of (DC.out _)) | (go_at_call 50; exact quiet_same (SC.out _)))
        go_wp2
        go_roundg (s.size - (k + 1))
        case measure => omega
        case rel => exact ⟨k + 1, by omega, rfl, (HLL.out.drewN _).set_ (by go_num), (hc.drewN _).setCell (.inl rfl) _, Lib.hid (by rw [HI.out, HDR.out, spN_cons, ← bI_uB, if_pos HSP.out]; omega)⟩
      | false =>
        rw [hsp] at SC
        have HSP := Lib.hid hsp
        clear hsp hL hd
        go_wp2_with fail
        go_quiet (first | (go_at_call 23; exact Calls.quiet_of (DC.out _)) | (go_at_call 50; exact quiet_same (SC.out _)))
        go_wp2
        go_end0
        exact ⟨rfl, by rw [HI.out, HDR.out, spN_cons, ← bI_uB, if_neg (by rw [HSP.out]; simp)]; exact HLL.out.drewN _, hc.drewN _⟩
    · have hd : decide (s.size ≤ k) = true := by simp; omega
      have DC := Lib.hid (fun n => done_calls (wr.drewN n) g s k (hL.drewN n))
      rw [hd] at DC
      have hnil : s.data.toList.drop k = [] := List.drop_eq_nil_of_le (by rw [len_toL]; omega)
      have HN := Lib.hid hnil
      have HLL := Lib.hid hL
      clear hnil hL hd
      go_wp2_with fail
      go_quiet (first | (go_at_call 23; exact Calls.quiet_of (DC.out _)))
      go_wp2
      go_end0
      exact ⟨rfl, by rw [HI.out, HN.out]; exact HLL.out.drewN _, hc.drewN _⟩

theorem ret_str {a b : ByteArray} (h : a = b) : Ending.returned (.string a) = .returned (.string b) := by rw [h]
theorem cut_to (s : ByteArray) (i k : Nat) : s.extract i (i + k) = mkS ((s.data.toList.drop i).take k) := by
  rw [← mkS_of (s.extract i (i + k)), toL_extract]
  simp
theorem i64_in (x : Int) (h0 : 0 ≤ x) (h1 : x ≤ 1000000000) : IntKind.i64.wrap x = x := IntWalk.i64_in _ (by omega)

set_option maxRecDepth 100000 in
set_option maxHeartbeats 1000000 in
theorem until_calls (w : World) (g : Nat) (s stops : ByteArray) (i : Nat) (h : LexAt w g s i) (hi : i ≤ s.size) (hs : s.size ≤ 100000000) :
    Calls Tryz.prog 51 #[.pointer (some ⟨g, 0, none⟩), .string stops] w fun e w' =>
      e = .returned (.string (mkS ((s.data.toList.drop i).take (untN stops.data.toList (s.data.toList.drop i))))) ∧ LexAt w' g s (i + untN stops.data.toList (s.data.toList.drop i)) ∧ Ch (· = g) w w' := by
  have hbt := bI_at s
  have HL := Lib.hid h
  clear h
  go_enter Tryz.func51, Tryz.ntmps51
  go_wp2
  go_loopw [5] (fun n wr => ∃ k : Nat, i + k ≤ s.size ∧ n = .int .i64 k ∧ LexAt wr g s i ∧ Ch (· = g) w wr ∧ Hid (untN stops.data.toList (s.data.toList.drop i) = k + untN stops.data.toList (s.data.toList.drop (i + k)))) (fun n _ => s.size - (intOf n).toNat)
  case atStart => exact ⟨0, by omega, rfl, HL.out, Ch.refl _ _, Lib.hid (by simp)⟩
  case round =>
    obtain ⟨k, hk, rfl, hL, hc, HI⟩ := hrel
    have h0 := hL.c0
    have h1 := hL.c1
    have hf := hL.f1
    have HLL := Lib.hid hL
    clear hL
    by_cases hlt : i + k < s.size
    · have hg1 : decide ((k : Int) < (s.size : Int) - (i : Int)) = true := by simp; omega
      have hr := bI_range s (i + k)
      have HDR := Lib.hid (drop_uB s (i + k) hlt)
      have SC := Lib.hid (fun w => indexByte_calls w stops (bI s (i + k)))
      have hu : (bI s (i + k)).toNat.toUInt8 = uB s (i + k) := by rw [bI_uB]; simp
      rw [hu] at SC
      have e1 : IntKind.i64.wrap ((s.size : Int) - (i : Int)) = (s.size : Int) - (i : Int) := i64_in _ (by omega) (by omega)
      have e2 : IntKind.i64.wrap ((i : Int) + (k : Int)) = (i : Int) + (k : Int) := i64_in _ (by omega) (by omega)
      have e3 : ((i : Int) + (k : Int)).toNat = i + k := by omega
      have hx0 : (0 : Int) ≤ (i : Int) + (k : Int) := by omega
      have hx1 : (i : Int) + (k : Int) < (s.size : Int) := by omega
      have hx1' : (i : Int) + (k : Int) ≤ (s.size : Int) := by omega
      have hx := indexByte_neg stops.data.toList (uB s (i + k))
      have hge := Lib.indexByte_ge stops.data.toList (uB s (i + k))
      cases hct : stops.data.toList.contains (uB s (i + k)) with
      | true =>
        rw [hct] at hx
        have HCT := Lib.hid hct
        generalize Lib.indexByte stops.data.toList (uB s (i + k)) = ix at *
        have hx' : decide (ix < 0) = false := by simpa using hx
        have hq : untN stops.data.toList (s.data.toList.drop i) = k := by rw [HI.out, HDR.out, untN_cons, if_pos HCT.out]; omega
        have HQ := Lib.hid hq
        clear hct hx hu hq
        go_wp2_with fail
        go_quiet (first | (go_at_call 81; exact quiet_same (SC.out _)))
        go_wp2_with fail
        go_quiet (fail)
        go_wp2
        go_ret
        refine ⟨?_, by rw [HQ.out]; exact (HLL.out.drewN _).set_ (by go_num), (hc.drewN _).setCell (.inl rfl) _⟩
        rw [HQ.out]
        exact ret_str (cut_to s i k)
      | false =>
        rw [hct] at hx
        have HCT := Lib.hid hct
        generalize Lib.indexByte stops.data.toList (uB s (i + k)) = ix at *
        have hx' : decide (ix < 0) = true := by simpa using hx
        clear hct hx hu
        go_wp2_with fail
        go_quiet (first | (go_at_call 81; exact quiet_same (SC.out _)))
        go_wp2
        go_roundw
        case rel => exact ⟨k + 1, by omega, by go_num, HLL.out.drewN _, hc.drewN _, Lib.hid (by rw [HI.out, HDR.out, untN_cons, if_neg (by rw [HCT.out]; simp)]; rw [show i + (k + 1) = i + k + 1 by omega]; omega)⟩
        case measure => simp [intOf]; omega
    · have hg1 : decide ((k : Int) < (s.size : Int) - (i : Int)) = false := by simp; omega
      have e1 : IntKind.i64.wrap ((s.size : Int) - (i : Int)) = (s.size : Int) - (i : Int) := i64_in _ (by omega) (by omega)
      have e2 : IntKind.i64.wrap ((i : Int) + (k : Int)) = (i : Int) + (k : Int) := i64_in _ (by omega) (by omega)
      have e3 : ((i : Int) + (k : Int)).toNat = i + k := by omega
      have hx0 : (0 : Int) ≤ (i : Int) + (k : Int) := by omega
      have hx1' : (i : Int) + (k : Int) ≤ (s.size : Int) := by omega
      have hq : untN stops.data.toList (s.data.toList.drop i) = k := by
        rw [HI.out, List.drop_eq_nil_of_le (by rw [len_toL]; omega)]; rfl
      have HQ := Lib.hid hq
      clear hq
      go_wp2_with fail
      go_quiet (fail)
      go_wp2_with fail
      go_quiet (fail)
      go_wp2
      go_ret
      refine ⟨?_, by rw [HQ.out]; exact (HLL.out.drewN _).set_ (by go_num), (hc.drewN _).setCell (.inl rfl) _⟩
      rw [HQ.out]
      exact ret_str (cut_to s i k)

end Go.Proofs.YthfkldheflmlmaaGreatDoor
