/- How many pairs can be had from each two places on (match.counts): its contract. -/
import Derived.Test.YtdlenbkkcpcbmaaMatchL
import Derived.Test.YtdlenbkkcpcbmaaTexts
import Derived.Laws.MakeOwn
namespace Go.Proofs.Ytdlenbkkcpcbmaa
open Go.RowKit Go.Lib Go.Sort Go.BigFrame

theorem range_set {α : Type} (n : Nat) (f g : Nat → α) (j : Nat) (v : α) (h : ∀ i, i < n → g i = if i = j then v else f i) : ((List.range n).map f).set j v = (List.range n).map g := by
  apply List.ext_getElem?
  intro i
  rw [List.getElem?_set]
  by_cases hi : i < n
  · by_cases hj : j = i
    · subst hj
      rw [if_pos rfl, List.getElem?_map, List.getElem?_range hi]
      simp [h j hi, hi]
    · rw [if_neg hj, List.getElem?_map, List.getElem?_map, List.getElem?_range hi]
      simp [h i hi, Ne.symm hj]
  · have h1 : ((List.range n).map f)[i]? = none := List.getElem?_eq_none (by simp; omega)
    have h2 : ((List.range n).map g)[i]? = none := List.getElem?_eq_none (by simp; omega)
    rw [h1, h2]
    split
    · rename_i hji; subst hji; simp; omega
    · rfl
theorem range_at {α : Type} (n : Nat) (f : Nat → α) (i : Nat) (h : i < n) : ((List.range n).map f)[i]? = some (f i) := by
  rw [List.getElem?_map, List.getElem?_range h]; rfl
def rowV (n : Nat) (f : Nat → Nat) : List Value := (List.range n).map fun j => .int .i64 (f j : Nat)
def outV (G : Nat → Nat) (m n k : Nat) : List Value := (List.range m).map fun i => if i < k then .slice (some ⟨G i, 0, none⟩) n n else .slice none 0 0
/-- A table of numbers of the call's own: m rows of n, k of them made. -/
structure Mat (w : World) (B O : Nat) (G : Nat → Nat) (m n k : Nat) (f : Nat → Nat → Nat) : Prop where
  outer : w.ownsRow B 38 1 (.slice (some ⟨O, 0, none⟩) m m) m (outV G m n k)
  rows : ∀ i, i < k → w.ownsRow B 3 1 (.slice (some ⟨G i, 0, none⟩) n n) n (rowV n (f i))
  inj : ∀ i j, i < k → j < k → G i = G j → i = j
theorem own_ne {w : World} {B B' n m : Nat} {e e' : TypeId} {size size' g g' c c' : Nat} {xs ys : List Value} (h : w.ownsRow B e size (.slice (some ⟨g, 0, none⟩) n c) n xs) (h' : w.ownsRow B' e' size' (.slice (some ⟨g', 0, none⟩) m c') m ys) (hne : e ≠ e') : g ≠ g' := by
  intro eq
  subst eq
  rcases h.2 with ⟨h0, _⟩ | ⟨g1, cap, cur, h0, _, hg, _⟩
  · cases h0
  · rcases h'.2 with ⟨h1, _⟩ | ⟨g2, cap', cur', h1, _, hg', _⟩
    · cases h1
    · injection h0 with a1 _ _; injection a1 with a2; injection a2 with a3 _ _
      injection h1 with b1 _ _; injection b1 with b2; injection b2 with b3 _ _
      subst a3 b3
      rw [hg] at hg'
      injection hg' with c1
      injection c1 with _ c2
      exact hne c2
theorem own_lt {w : World} {B n c g : Nat} {e : TypeId} {size : Nat} {xs : List Value} (h : w.ownsRow B e size (.slice (some ⟨g, 0, none⟩) n c) n xs) : g < w.heap.size ∧ B ≤ g := by
  rcases h.2 with ⟨h0, _⟩ | ⟨g1, cap, cur, h0, hb, hg, _⟩
  · cases h0
  · injection h0 with a1 _ _; injection a1 with a2; injection a2 with a3 _ _
    subst a3
    exact ⟨blk_lt hg, hb⟩
theorem own_set_far {w : World} {B n c g b j : Nat} {e : TypeId} {size : Nat} {xs : List Value} (h : w.ownsRow B e size (.slice (some ⟨g, 0, none⟩) n c) n xs) (hne : g ≠ b) (u : Value) : (w.setCell ⟨b, j, none⟩ u).ownsRow B e size (.slice (some ⟨g, 0, none⟩) n c) n xs :=
  h.kept (grown_set w ⟨b, j, none⟩ u) (.inr (by intro e; simp [Value.ownBlock] at e; exact hne e))
theorem Mat.below {w w' : World} {B O : Nat} {G : Nat → Nat} {m n k : Nat} {f : Nat → Nat → Nat} (h : Mat w B O G m n k f) (hb : Below w.heap.size w w') : Mat w' B O G m n k f :=
  ⟨own_below h.outer hb, fun i hi => own_below (h.rows i hi) hb, h.inj⟩
def upd (f : Nat → Nat → Nat) (i j v : Nat) : Nat → Nat → Nat := fun a b => if a = i ∧ b = j then v else f a b
theorem Mat.store {w : World} {B O : Nat} {G : Nat → Nat} {m n k : Nat} {f : Nat → Nat → Nat} (h : Mat w B O G m n k f) {i j : Nat} (hi : i < k) (hj : j < n) (v : Nat) : Mat (w.setCell ⟨G i, j, none⟩ (.int .i64 (v : Nat))) B O G m n k (upd f i j v) := by
  refine ⟨own_set_far h.outer (own_ne h.outer (h.rows i hi) (by decide)) _, fun i' hi' => ?_, h.inj⟩
  by_cases he : i' = i
  · subst he
    have := own_store (h.rows i' hi') j (by simp [rowV]; exact hj) (.int .i64 (v : Nat))
    rw [rowV, range_set n _ (fun b => .int .i64 (upd f i' j v i' b : Nat)) j _ (fun b _ => by unfold upd; by_cases hb : b = j <;> simp [hb])] at this
    exact this
  · have : rowV n (upd f i j v i') = rowV n (f i') := by unfold rowV upd; simp [he]
    rw [this]
    exact own_set_far (h.rows i' hi') (fun e => he (h.inj i' i hi' hi e)) _
theorem Mat.congr {w : World} {B O : Nat} {G : Nat → Nat} {m n k : Nat} {f g : Nat → Nat → Nat} (h : Mat w B O G m n k f) (hfg : ∀ i j, i < k → j < n → f i j = g i j) : Mat w B O G m n k g :=
  ⟨h.outer, fun i hi => by
    have : rowV n (g i) = rowV n (f i) := List.map_congr_left fun j hj => by rw [hfg i j hi (List.mem_range.1 hj)]
    rw [this]; exact h.rows i hi, h.inj⟩
theorem Mat.cells {w : World} {B O : Nat} {G : Nat → Nat} {m n k : Nat} {f : Nat → Nat → Nat} (h : Mat w B O G m n k f) {i : Nat} (hi : i < k) (hk : k ≤ m) : w.cell? ⟨O, i, none⟩ = some (.slice (some ⟨G i, 0, none⟩) n n) := by
  refine (own_cell h.outer i _ ?_).1
  rw [outV, range_at m _ i (by omega), if_pos hi]
theorem Mat.cell {w : World} {B O : Nat} {G : Nat → Nat} {m n k : Nat} {f : Nat → Nat → Nat} (h : Mat w B O G m n k f) {i j : Nat} (hi : i < k) (hj : j < n) : w.cell? ⟨G i, j, none⟩ = some (.int .i64 (f i j : Nat)) ∧ w.frozen? ⟨G i, j, none⟩ = false :=
  own_cell (h.rows i hi) j _ (by rw [rowV, range_at n _ j hj])
theorem made_list (v : Value) (n : Nat) : (madeCells #[v] n).toList = (List.range n).map fun _ => v := by
  apply List.ext_getElem
  · simp [madeCells]
  · intro i h1 h2
    simp [madeCells, Nat.mod_one]
/-- One row more. -/
theorem Mat.row {w : World} {B O : Nat} {G : Nat → Nat} {m n k : Nat} {f : Nat → Nat → Nat} (h : Mat w B O G m n k f) (hk : k < m) (hn : n ≤ maxLen) (hB : B ≤ w.heap.size) (hf : ∀ j, f k j = 0) :
    Mat ((w.alloc (.cells (madeCells #[.int .i64 0] n) 3)).setCell ⟨O, k, none⟩ (.slice (some ⟨w.heap.size, 0, none⟩) n n)) B O (fun i => if i = k then w.heap.size else G i) m n (k + 1) f := by
  have hO := own_lt h.outer
  have hnew : (w.alloc (.cells (madeCells #[.int .i64 0] n) 3)).ownsRow B 3 1 (.slice (some ⟨w.heap.size, 0, none⟩) n n) n (rowV n (f k)) := by
    have := World.ownsRow_lit (size := 1) (e := 3) w (madeCells #[.int .i64 0] (n * 1)) n hB hn (size_madeCells _ _)
    rw [Nat.mul_one, made_list] at this
    have e : rowV n (f k) = (List.range n).map fun _ => .int .i64 0 := by unfold rowV; simp [hf]
    rw [e]; exact this
  refine ⟨?_, fun i hi => ?_, fun i j hi hj he => ?_⟩
  · have := own_store (h.outer.alloc (.cells (madeCells #[.int .i64 0] n) 3)) k (by simp [outV]; exact hk) (.slice (some ⟨w.heap.size, 0, none⟩) n n)
    rw [outV, range_set m _ (fun i => if i < k + 1 then .slice (some ⟨(if i = k then w.heap.size else G i), 0, none⟩) n n else .slice none 0 0) k _ (fun i _ => by
      by_cases e : i = k
      · subst e; simp
      · by_cases e2 : i < k
        · simp [e, e2, show i < k + 1 by omega]
        · simp [e, e2, show ¬ i < k + 1 by omega])] at this
    exact this
  · by_cases e : i = k
    · subst e
      simp only [if_pos]
      exact own_set_far hnew (by omega) _
    · simp only [if_neg e]
      exact own_set_far ((h.rows i (by omega)).alloc _) (own_ne (h.rows i (by omega)) h.outer (by decide)) _
  · by_cases e1 : i = k
    · by_cases e2 : j = k
      · omega
      · have := own_lt (h.rows j (by omega))
        simp only [e1, if_true, if_neg e2] at he
        omega
    · by_cases e2 : j = k
      · have := own_lt (h.rows i (by omega))
        simp only [e2, if_true, if_neg e1] at he
        omega
      · simp only [if_neg e1, if_neg e2] at he
        exact h.inj i j (by omega) (by omega) he
theorem infoInt : (Try.prog.info? 3).map (fun i => (i.zero, i.size, i.bytes)) = some (some (.int .i64 0), 1, 8) := by kernel_rfl
theorem infoInts : (Try.prog.info? 38).map (fun i => (i.zero, i.size, i.bytes)) = some (some (.slice none 0 0), 1, 24) := by kernel_rfl
theorem make_ints (n : Nat) (L : Int) (hL : L = (n : Int)) (hn : n ≤ 1000000) (w : World) : (Instr.makeSlice 38 (.int .i64 L) (.int .i64 L)).run Try.prog w = .ok (.slice (some ⟨w.heap.size, 0, none⟩) n n) (w.alloc (.cells (madeCells #[.int .i64 0] n) 3)) := by
  subst hL
  obtain ⟨i0, hi, hz0, hz1, hz2⟩ := info_parts infoInt
  have := run_make (P := Try.prog) w 38 3 i0 _ Try.underlying38 hi hz0 .i64 .i64 (n : Int) (n : Int) (by omega) (Int.le_refl _) (by rw [hz2]; omega) (by omega)
  simpa [hz1, Value.cells] using this
theorem make_rows (n : Nat) (L : Int) (hL : L = (n : Int)) (hn : n ≤ 1000000) (w : World) : (Instr.makeSlice 75 (.int .i64 L) (.int .i64 L)).run Try.prog w = .ok (.slice (some ⟨w.heap.size, 0, none⟩) n n) (w.alloc (.cells (madeCells #[.slice none 0 0] n) 38)) := by
  subst hL
  obtain ⟨i0, hi, hz0, hz1, hz2⟩ := info_parts infoInts
  have := run_make (P := Try.prog) w 75 38 i0 _ Try.underlying75 hi hz0 .i64 .i64 (n : Int) (n : Int) (by omega) (Int.le_refl _) (by rw [hz2]; omega) (by omega)
  simpa [hz1, Value.cells] using this
theorem Mat.start (w : World) (G : Nat → Nat) (m n : Nat) (f : Nat → Nat → Nat) (hm : m ≤ maxLen) : Mat (w.alloc (.cells (madeCells #[.slice none 0 0] m) 38)) w.heap.size w.heap.size G m n 0 f := by
  refine ⟨?_, fun i hi => by omega, fun i j hi => by omega⟩
  have := World.ownsRow_lit (size := 1) (e := 38) w (madeCells #[.slice none 0 0] (m * 1)) m (Nat.le_refl _) hm (size_madeCells _ _)
  rw [Nat.mul_one, made_list] at this
  have e : outV G m n 0 = (List.range m).map fun _ => .slice none 0 0 := by unfold outV; simp
  rw [e]; exact this
set_option maxRecDepth 100000 in
set_option maxHeartbeats 4000000 in
theorem counts_calls (a b : List (List UInt8)) (hza : a.length ≤ 1000) (hzb : b.length ≤ 1000) (w : World) (A A' : Option Addr) (c c' : Nat) (ha : StrsAt w A a) (hb : StrsAt w A' b) :
    Calls Try.prog 32 #[.slice A a.length c, .slice A' b.length c'] w fun e w' => ∃ O G, e = .returned (.slice (some ⟨O, 0, none⟩) (a.length + 1) (a.length + 1)) ∧ Mat w' w.heap.size O G (a.length + 1) (b.length + 1) (a.length + 1) (cnt a b) ∧ Below w.heap.size w w' := by
  have km := make_rows (a.length + 1) ((a.length : Int) + 1) (by omega) (by omega)
  have kn := make_ints (b.length + 1) ((b.length : Int) + 1) (by omega) (by omega)
  have HA := Lib.hid ha
  have HB := Lib.hid hb
  have hM0 := Mat.start w (fun _ => 0) (a.length + 1) (b.length + 1) (fun _ _ => 0) (by unfold maxLen; omega)
  have hB0 := (Below.refl w.heap.size w).alloc (Nat.le_refl _) (.cells (madeCells #[.slice none 0 0] (a.length + 1)) 38)
  clear ha hb
  go_enter Try.func32, Try.ntmps32
  go_upto_region 2 with fail
  generalize w.alloc (.cells (madeCells #[.slice none 0 0] (a.length + 1)) 38) = w1 at *
  clear km
  generalize hOO : w.heap.size = O at *
  have HOO := Lib.hid hOO
  clear hOO
  have HM0 := Lib.hid hM0
  have HB0 := Lib.hid hB0
  clear hM0 hB0
  go_wp2
  go_loopw [15] (fun i wr => ∃ k : Nat, k ≤ a.length + 1 ∧ i = .int .i64 k ∧ Below O w wr ∧ Hid (∃ G, Mat wr O O G (a.length + 1) (b.length + 1) k (fun _ _ => 0))) (fun i _ => a.length + 1 - (RowKit.intOf i).toNat)
  case atStart => exact ⟨0, by omega, rfl, HB0.out, Lib.hid ⟨_, HM0.out⟩⟩
  case round =>
    clear HM0 HB0 w1
    obtain ⟨k, hk, rfl, hBr, HM⟩ := hrel
    by_cases hlt : k < a.length + 1
    · obtain ⟨G, hM⟩ := HM.out
      have hO := (own_lt hM.outer).1
      obtain ⟨q1, q2⟩ := own_cell (hM.outer.alloc (.cells (madeCells #[.int .i64 0] (b.length + 1)) 3)) k (.slice none 0 0) (by rw [outV, range_at _ _ k hlt, if_neg (Nat.lt_irrefl _)])
      have hadd := add0 O k
      have hMn := hM.row hlt (by unfold maxLen; omega) (by omega) (fun _ => rfl)
      have hBn := (hBr.alloc (Nat.le_of_lt hO) (.cells (madeCells #[.int .i64 0] (b.length + 1)) 3)).setCell (p := ⟨O, k, none⟩) (Nat.le_refl _) (.slice (some ⟨wr.heap.size, 0, none⟩) (b.length + 1) (b.length + 1))
      rw [World.setCell_alloc_past _ _ _ _ hO] at hMn hBn
      have HMN := Lib.hid hMn
      have HBN := Lib.hid hBn
      have hi1 : (k : Int) < (a.length : Int) + 1 := by omega
      have hi2 : k < a.length + 1 := hlt
      clear hM HM hMn hBn hBr hlt
      go_wp2
      go_roundw
      case rel => exact ⟨k + 1, by omega, by go_num, HBN.out, Lib.hid ⟨_, HMN.out⟩⟩
      case measure => simp [RowKit.intOf]; omega
    · obtain rfl : k = a.length + 1 := by omega
      clear hlt
      have HM1 : Hid (∃ G, Mat wr O O G (a.length + 1) (b.length + 1) (a.length + 1) (fun i j => if a.length ≤ i then cnt a b i j else 0)) := by
        obtain ⟨G, hM⟩ := HM.out
        exact Lib.hid ⟨G, hM.congr fun i j _ _ => by
          by_cases h : a.length ≤ i
          · rw [if_pos h, cnt_out (.inl h)]
          · rw [if_neg h]⟩
      clear HM
      go_upto_region 8 with fail
      go_loopw [7] (fun x wr => ∃ k : Nat, k ≤ a.length ∧ x = .int .i64 ((k : Int) - 1) ∧ Below O w wr ∧ Hid (∃ G, Mat wr O O G (a.length + 1) (b.length + 1) (a.length + 1) (fun i j => if k ≤ i then cnt a b i j else 0))) (fun x _ => (RowKit.intOf x + 1).toNat)
      case atStart => exact ⟨a.length, Nat.le_refl _, rfl, hBr, HM1⟩
      case round =>
        clear HM1
        obtain ⟨k, hk, rfl, hBr, HM⟩ := hrel
        rcases Nat.eq_zero_or_pos k with rfl | hk0
        · have hx : (((0 : Nat) : Int) - 1) = -1 := by omega
          rw [hx]
          clear hx
          obtain ⟨G, hM⟩ := HM.out
          have HF := Lib.hid (hM.congr (g := cnt a b) fun i j _ _ => by simp)
          clear hM HM
          go_wp2
          go_ret
          exact ⟨O, G, rfl, by rw [HOO.out]; exact HF.out, by rw [HOO.out]; exact hBr⟩
        · obtain ⟨k, rfl⟩ : ∃ k', k = k' + 1 := ⟨k - 1, by omega⟩
          have hx : (((k + 1 : Nat) : Int) - 1) = (k : Int) := by omega
          rw [hx]
          clear hx
          have HM1 : Hid (∃ G, Mat wr O O G (a.length + 1) (b.length + 1) (a.length + 1) (fun i j => if k + 1 ≤ i ∨ i = k ∧ b.length ≤ j then cnt a b i j else 0)) := by
            obtain ⟨G, hM⟩ := HM.out
            exact Lib.hid ⟨G, hM.congr fun i j _ _ => by
              by_cases h : k + 1 ≤ i
              · rw [if_pos h, if_pos (.inl h)]
              · rw [if_neg h]
                by_cases h2 : i = k ∧ b.length ≤ j
                · rw [if_pos (.inr h2), cnt_out (.inr h2.2)]
                · rw [if_neg (by omega)]⟩
          clear HM hk0
          have HBR := Lib.hid hBr
          clear hBr
          go_upto_region 11 with fail
          go_loopw [8] (fun y wz => ∃ h : Nat, h ≤ b.length ∧ y = .int .i64 ((h : Int) - 1) ∧ Below O w wz ∧ Hid (∃ G, Mat wz O O G (a.length + 1) (b.length + 1) (a.length + 1) (fun i j => if k + 1 ≤ i ∨ i = k ∧ h ≤ j then cnt a b i j else 0))) (fun x _ => (RowKit.intOf x + 1).toNat)
          case atStart => exact ⟨b.length, Nat.le_refl _, rfl, HBR.out, HM1⟩
          case round =>
            clear HM1 HBR
            obtain ⟨h, hh, rfl, hBz, HM⟩ := hrel
            rcases Nat.eq_zero_or_pos h with rfl | hh0
            · have hx : (((0 : Nat) : Int) - 1) = -1 := by omega
              rw [hx]
              clear hx
              obtain ⟨G, hM⟩ := HM.out
              have HF := Lib.hid (hM.congr (g := fun i j => if k ≤ i then cnt a b i j else 0) fun i j _ _ => by
                by_cases h : k ≤ i
                · rw [if_pos h, if_pos (by omega)]
                · rw [if_neg h, if_neg (by omega)])
              clear hM HM
              go_wp2
              go_roundw
              case rel => exact ⟨k, by omega, rfl, hBz, Lib.hid ⟨G, HF.out⟩⟩
              case measure => simp [RowKit.intOf]
            · obtain ⟨h, rfl⟩ : ∃ h', h = h' + 1 := ⟨h - 1, by omega⟩
              have hx : (((h + 1 : Nat) : Int) - 1) = (h : Int) := by omega
              rw [hx]
              clear hx
              obtain ⟨G, hM⟩ := HM.out
              have hka : k < a.length := by omega
              have hhb : h < b.length := by omega
              have u1 := cnt_le a b 1000 (k + 1) h (by omega)
              have u2 := cnt_le a b 1000 k (h + 1) (by omega)
              have u3 := cnt_le a b 1000 (k + 1) (h + 1) (by omega)
              have ustep := cnt_in hka hhb
              obtain ⟨x, hxa⟩ : ∃ x, a[k]? = some x := ⟨_, List.getElem?_eq_getElem hka⟩
              obtain ⟨y, hyb⟩ : ∃ y, b[h]? = some y := ⟨_, List.getElem?_eq_getElem hhb⟩
              rw [hxa, hyb] at ustep
              obtain ⟨ga, rfl, hca⟩ := HA.out (by omega)
              obtain ⟨gb, rfl, hcb⟩ := HB.out (by omega)
              have sa := hca k x hxa
              have sb := hcb h y hyb
              have HSA := Lib.hid sa
              have HSB := Lib.hid sb
              have q0 := hM.cells (i := k) (by omega) (Nat.le_refl _)
              have q1 := hM.cells (i := k + 1) (by omega) (Nat.le_refl _)
              have c1 := (hM.cell (i := k + 1) (j := h) (by omega) (by omega)).1
              have c2 := (hM.cell (i := k) (j := h + 1) (by omega) (by omega)).1
              have c3 := (hM.cell (i := k + 1) (j := h + 1) (by omega) (by omega)).1
              obtain ⟨c4, f4⟩ := hM.cell (i := k) (j := h) (by omega) (by omega)
              rw [if_pos (.inl (Nat.le_refl _))] at c1 c3
              rw [if_pos (.inr ⟨rfl, Nat.le_refl _⟩)] at c2
              rw [if_neg (by omega)] at c4
              have hS1 := hM.store (i := k) (j := h) (by omega) (by omega) (max (cnt a b (k + 1) h) (cnt a b k (h + 1)))
              have hgne : G (k + 1) ≠ G k := fun e => by have := hM.inj (k + 1) k (by omega) (by omega) e; omega
              have hgO := own_ne hM.outer (hM.rows k (by omega)) (by decide)
              have hg0 := (own_lt (hM.rows k (by omega))).2
              have hB1 := hBz.setCell (p := ⟨G k, h, none⟩) hg0 (.int .i64 (max (cnt a b (k + 1) h) (cnt a b k (h + 1)) : Nat))
              have HUS := Lib.hid ustep
              have HXA := Lib.hid hxa
              have a1 := add0 O k
              have a2 := add0 O (k + 1)
              have a3 := add0 (G k) h
              have a4 := add0 (G k) (h + 1)
              have a5 := add0 (G (k + 1)) h
              have a6 := add0 (G (k + 1)) (h + 1)
              have w1 : IntKind.i64.wrap ((k : Int) + 1) = (k : Int) + 1 := IntWalk.i64_in _ (by omega)
              have w2 : IntKind.i64.wrap ((h : Int) + 1) = (h : Int) + 1 := IntWalk.i64_in _ (by omega)
              have t1 : ((k : Int) + 1).toNat = k + 1 := by omega
              have t2 : ((h : Int) + 1).toNat = h + 1 := by omega
              have t3 : (0 : Int) ≤ (k : Int) + 1 := by omega
              have t4 : (0 : Int) ≤ (h : Int) + 1 := by omega
              have i1 : (k : Int) < (a.length : Int) + 1 := by omega
              have i2 : (k : Int) + 1 < (a.length : Int) + 1 := by omega
              have i3 : (h : Int) < (b.length : Int) + 1 := by omega
              have i4 : (h : Int) + 1 < (b.length : Int) + 1 := by omega
              have HS1 := Lib.hid hS1
              have HB1 := Lib.hid hB1
              have HGN := Lib.hid hgne
              have HM2 := Lib.hid hM
              clear hM HM hS1 hB1 hBz hgne hxa hyb hca hcb sa sb ustep
              generalize hG0 : G k = g0 at *
              generalize hG1 : G (k + 1) = g1 at *
              have HG0 := Lib.hid hG0
              have HG1 := Lib.hid hG1
              clear hG0 hG1
              go_upto_region 13 with fail
              refine region_tail 23 (by kernel_rfl) (by kernel_rfl) ?_
              simp only [List.take_succ_cons, List.take_zero, List.drop_succ_cons, List.drop_zero]
              repeat (go_big_quiet_step (fail))
              refine wpQuiet_nil ?_
              go_upto_region 14 with fail
              have hmx : ((max (cnt a b (k + 1) h) (cnt a b k (h + 1)) : Nat) : Int) = max (cnt a b (k + 1) h : Int) (cnt a b k (h + 1) : Int) := by omega
              have hM3 := HS1.out
              have hB3 := HB1.out
              rw [hmx] at hM3 hB3
              have hM3 := hM3.below (below_drew1 (Below.refl _ _))
              have hB3 := below_drew1 hB3
              have hga : ga < O := by have := World.block_lt_of_cell? w _ HSA.out; rw [HOO.out] at this; exact this
              have hgb : gb < O := by have := World.block_lt_of_cell? w _ HSB.out; rw [HOO.out] at this; exact this
              generalize (wr.setCell ⟨g0, h, none⟩ (.int .i64 (max (cnt a b (k + 1) h : Int) (cnt a b k (h + 1) : Int)))).drew = w3 at *
              have s1 : w3.cell? ⟨ga, k, none⟩ = some (.string (mkS x)) := (hB3.cell (p := ⟨ga, k, none⟩) hga).trans HSA.out
              have s2 : w3.cell? ⟨gb, h, none⟩ = some (.string (mkS y)) := (hB3.cell (p := ⟨gb, h, none⟩) hgb).trans HSB.out
              have a7 := add0 ga k
              have a8 := add0 gb h
              have hq : ((mkS x).toList == (mkS y).toList) = (x == y) := by rw [ByteArray.toList_eq, ByteArray.toList_eq, of_mkS, of_mkS]
              have i5 : (k : Int) < (a.length : Int) := by omega
              have i6 : (h : Int) < (b.length : Int) := by omega
              have HM3 := Lib.hid hM3
              have HB3 := Lib.hid hB3
              clear hM3 hB3 hmx hga hgb HS1 HB1 HSA HSB q0 q1 c1 c2 c3 c4 f4 hgO hg0
              cases e : x == y with
              | false =>
                rw [e] at hq
                have hne : ¬ (some x = some y) := fun he => by rw [Option.some.inj he] at e; simp at e
                have HF : Hid (Mat w3 O O G (a.length + 1) (b.length + 1) (a.length + 1) (fun i j => if k + 1 ≤ i ∨ i = k ∧ h ≤ j then cnt a b i j else 0)) := Lib.hid (HM3.out.congr fun i j _ _ => by
                  have := HUS.out
                  rw [if_neg hne] at this
                  unfold upd
                  dsimp only
                  by_cases e1 : i = k ∧ j = h
                  · rw [if_pos e1, e1.1, e1.2, this, if_pos (.inr ⟨rfl, Nat.le_refl _⟩)]
                  · rw [if_neg e1]
                    by_cases e2 : k + 1 ≤ i ∨ i = k ∧ h + 1 ≤ j
                    · rw [if_pos e2, if_pos (by omega)]
                    · rw [if_neg e2, if_neg (by omega)])
                clear hne e HM3 HUS
                go_quiet (fail)
                go_wp2
                go_roundw
                case rel => exact ⟨h, by omega, rfl, below_drewN HB3.out _, Lib.hid ⟨G, HF.out.below (below_drewN (Below.refl _ _) _)⟩⟩
                case measure => simp [RowKit.intOf]
              | true =>
                rw [e] at hq
                have hxy : some x = some y := by rw [eq_of_beq e]
                have q0 := HM3.out.cells (i := k) (by omega) (Nat.le_refl _)
                have q1 := HM3.out.cells (i := k + 1) (by omega) (Nat.le_refl _)
                have c3 := (HM3.out.cell (i := k + 1) (j := h + 1) (by omega) (by omega)).1
                obtain ⟨c4, f4⟩ := HM3.out.cell (i := k) (j := h) (by omega) (by omega)
                have hS4 := fun n => (HM3.out.below (below_drewN (Below.refl _ _) n)).store (i := k) (j := h) (by omega) (by omega) (1 + cnt a b (k + 1) (h + 1))
                simp only [show ((1 + cnt a b (k + 1) (h + 1) : Nat) : Int) = 1 + (cnt a b (k + 1) (h + 1) : Int) by omega, HG0.out] at hS4
                rw [HG0.out] at q0 c4 f4
                rw [HG1.out] at q1 c3
                replace c3 : w3.cell? ⟨g1, h + 1, none⟩ = some (.int .i64 (cnt a b (k + 1) (h + 1) : Nat)) := by
                  rw [c3]; unfold upd; dsimp only; rw [if_neg (by omega), if_pos (Or.inl (Nat.le_refl _))]
                have hg0 := (own_lt (HM3.out.rows k (by omega))).2
                rw [HG0.out] at hg0
                have hB4 := fun n => (below_drewN HB3.out n).setCell (p := ⟨g0, h, none⟩) hg0 (.int .i64 (1 + (cnt a b (k + 1) (h + 1) : Int)))
                have HF : Hid (∀ n, Mat ((w3.drewN n).setCell ⟨g0, h, none⟩ (.int .i64 (1 + (cnt a b (k + 1) (h + 1) : Int)))) O O G (a.length + 1) (b.length + 1) (a.length + 1) (fun i j => if k + 1 ≤ i ∨ i = k ∧ h ≤ j then cnt a b i j else 0)) := Lib.hid (fun n => (hS4 n).congr fun i j _ _ => by
                  have := HUS.out
                  rw [if_pos hxy] at this
                  unfold upd
                  dsimp only
                  by_cases e1 : i = k ∧ j = h
                  · rw [if_pos e1, e1.1, e1.2, this, if_pos (.inr ⟨rfl, Nat.le_refl _⟩)]
                  · rw [if_neg e1, if_neg e1]
                    by_cases e2 : k + 1 ≤ i ∨ i = k ∧ h + 1 ≤ j
                    · rw [if_pos e2, if_pos (by omega)]
                    · rw [if_neg e2, if_neg (by omega)])
                have HB4 := Lib.hid hB4
                clear hxy e HM3 HUS hS4 hB4 hg0
                go_quiet (fail)
                go_upto_region 15 with fail
                refine region_tail 16 (by kernel_rfl) (by kernel_rfl) ?_
                simp only [List.take_succ_cons, List.take_zero, List.drop_succ_cons, List.drop_zero]
                repeat (go_big_quiet_step (fail))
                refine wpQuiet_nil ?_
                go_wp2
                go_roundw
                case rel => exact ⟨h, by omega, rfl, HB4.out _, Lib.hid ⟨G, HF.out _⟩⟩
                case measure => simp [RowKit.intOf]

end Go.Proofs.Ytdlenbkkcpcbmaa
