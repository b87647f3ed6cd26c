/- Walks of the functions on single bytes. -/
import Derived.Test.YthfkldheflmlmaaGreatDoorProg
import Derived.WalkKit
import Derived.WalkLawsBesides
import Derived.WalkSpells
import Derived.Below
import Derived.Deep.Draws
import Derived.Deep.QuietTactic
import Derived.BigQuiet
import Derived.Lib.Hide
import Derived.OwnWalk
import Derived.Laws.Rows
import Derived.Outline
import Derived.Lib.ConvBytes
import Derived.Deep.LoopGhost
namespace Go.Proofs.YthfkldheflmlmaaGreatDoor
open Go.RowKit Go.Lib

def spaceI (c : Int) : Bool := c == 9 || (c == 10 || (c == 12 || c == 32))
def letterI (c : Int) : Bool := (decide (65 ≤ c) && decide (c ≤ 90)) || (decide (97 ≤ c) && decide (c ≤ 122))
def digitI (c : Int) : Bool := decide (48 ≤ c) && decide (c ≤ 57)

set_option maxHeartbeats 400000 in
theorem space_calls (w : World) (c : Int) :
    Calls Tryz.prog 50 #[.int .u8 c] w fun e w' => e = .returned (.bool (spaceI c)) ∧ w = w' := by
  unfold spaceI
  go_enter Tryz.func50, Tryz.ntmps50
  by_cases h1 : c = 9
  · subst h1; go_wp2; go_ret; exact ⟨rfl, rfl⟩
  have e1 : (c == 9) = false := by simpa using h1
  by_cases h2 : c = 10
  · subst h2; go_wp2; go_ret; exact ⟨rfl, rfl⟩
  have e2 : (c == 10) = false := by simpa using h2
  by_cases h3 : c = 12
  · subst h3; go_wp2; go_ret; exact ⟨rfl, rfl⟩
  have e3 : (c == 12) = false := by simpa using h3
  go_wp2; go_ret; exact ⟨by simp [e1, e2, e3], rfl⟩

set_option maxHeartbeats 400000 in
theorem letter_calls (w : World) (c : Int) :
    Calls Tryz.prog 76 #[.int .u8 c] w fun e w' => e = .returned (.bool (letterI c)) ∧ w = w' := by
  unfold letterI
  go_enter Tryz.func76, Tryz.ntmps76
  by_cases h1 : 65 ≤ c
  · by_cases h2 : c ≤ 90
    · go_wp2; go_ret; exact ⟨by simp [h1, h2], rfl⟩
    · by_cases h3 : 97 ≤ c <;> (go_wp2; go_ret; exact ⟨by simp [*] <;> omega, rfl⟩)
  · have h3 : ¬ 97 ≤ c := by omega
    go_wp2; go_ret; exact ⟨by simp [*] <;> omega, rfl⟩

set_option maxHeartbeats 400000 in
theorem digit_calls (w : World) (c : Int) :
    Calls Tryz.prog 40 #[.int .u8 c] w fun e w' => e = .returned (.bool (digitI c)) ∧ w = w' := by
  unfold digitI
  go_enter Tryz.func40, Tryz.ntmps40
  by_cases h1 : 48 ≤ c <;> (go_wp2; go_ret; exact ⟨by simp [*] <;> omega, rfl⟩)

theorem add0 (g j : Nat) : (⟨g, 0, none⟩ : Addr).add j = ⟨g, j, none⟩ := by unfold Addr.add; split <;> simp_all

/-! ### strings as lists of bytes -/
def mkS (l : List UInt8) : ByteArray := ⟨l.toArray⟩
theorem mkS_of (s : ByteArray) : mkS s.data.toList = s := rfl
theorem of_mkS (l : List UInt8) : (mkS l).data.toList = l := by simp [mkS]
theorem push_fold (l : List UInt8) : ∀ s : ByteArray, l.foldl (fun r b => r.push b) s = ⟨s.data ++ l.toArray⟩ := by
  induction l with
  | nil => intro s; simp
  | cons b l ih => intro s; rw [List.foldl_cons, ih]; simp [ByteArray.push]
theorem conv_bytes_string {P : Program} (w : World) (src dst e : TypeId) (a : Addr) (n c : Nat) (l : List UInt8) (hl : l.length = n)
    (hs : P.underlying src = some (.slice e)) (he : P.underlying e = some (.int .u8)) (hd : P.underlying dst = some .string)
    (hc : ∀ j, j < n → w.cell? (a.add j) = some (.int .u8 (l.getD j 0).toNat)) :
    (convert src dst (.slice (some a) n c)).run P w = .ok (.string (mkS l)) w := by
  rw [run_convert_bytes_string w src dst e _ n c hs he hd, run_bytesToString (ns := l.map fun b => (b.toNat : Int))]
  · rw [List.foldl_map]
    simp only [Int.toNat_natCast, UInt8.ofNat_toNat]
    rw [push_fold]
    simp [mkS, ByteArray.empty, ByteArray.emptyWithCapacity]
    rfl
  · rw [run_loadCells (w := w) a n (fun j => .int .u8 (l.getD j 0).toNat) hc]
    congr 1
    apply Array.ext
    · simp [hl]
    · intro i h1 h2
      simp at h1 h2
      simp [List.getD, h2]

def lowB (b : UInt8) : UInt8 := if 65 ≤ b.toNat ∧ b.toNat ≤ 90 then b + 32 else b
def lowL (l : List UInt8) : List UInt8 := l.map lowB
theorem lowB_up {b : UInt8} (h : 65 ≤ b.toNat) (h' : b.toNat ≤ 90) : ((lowB b).toNat : Int) = (b.toNat : Int) + 32 := by
  simp only [lowB, h, h', and_self, if_true, UInt8.toNat_add]
  have : (32 : UInt8).toNat = 32 := rfl
  omega
theorem lowB_low {b : UInt8} (h : ¬ (65 ≤ b.toNat ∧ b.toNat ≤ 90)) : lowB b = b := by simp only [lowB, h, if_false]

def LowRow (wr : World) (B k : Nat) (l : List UInt8) : Prop :=
  ∀ j, j < l.length → wr.cell? ⟨B, j, none⟩ = some (.int .u8 ((if j < k then lowB (l.getD j 0) else l.getD j 0).toNat)) ∧ wr.frozen? ⟨B, j, none⟩ = false
theorem LowRow.step {wr : World} {B k : Nat} {l : List UInt8} (h : LowRow wr B k l) {v : Value} (hv : v = .int .u8 (lowB (l.getD k 0)).toNat) : LowRow (wr.setCell ⟨B, k, none⟩ v) B (k + 1) l := by
  intro j hj
  obtain ⟨hc, hf⟩ := h j hj
  by_cases e : j = k
  · subst e
    subst hv
    refine ⟨?_, by simpa [World.frozen?_setCell] using hf⟩
    rw [World.cell?_setCell_same _ _ _ hc, if_pos (by omega)]
  · refine ⟨?_, by simpa [World.frozen?_setCell] using hf⟩
    rw [World.cell?_setCell_other _ _ _ _ (by simp)]
    rw [hc]
    by_cases h1 : j < k
    · rw [if_pos h1, if_pos (by omega)]
    · rw [if_neg h1, if_neg (by omega)]
theorem LowRow.skip {wr : World} {B k : Nat} {l : List UInt8} (h : LowRow wr B k l) (hv : lowB (l.getD k 0) = l.getD k 0) : LowRow wr B (k + 1) l := by
  intro j hj
  obtain ⟨hc, hf⟩ := h j hj
  refine ⟨?_, hf⟩
  rw [hc]
  by_cases e : j = k
  · subst e; rw [if_neg (by omega), if_pos (by omega), hv]
  · by_cases h1 : j < k
    · rw [if_pos h1, if_pos (by omega)]
    · rw [if_neg h1, if_neg (by omega)]

set_option maxRecDepth 100000 in
set_option maxHeartbeats 1000000 in
theorem lower_calls (w : World) (s : ByteArray) (hs : s.size ≤ 1000000000) :
    Calls Tryz.prog 49 #[.string s] w fun e w' => e = .returned (.string (mkS (lowL s.data.toList))) ∧ Below w.heap.size w w' := by
  have kc := fun W => Lib.run_convert_string_bytes (P := Tryz.prog) W 9 63 5 s Tryz.underlying9 Tryz.underlying63 Tryz.underlying5
  have kd := fun W a n c l hl hc => conv_bytes_string (P := Tryz.prog) W 63 9 5 a n c l hl Tryz.underlying63 Tryz.underlying5 Tryz.underlying9 hc
  have KD := Lib.hid kd
  clear kd
  have hlen : s.data.toList.length = s.size := Array.length_toList
  have HL := Lib.hid hlen
  clear hlen
  have hold := fun j hj => Lib.bytesWorld_at_old w 5 s j hj
  have hnew := Lib.bytesWorld_at_new w 5 s
  have hsz := Lib.bytesWorld_size w 5 s
  have hcell := fun j hj => Lib.bytesWorld_cell w 5 s j hj
  have H1 : LowRow (bytesWorld w 5 s) w.heap.size 0 s.data.toList := by
    intro j hj
    rw [HL.out] at hj
    refine ⟨by rw [hcell j hj, if_neg (by omega)], ?_⟩
    simp only [World.frozen?, hnew]
    have hb : j < (bytesCells w 5 s).size := by simp [bytesCells]; omega
    simp
    omega
  have H2 : Below w.heap.size w (bytesWorld w 5 s) := ⟨rfl, rfl, rfl, by omega, hold⟩
  have H3 : w.heap.size < (bytesWorld w 5 s).heap.size := by omega
  clear hold hnew hsz hcell
  go_enter Tryz.func49, Tryz.ntmps49
  go_wp2
  generalize bytesWorld w 5 s = wb at *
  clear kc
  go_loopw [9] (fun i wr => ∃ k : Nat, k ≤ s.size ∧ i = .int .i64 k ∧ LowRow wr w.heap.size k s.data.toList ∧ Below w.heap.size w wr) (fun i _ => s.size - (intOf i).toNat)
  case atStart => exact ⟨0, Nat.zero_le _, rfl, H1, H2⟩
  case round =>
    obtain ⟨k, hk, rfl, hrow, hb⟩ := hrel
    by_cases hlt : k < s.size
    · obtain ⟨hc, hf⟩ := hrow k (by rw [HL.out]; exact hlt)
      rw [if_neg (by omega)] at hc
      have HR := Lib.hid hrow
      clear hrow
      generalize hbv : s.data.toList.getD k 0 = b at hc
      have HB := Lib.hid hbv
      clear hbv
      have hb8 : b.toNat ≤ 255 := by have := b.toNat_lt; omega
      by_cases h1 : 65 ≤ b.toNat
      · by_cases h2 : b.toNat ≤ 90
        · go_wp2
          go_roundw
          case rel => exact ⟨k + 1, by omega, by go_num, HR.out.step (by rw [HB.out, lowB_up h1 h2]), hb.setCell (Nat.le_refl _) _⟩
          case measure => simp [intOf]; omega
        · go_wp2
          go_roundw
          case rel => exact ⟨k + 1, by omega, by go_num, HR.out.skip (by rw [HB.out, lowB_low (by omega)]), hb⟩
          case measure => simp [intOf]; omega
      · go_wp2
        go_roundw
        case rel => exact ⟨k + 1, by omega, by go_num, HR.out.skip (by rw [HB.out, lowB_low (by omega)]), hb⟩
        case measure => simp [intOf]; omega
    · have ek : k = s.size := by omega
      have hkd := KD.out wr ⟨w.heap.size, 0, none⟩ s.size (grownCap w s.size 0 5) (lowL s.data.toList) (by simp [lowL]) (by
        intro j hj
        have := (hrow j (by rw [HL.out]; exact hj)).1
        rw [if_pos (by omega)] at this
        rw [add0]
        simpa [lowL, List.getD, HL.out, hj] using this)
      clear hrow ek
      go_wp2
      go_ret
      exact ⟨rfl, hb⟩

end Go.Proofs.YthfkldheflmlmaaGreatDoor
