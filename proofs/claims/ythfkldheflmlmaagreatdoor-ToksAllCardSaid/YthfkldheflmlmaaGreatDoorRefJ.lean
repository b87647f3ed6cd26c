/- The reference's table of names (rectoref04: Refs, Name, Loose): contracts. -/
import Derived.Test.YthfkldheflmlmaaGreatDoorRefI
namespace Go.Proofs.YthfkldheflmlmaaGreatDoor
open Go.RowKit Go.Lib

def rrefsCells : Array Value := #[.string ⟨#[97, 109, 112]⟩, .int .i64 38, .string ⟨#[108, 116]⟩, .int .i64 60, .string ⟨#[103, 116]⟩, .int .i64 62, .string ⟨#[113, 117, 111, 116]⟩, .int .i64 34, .string ⟨#[110, 98, 115, 112]⟩, .int .i64 160, .string ⟨#[99, 111, 112, 121]⟩, .int .i64 169, .string ⟨#[114, 101, 103]⟩, .int .i64 174, .string ⟨#[110, 111, 116]⟩, .int .i64 172, .string ⟨#[110, 111, 116, 105, 110]⟩, .int .i64 8713, .string ⟨#[116, 105, 109, 101, 115]⟩, .int .i64 215, .string ⟨#[112, 97, 114, 97]⟩, .int .i64 182, .string ⟨#[115, 101, 99, 116]⟩, .int .i64 167, .string ⟨#[101, 97, 99, 117, 116, 101]⟩, .int .i64 233, .string ⟨#[69, 97, 99, 117, 116, 101]⟩, .int .i64 201, .string ⟨#[97, 117, 109, 108]⟩, .int .i64 228, .string ⟨#[65, 117, 109, 108]⟩, .int .i64 196, .string ⟨#[115, 122, 108, 105, 103]⟩, .int .i64 223, .string ⟨#[101, 117, 114, 111]⟩, .int .i64 8364, .string ⟨#[104, 101, 108, 108, 105, 112]⟩, .int .i64 8230, .string ⟨#[109, 100, 97, 115, 104]⟩, .int .i64 8212, .string ⟨#[110, 100, 97, 115, 104]⟩, .int .i64 8211, .string ⟨#[97, 108, 112, 104, 97]⟩, .int .i64 945, .string ⟨#[98, 101, 116, 97]⟩, .int .i64 946, .string ⟨#[114, 97, 114, 114]⟩, .int .i64 8594, .string ⟨#[108, 97, 114, 114]⟩, .int .i64 8592, .string ⟨#[97, 112, 111, 115]⟩, .int .i64 39, .string ⟨#[121, 101, 110]⟩, .int .i64 165, .string ⟨#[109, 105, 99, 114, 111]⟩, .int .i64 181]
theorem rrefs_cells (k : Nat) (hk : k < 28) : rrefsCells[k * 2]? = some (.string (mkS (refAt k).1)) ∧ rrefsCells[k * 2 + 1]? = some (.int .i64 (refAt k).2.1) := by
  obtain rfl | rfl | rfl | rfl | rfl | rfl | rfl | rfl | rfl | rfl | rfl | rfl | rfl | rfl | rfl | rfl | rfl | rfl | rfl | rfl | rfl | rfl | rfl | rfl | rfl | rfl | rfl | rfl : k = 0 ∨ k = 1 ∨ k = 2 ∨ k = 3 ∨ k = 4 ∨ k = 5 ∨ k = 6 ∨ k = 7 ∨ k = 8 ∨ k = 9 ∨ k = 10 ∨ k = 11 ∨ k = 12 ∨ k = 13 ∨ k = 14 ∨ k = 15 ∨ k = 16 ∨ k = 17 ∨ k = 18 ∨ k = 19 ∨ k = 20 ∨ k = 21 ∨ k = 22 ∨ k = 23 ∨ k = 24 ∨ k = 25 ∨ k = 26 ∨ k = 27 := by omega
  all_goals exact ⟨rfl, rfl⟩
set_option maxRecDepth 100000 in
set_option maxHeartbeats 2000000 in
theorem rrefs_calls (w : World) : Calls Tryz.prog 122 #[] w fun e w' => ∃ b, e = .returned (.slice (some ⟨b, 0, none⟩) 28 28) ∧ w'.heap[b]? = some (.cells rrefsCells 144 (0, 0)) ∧ Below w.heap.size w w' := by
  have hR := blk_new w rrefsCells 144
  have hb0 : Below w.heap.size w (w.alloc (.cells rrefsCells 144)) := (Below.refl _ _).alloc (Nat.le_refl _) _
  go_enter Tryz.func122, Tryz.ntmps122
  go_wp2
  go_ret
  exact ⟨w.heap.size, rfl, hR, hb0⟩
/-- The character of a name among those from one on. -/
def charD (k : Nat) (w : List UInt8) : Int := match (refsTab.drop k).find? (·.1 == w) with | some r => r.2.1 | none => 0
theorem charD_step (k : Nat) (w : List UInt8) (hk : k < 28) : charD k w = if ((refAt k).1 == w) = true then (refAt k).2.1 else charD (k + 1) w := by
  have hl : k < refsTab.length := hk
  have hd : refsTab.drop k = refAt k :: refsTab.drop (k + 1) := by rw [List.drop_eq_getElem_cons hl, refAt, List.getD, List.getElem?_eq_getElem hl]; rfl
  rw [charD, hd, List.find?_cons]
  cases h : ((refAt k).1 == w) with
  | true => rfl
  | false => rfl
set_option maxRecDepth 100000 in
set_option maxHeartbeats 2000000 in
theorem rname_calls (w : World) (s : ByteArray) : Calls Tryz.prog 110 #[.string s] w fun e w' => e = .returned (.int .i64 (charN s.data.toList)) ∧ Below w.heap.size w w' := by
  have RC := Lib.hid (fun W => rrefs_calls W)
  generalize hv : charN s.data.toList = v
  have HV : Hid (v = charD 0 s.data.toList) := Lib.hid hv.symm
  clear hv
  go_enter Tryz.func110, Tryz.ntmps110
  go_upto_region 2 with (go_at_call 122; refine (RC.out _).mono ?_; rintro e w1 ⟨b, rfl, hblk, hb1⟩)
  go_loopw [7] (fun i wr => ∃ k : Nat, k ≤ 28 ∧ i = .int .i64 k ∧ Below w.heap.size w wr ∧ wr.heap[b]? = some (.cells rrefsCells 144 (0, 0)) ∧ Hid (v = charD k s.data.toList)) (fun i _ => 28 - (RowKit.intOf i).toNat)
  case atStart => exact ⟨0, by omega, rfl, hb1, hblk, HV⟩
  case round =>
    obtain ⟨k, hk, rfl, hbw, hB, HN⟩ := hrel
    have HBB := Lib.hid hB
    have hbl := blk_lt hB
    clear hblk
    by_cases hlt : k < 28
    · obtain ⟨e0, e1⟩ := rrefs_cells k hlt
      have c0 := (blk_cell hB (k * 2)).trans e0
      have c1 := (blk_cell hB (k * 2 + 1)).trans e1
      have hst := charD_step k s.data.toList hlt
      have hq : ((mkS (refAt k).1).toList == s.toList) = ((refAt k).1 == s.data.toList) := by rw [ByteArray.toList_eq, ByteArray.toList_eq, of_mkS]
      clear e0 e1 hB
      generalize refAt k = rk at *
      cases hx : (rk.1 == s.data.toList) with
      | true =>
        have HQ : Hid (v = rk.2.1) := Lib.hid (by rw [HN.out, hst, hx]; rfl)
        rw [hx] at hq
        clear hst hx
        go_wp2
        go_ret
        exact ⟨by rw [HQ.out]; rfl, hbw.alloc hbw.size _⟩
      | false =>
        have HQ : Hid (v = charD (k + 1) s.data.toList) := Lib.hid (by rw [HN.out, hst, hx]; rfl)
        rw [hx] at hq
        clear hst hx
        go_wp2
        go_roundw
        case rel => exact ⟨k + 1, by omega, by go_num, hbw.alloc hbw.size _, blk_alloc HBB.out _, HQ⟩
        case measure => simp [RowKit.intOf]; omega
    · obtain rfl : k = 28 := by omega
      have HQ : Hid (v = 0) := HN
      clear hB
      go_wp2
      go_ret
      exact ⟨by rw [HQ.out]; rfl, hbw⟩
theorem loose_char : ∀ r ∈ refsTab, r.2.2 = !([[110, 111, 116, 105, 110], [101, 117, 114, 111], [104, 101, 108, 108, 105, 112], [109, 100, 97, 115, 104], [110, 100, 97, 115, 104], [97, 108, 112, 104, 97], [98, 101, 116, 97], [114, 97, 114, 114], [108, 97, 114, 114], [97, 112, 111, 115]].contains r.1) := by decide +kernel
theorem loose_of {w : List UInt8} (h : [[110, 111, 116, 105, 110], [101, 117, 114, 111], [104, 101, 108, 108, 105, 112], [109, 100, 97, 115, 104], [110, 100, 97, 115, 104], [97, 108, 112, 104, 97], [98, 101, 116, 97], [114, 97, 114, 114], [108, 97, 114, 114], [97, 112, 111, 115]].contains w = false) : looseN w = (charN w != 0) := by
  unfold looseN charN
  cases hf : refsTab.find? (·.1 == w) with
  | none => rfl
  | some r =>
    have h1 : r.1 = w := by simpa using List.find?_some hf
    have h2 := List.mem_of_find?_eq_some hf
    simp only
    rw [loose_char r h2, h1, h]
    have := (charN_tab r h2).2.2.1
    simpa using this

end Go.Proofs.YthfkldheflmlmaaGreatDoor
