/- Walks of package refs. -/
import Derived.Test.YthfkldheflmlmaaGreatDoorUtf
namespace Go.Proofs.YthfkldheflmlmaaGreatDoor
open Go.RowKit Go.Lib

/-- A package-level variable's cells. -/
def Glob (w : World) (g : Nat) (cs : Array Value) : Prop := ∃ t fr, w.heap[g]? = some (.cells cs t fr)
theorem Glob.below {w w' : World} {g : Nat} {cs : Array Value} (h : Glob w g cs) (hb : Below w.heap.size w w') : Glob w' g cs := by
  obtain ⟨t, fr, h⟩ := h
  exact ⟨t, fr, (hb.block g (Array.getElem?_eq_some_iff.1 h).1).trans h⟩

def turnsTab : List (Int × Int) := [(128, 8364), (130, 8218), (131, 402), (132, 8222), (133, 8230), (134, 8224), (135, 8225), (136, 710), (137, 8240), (138, 352), (139, 8249), (140, 338), (142, 381), (145, 8216), (146, 8217), (147, 8220), (148, 8221), (149, 8226), (150, 8211), (151, 8212), (152, 732), (153, 8482), (154, 353), (155, 8250), (156, 339), (158, 382), (159, 376)]
def turnAt (k : Nat) : Int × Int := turnsTab.getD k (0, 0)
def turnsCells : Array Value := #[.int .i64 128, .int .i64 8364, .int .i64 130, .int .i64 8218, .int .i64 131, .int .i64 402, .int .i64 132, .int .i64 8222, .int .i64 133, .int .i64 8230, .int .i64 134, .int .i64 8224, .int .i64 135, .int .i64 8225, .int .i64 136, .int .i64 710, .int .i64 137, .int .i64 8240, .int .i64 138, .int .i64 352, .int .i64 139, .int .i64 8249, .int .i64 140, .int .i64 338, .int .i64 142, .int .i64 381, .int .i64 145, .int .i64 8216, .int .i64 146, .int .i64 8217, .int .i64 147, .int .i64 8220, .int .i64 148, .int .i64 8221, .int .i64 149, .int .i64 8226, .int .i64 150, .int .i64 8211, .int .i64 151, .int .i64 8212, .int .i64 152, .int .i64 732, .int .i64 153, .int .i64 8482, .int .i64 154, .int .i64 353, .int .i64 155, .int .i64 8250, .int .i64 156, .int .i64 339, .int .i64 158, .int .i64 382, .int .i64 159, .int .i64 376]
/-- The character of a number. -/
def numberI (n : Int) : Int := if n ≤ 0 ∨ isI n = false then 65533 else match turnsTab.find? (·.1 == n) with | some t => t.2 | none => n

theorem turn_index (k : Nat) (hk : k < 27) (w : World) : (Instr.index 140 (.agg turnsCells) (.int .i64 k)).run Tryz.prog w = .ok (.agg #[.int .i64 (turnAt k).1, .int .i64 (turnAt k).2]) w := by
  obtain rfl | rfl | rfl | rfl | rfl | rfl | rfl | rfl | rfl | rfl | rfl | rfl | rfl | rfl | rfl | rfl | rfl | rfl | rfl | rfl | rfl | rfl | rfl | rfl | rfl | rfl | rfl : k = 0 ∨ k = 1 ∨ k = 2 ∨ k = 3 ∨ k = 4 ∨ k = 5 ∨ k = 6 ∨ k = 7 ∨ k = 8 ∨ k = 9 ∨ k = 10 ∨ k = 11 ∨ k = 12 ∨ k = 13 ∨ k = 14 ∨ k = 15 ∨ k = 16 ∨ k = 17 ∨ k = 18 ∨ k = 19 ∨ k = 20 ∨ k = 21 ∨ k = 22 ∨ k = 23 ∨ k = 24 ∨ k = 25 ∨ k = 26 := by omega
  all_goals kernel_rfl

theorem find_at (n : Int) (k : Nat) (hk : k < 27) (hno : ∀ j, j < k → (turnAt j).1 ≠ n) (he : (turnAt k).1 = n) : turnsTab.find? (·.1 == n) = some (turnAt k) := by
  have hl : turnsTab.length = 27 := rfl
  have hg : turnsTab[k]? = some (turnAt k) := by rw [turnAt, List.getD, List.getElem?_eq_getElem (by omega)]; rfl
  rw [List.find?_eq_some_iff_getElem]
  refine ⟨by simp [he], k, by omega, by rw [List.getElem?_eq_getElem (by omega)] at hg; exact Option.some.inj hg, fun j hj => ?_⟩
  have := hno j hj
  rw [turnAt, List.getD, List.getElem?_eq_getElem (by omega)] at this
  simpa using this
theorem find_none (n : Int) (hno : ∀ j, j < 27 → (turnAt j).1 ≠ n) : turnsTab.find? (·.1 == n) = none := by
  rw [List.find?_eq_none]
  intro x hx
  obtain ⟨j, hj, rfl⟩ := List.getElem_of_mem hx
  have := hno j hj
  rw [turnAt, List.getD, List.getElem?_eq_getElem hj] at this
  simpa using this

set_option maxRecDepth 100000 in
set_option maxHeartbeats 1000000 in
theorem number_rest (w : World) (n : Int) (ht : Glob w 3 turnsCells) (h0 : ¬ n ≤ 0) (h1 : ¬ n > 1114111) (h2 : n < 55296 ∨ 57343 < n) :
    Calls Tryz.prog 107 #[.int .i64 n] w fun e w' => e = .returned (.int .i64 (numberI n)) ∧ Below w.heap.size w w' := by
  have hn : numberI n = match turnsTab.find? (·.1 == n) with | some t => t.2 | none => n := by
    rw [numberI, if_neg]
    simp [isI]
    omega
  obtain ⟨t, fr, hg⟩ := ht
  have HN := Lib.hid hn
  have HG := Lib.hid hg
  have HX := Lib.hid turn_index
  clear hn hg
  rcases h2 with h2 | h2
  all_goals
    try (have h3 : 55296 ≤ n := by omega)
    go_enter Tryz.func107, Tryz.ntmps107
    go_wp2_with (refine wpList_load_row rfl 140 _ rfl 3 rfl t _ fr _ HG.out Tryz.underlying140 rfl (by kernel_rfl) ?_)
    generalize hcs : turnsCells = cs at HX
    have HCS := Lib.hid hcs
    clear hcs
    go_loopw [20] (fun i wr => ∃ k : Nat, k ≤ 27 ∧ i = .int .i64 k ∧ Hid (∀ j, j < k → (turnAt j).1 ≠ n) ∧ Below w.heap.size w wr) (fun i _ => 27 - (intOf i).toNat)
    case atStart => exact ⟨0, by omega, rfl, fun j hj => by omega, Below.refl _ _⟩
    case round =>
      obtain ⟨k, hk, rfl, hno, hb⟩ := hrel
      by_cases hlt : k < 27
      · have hx := HX.out k hlt
        by_cases he : (turnAt k).1 = n
        · have hr : numberI n = (turnAt k).2 := by rw [HN.out, find_at n k hlt hno he]
          have HR := Lib.hid hr
          generalize turnAt k = p at *
          obtain ⟨p1, p2⟩ := p
          obtain rfl : p1 = n := he
          clear hr
          go_wp2
          go_ret
          exact ⟨by rw [HR.out]; rfl, hb.alloc hb.size _⟩
        · have he' : ((turnAt k).1 == n) = false := by simpa using he
          have HNE := Lib.hid he
          clear he
          go_wp2
          go_roundw
          case rel => exact ⟨k + 1, by omega, by go_num, fun j hj => by
            by_cases e : j = k
            · subst e; exact HNE.out
            · exact hno j (by omega), hb.alloc hb.size _⟩
          case measure => simp [intOf]; omega
      · have hr : numberI n = n := by rw [HN.out, find_none n (fun j hj => hno j (by omega))]
        have HR := Lib.hid hr
        clear hr
        go_wp2
        go_ret
        exact ⟨by rw [HR.out]; rfl, hb⟩

set_option maxRecDepth 100000 in
set_option maxHeartbeats 1000000 in
theorem number_calls (w : World) (n : Int) (ht : Glob w 3 turnsCells) :
    Calls Tryz.prog 107 #[.int .i64 n] w fun e w' => e = .returned (.int .i64 (numberI n)) ∧ Below w.heap.size w w' := by
  by_cases h0 : n ≤ 0
  · rw [show numberI n = 65533 by simp [numberI, h0]]
    go_enter Tryz.func107, Tryz.ntmps107
    go_wp2; go_ret; exact ⟨rfl, Below.refl _ _⟩
  by_cases h1 : n > 1114111
  · rw [show numberI n = 65533 by rw [numberI, if_pos (.inr (by simp [isI]; omega))]]
    go_enter Tryz.func107, Tryz.ntmps107
    go_wp2; go_ret; exact ⟨rfl, Below.refl _ _⟩
  by_cases h2 : n ≥ 55296
  · by_cases h3 : n ≤ 57343
    · rw [show numberI n = 65533 by rw [numberI, if_pos (.inr (by simp [isI]; omega))]]
      go_enter Tryz.func107, Tryz.ntmps107
      go_wp2; go_ret; exact ⟨rfl, Below.refl _ _⟩
    · exact number_rest w n ht h0 h1 (.inr (by omega))
  · exact number_rest w n ht h0 h1 (.inl (by omega))

end Go.Proofs.YthfkldheflmlmaaGreatDoor
