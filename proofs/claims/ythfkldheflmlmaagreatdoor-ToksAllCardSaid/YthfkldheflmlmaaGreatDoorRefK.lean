/- Which names of the reference's table may stand without a ; behind them (rectoref04.Loose): its contract. -/
import Derived.Test.YthfkldheflmlmaaGreatDoorRefJ
namespace Go.Proofs.YthfkldheflmlmaaGreatDoor
open Go.RowKit Go.Lib

set_option maxRecDepth 100000 in
set_option maxHeartbeats 4000000 in
theorem rloose1 (w : World) (s : ByteArray) (g0 : (s.toList == [110, 111, 116, 105, 110]) = true) : Calls Tryz.prog 112 #[.string s] w fun e w' => e = .returned (.bool false) ∧ w = w' := by
  go_enter Tryz.func112, Tryz.ntmps112
  go_wp2
  go_ret
  exact ⟨rfl, rfl⟩
set_option maxRecDepth 100000 in
set_option maxHeartbeats 4000000 in
theorem rloose2 (w : World) (s : ByteArray) (g0 : (s.toList == [110, 111, 116, 105, 110]) = false) (g1 : (s.toList == [101, 117, 114, 111]) = true) : Calls Tryz.prog 112 #[.string s] w fun e w' => e = .returned (.bool false) ∧ w = w' := by
  go_enter Tryz.func112, Tryz.ntmps112
  go_wp2
  go_ret
  exact ⟨rfl, rfl⟩
set_option maxRecDepth 100000 in
set_option maxHeartbeats 4000000 in
theorem rloose3 (w : World) (s : ByteArray) (g0 : (s.toList == [110, 111, 116, 105, 110]) = false) (g1 : (s.toList == [101, 117, 114, 111]) = false) (g2 : (s.toList == [104, 101, 108, 108, 105, 112]) = true) : Calls Tryz.prog 112 #[.string s] w fun e w' => e = .returned (.bool false) ∧ w = w' := by
  go_enter Tryz.func112, Tryz.ntmps112
  go_wp2
  go_ret
  exact ⟨rfl, rfl⟩
set_option maxRecDepth 100000 in
set_option maxHeartbeats 4000000 in
theorem rloose4 (w : World) (s : ByteArray) (g0 : (s.toList == [110, 111, 116, 105, 110]) = false) (g1 : (s.toList == [101, 117, 114, 111]) = false) (g2 : (s.toList == [104, 101, 108, 108, 105, 112]) = false) (g3 : (s.toList == [109, 100, 97, 115, 104]) = true) : Calls Tryz.prog 112 #[.string s] w fun e w' => e = .returned (.bool false) ∧ w = w' := by
  go_enter Tryz.func112, Tryz.ntmps112
  go_wp2
  go_ret
  exact ⟨rfl, rfl⟩
set_option maxRecDepth 100000 in
set_option maxHeartbeats 4000000 in
theorem rloose5 (w : World) (s : ByteArray) (g0 : (s.toList == [110, 111, 116, 105, 110]) = false) (g1 : (s.toList == [101, 117, 114, 111]) = false) (g2 : (s.toList == [104, 101, 108, 108, 105, 112]) = false) (g3 : (s.toList == [109, 100, 97, 115, 104]) = false) (g4 : (s.toList == [110, 100, 97, 115, 104]) = true) : Calls Tryz.prog 112 #[.string s] w fun e w' => e = .returned (.bool false) ∧ w = w' := by
  go_enter Tryz.func112, Tryz.ntmps112
  go_wp2
  go_ret
  exact ⟨rfl, rfl⟩
set_option maxRecDepth 100000 in
set_option maxHeartbeats 4000000 in
theorem rloose6 (w : World) (s : ByteArray) (g0 : (s.toList == [110, 111, 116, 105, 110]) = false) (g1 : (s.toList == [101, 117, 114, 111]) = false) (g2 : (s.toList == [104, 101, 108, 108, 105, 112]) = false) (g3 : (s.toList == [109, 100, 97, 115, 104]) = false) (g4 : (s.toList == [110, 100, 97, 115, 104]) = false) (g5 : (s.toList == [97, 108, 112, 104, 97]) = true) : Calls Tryz.prog 112 #[.string s] w fun e w' => e = .returned (.bool false) ∧ w = w' := by
  go_enter Tryz.func112, Tryz.ntmps112
  go_wp2
  go_ret
  exact ⟨rfl, rfl⟩
set_option maxRecDepth 100000 in
set_option maxHeartbeats 4000000 in
theorem rloose7 (w : World) (s : ByteArray) (g0 : (s.toList == [110, 111, 116, 105, 110]) = false) (g1 : (s.toList == [101, 117, 114, 111]) = false) (g2 : (s.toList == [104, 101, 108, 108, 105, 112]) = false) (g3 : (s.toList == [109, 100, 97, 115, 104]) = false) (g4 : (s.toList == [110, 100, 97, 115, 104]) = false) (g5 : (s.toList == [97, 108, 112, 104, 97]) = false) (g6 : (s.toList == [98, 101, 116, 97]) = true) : Calls Tryz.prog 112 #[.string s] w fun e w' => e = .returned (.bool false) ∧ w = w' := by
  go_enter Tryz.func112, Tryz.ntmps112
  go_wp2
  go_ret
  exact ⟨rfl, rfl⟩
set_option maxRecDepth 100000 in
set_option maxHeartbeats 4000000 in
theorem rloose8 (w : World) (s : ByteArray) (g0 : (s.toList == [110, 111, 116, 105, 110]) = false) (g1 : (s.toList == [101, 117, 114, 111]) = false) (g2 : (s.toList == [104, 101, 108, 108, 105, 112]) = false) (g3 : (s.toList == [109, 100, 97, 115, 104]) = false) (g4 : (s.toList == [110, 100, 97, 115, 104]) = false) (g5 : (s.toList == [97, 108, 112, 104, 97]) = false) (g6 : (s.toList == [98, 101, 116, 97]) = false) (g7 : (s.toList == [114, 97, 114, 114]) = true) : Calls Tryz.prog 112 #[.string s] w fun e w' => e = .returned (.bool false) ∧ w = w' := by
  go_enter Tryz.func112, Tryz.ntmps112
  go_wp2
  go_ret
  exact ⟨rfl, rfl⟩
set_option maxRecDepth 100000 in
set_option maxHeartbeats 4000000 in
theorem rloose9 (w : World) (s : ByteArray) (g0 : (s.toList == [110, 111, 116, 105, 110]) = false) (g1 : (s.toList == [101, 117, 114, 111]) = false) (g2 : (s.toList == [104, 101, 108, 108, 105, 112]) = false) (g3 : (s.toList == [109, 100, 97, 115, 104]) = false) (g4 : (s.toList == [110, 100, 97, 115, 104]) = false) (g5 : (s.toList == [97, 108, 112, 104, 97]) = false) (g6 : (s.toList == [98, 101, 116, 97]) = false) (g7 : (s.toList == [114, 97, 114, 114]) = false) (g8 : (s.toList == [108, 97, 114, 114]) = true) : Calls Tryz.prog 112 #[.string s] w fun e w' => e = .returned (.bool false) ∧ w = w' := by
  go_enter Tryz.func112, Tryz.ntmps112
  go_wp2
  go_ret
  exact ⟨rfl, rfl⟩
set_option maxRecDepth 100000 in
set_option maxHeartbeats 4000000 in
theorem rloose10 (w : World) (s : ByteArray) (g0 : (s.toList == [110, 111, 116, 105, 110]) = false) (g1 : (s.toList == [101, 117, 114, 111]) = false) (g2 : (s.toList == [104, 101, 108, 108, 105, 112]) = false) (g3 : (s.toList == [109, 100, 97, 115, 104]) = false) (g4 : (s.toList == [110, 100, 97, 115, 104]) = false) (g5 : (s.toList == [97, 108, 112, 104, 97]) = false) (g6 : (s.toList == [98, 101, 116, 97]) = false) (g7 : (s.toList == [114, 97, 114, 114]) = false) (g8 : (s.toList == [108, 97, 114, 114]) = false) (g9 : (s.toList == [97, 112, 111, 115]) = true) : Calls Tryz.prog 112 #[.string s] w fun e w' => e = .returned (.bool false) ∧ w = w' := by
  go_enter Tryz.func112, Tryz.ntmps112
  go_wp2
  go_ret
  exact ⟨rfl, rfl⟩
set_option maxRecDepth 100000 in
set_option maxHeartbeats 4000000 in
theorem rloose_calls (w : World) (s : ByteArray) : Calls Tryz.prog 112 #[.string s] w fun e w' => e = .returned (.bool (looseN s.data.toList)) ∧ Below w.heap.size w w' := by
  have hf : ∀ l, (s.toList == l) = true → looseN l = false → looseN s.data.toList = false := fun l h1 h2 => by
    rw [ByteArray.toList_eq] at h1
    rw [beq_iff_eq.1 h1, h2]
  cases g0 : (s.toList == [110, 111, 116, 105, 110]) with
  | true => exact (rloose1 w s g0).mono (fun e w' ⟨h1, h2⟩ => ⟨by rw [h1, hf _ g0 (by decide +kernel)], h2 ▸ Below.refl _ _⟩)
  | false =>
  cases g1 : (s.toList == [101, 117, 114, 111]) with
  | true => exact (rloose2 w s g0 g1).mono (fun e w' ⟨h1, h2⟩ => ⟨by rw [h1, hf _ g1 (by decide +kernel)], h2 ▸ Below.refl _ _⟩)
  | false =>
  cases g2 : (s.toList == [104, 101, 108, 108, 105, 112]) with
  | true => exact (rloose3 w s g0 g1 g2).mono (fun e w' ⟨h1, h2⟩ => ⟨by rw [h1, hf _ g2 (by decide +kernel)], h2 ▸ Below.refl _ _⟩)
  | false =>
  cases g3 : (s.toList == [109, 100, 97, 115, 104]) with
  | true => exact (rloose4 w s g0 g1 g2 g3).mono (fun e w' ⟨h1, h2⟩ => ⟨by rw [h1, hf _ g3 (by decide +kernel)], h2 ▸ Below.refl _ _⟩)
  | false =>
  cases g4 : (s.toList == [110, 100, 97, 115, 104]) with
  | true => exact (rloose5 w s g0 g1 g2 g3 g4).mono (fun e w' ⟨h1, h2⟩ => ⟨by rw [h1, hf _ g4 (by decide +kernel)], h2 ▸ Below.refl _ _⟩)
  | false =>
  cases g5 : (s.toList == [97, 108, 112, 104, 97]) with
  | true => exact (rloose6 w s g0 g1 g2 g3 g4 g5).mono (fun e w' ⟨h1, h2⟩ => ⟨by rw [h1, hf _ g5 (by decide +kernel)], h2 ▸ Below.refl _ _⟩)
  | false =>
  cases g6 : (s.toList == [98, 101, 116, 97]) with
  | true => exact (rloose7 w s g0 g1 g2 g3 g4 g5 g6).mono (fun e w' ⟨h1, h2⟩ => ⟨by rw [h1, hf _ g6 (by decide +kernel)], h2 ▸ Below.refl _ _⟩)
  | false =>
  cases g7 : (s.toList == [114, 97, 114, 114]) with
  | true => exact (rloose8 w s g0 g1 g2 g3 g4 g5 g6 g7).mono (fun e w' ⟨h1, h2⟩ => ⟨by rw [h1, hf _ g7 (by decide +kernel)], h2 ▸ Below.refl _ _⟩)
  | false =>
  cases g8 : (s.toList == [108, 97, 114, 114]) with
  | true => exact (rloose9 w s g0 g1 g2 g3 g4 g5 g6 g7 g8).mono (fun e w' ⟨h1, h2⟩ => ⟨by rw [h1, hf _ g8 (by decide +kernel)], h2 ▸ Below.refl _ _⟩)
  | false =>
  cases g9 : (s.toList == [97, 112, 111, 115]) with
  | true => exact (rloose10 w s g0 g1 g2 g3 g4 g5 g6 g7 g8 g9).mono (fun e w' ⟨h1, h2⟩ => ⟨by rw [h1, hf _ g9 (by decide +kernel)], h2 ▸ Below.refl _ _⟩)
  | false =>
  have hl := loose_of (w := s.data.toList) (by
    rw [ByteArray.toList_eq] at g0 g1 g2 g3 g4 g5 g6 g7 g8 g9
    simp only [List.contains_cons, List.contains_nil, g0, g1, g2, g3, g4, g5, g6, g7, g8, g9, Bool.or_false])
  rw [hl]
  have NC := Lib.hid (fun W => rname_calls W s)
  clear hl hf
  generalize charN s.data.toList = v at *
  go_enter Tryz.func112, Tryz.ntmps112
  go_wp2_with (go_at_call 110; refine (NC.out _).mono ?_; rintro e w1 ⟨rfl, hb1⟩)
  go_ret
  exact ⟨rfl, hb1⟩

end Go.Proofs.YthfkldheflmlmaaGreatDoor
