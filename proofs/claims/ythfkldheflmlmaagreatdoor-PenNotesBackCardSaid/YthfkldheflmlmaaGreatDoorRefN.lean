/- The reference reads a comment that was written: rectoref05.Next at such a text. -/
import Derived.Test.YthfkldheflmlmaaGreatDoorRefA
import Derived.Test.YthfkldheflmlmaaGreatDoorTagW
namespace Go.Proofs.YthfkldheflmlmaaGreatDoor
open Go.RowKit Go.Lib

def gotV (s : ByteArray) (n : Nat) : Value := .agg #[.int .i64 4, .string ⟨#[]⟩, .slice none 0 0, .bool false, .string s, .int .i64 n]
/-- What is known of a comment's text x of s. -/
structure NoteX (x s : ByteArray) : Prop where
  x0 : x.data.toList = 60 :: 33 :: 45 :: 45 :: (s.data.toList ++ [45, 45, 62])
  n1 : hasPrefix (s.data.toList ++ [45, 45, 62]) [62] = false
  n2 : hasPrefix (s.data.toList ++ [45, 45, 62]) [45, 62] = false
  f1 : rfindL [45, 45, 62] (s.data.toList ++ [45, 45, 62]) = s.size
  f2 : rfindL [45, 45, 33, 62] (s.data.toList ++ [45, 45, 62]) = s.size + 3
  hs : s.size ≤ 10000
theorem NoteX.size {x s : ByteArray} (h : NoteX x s) : x.size = s.size + 7 := by
  rw [← len_toL, h.x0]
  simp
set_option maxRecDepth 100000 in
set_option maxHeartbeats 4000000 in
theorem rnote_calls (w : World) (x s : ByteArray) (h : NoteX x s) :
    Calls Tryz.prog 67 #[.string x, .int .i64 4] w fun e w' => e = .returned (gotV s x.size) ∧ Below w.heap.size w w' := by
  have hz := h.size
  have hs := h.hs
  have hd : x.data.toList.drop 4 = s.data.toList ++ [45, 45, 62] := by rw [h.x0]; rfl
  have I1 : Hid (∀ W, Calls Tryz.prog 57 #[.string x, .int .i64 4, .string ⟨#[62]⟩] W fun e w' => e = .returned (.bool false) ∧ W = w') := Lib.hid (fun W => by
    have := ris_calls W x ⟨#[62]⟩ 4 (by omega) (by decide) (by decide) (by omega)
    rw [hd, show (⟨#[62]⟩ : ByteArray).data.toList = [62] from rfl, h.n1] at this
    exact this)
  have I2 : Hid (∀ W, Calls Tryz.prog 57 #[.string x, .int .i64 4, .string ⟨#[45, 62]⟩] W fun e w' => e = .returned (.bool false) ∧ W = w') := Lib.hid (fun W => by
    have := ris_calls W x ⟨#[45, 62]⟩ 4 (by omega) (by decide) (by decide) (by omega)
    rw [hd, show (⟨#[45, 62]⟩ : ByteArray).data.toList = [45, 62] from rfl, h.n2] at this
    exact this)
  obtain ⟨a, ha⟩ : ∃ a, a = 4 + s.size := ⟨_, rfl⟩
  obtain ⟨b, hb⟩ : ∃ b, b = 4 + (s.size + 3) := ⟨_, rfl⟩
  have F1 : Hid (∀ W, Calls Tryz.prog 68 #[.string x, .int .i64 4, .string ⟨#[45, 45, 62]⟩] W fun e w' => e = .returned (.int .i64 (a : Nat)) ∧ W = w') := Lib.hid (fun W => by
    have := rfind_calls W x ⟨#[45, 45, 62]⟩ 4 (by omega) (by decide) (by decide) (by omega)
    rw [hd, show (⟨#[45, 45, 62]⟩ : ByteArray).data.toList = [45, 45, 62] from rfl, h.f1, ← ha] at this
    exact this)
  have F2 : Hid (∀ W, Calls Tryz.prog 68 #[.string x, .int .i64 4, .string ⟨#[45, 45, 33, 62]⟩] W fun e w' => e = .returned (.int .i64 (b : Nat)) ∧ W = w') := Lib.hid (fun W => by
    have := rfind_calls W x ⟨#[45, 45, 33, 62]⟩ 4 (by omega) (by decide) (by decide) (by omega)
    rw [hd, show (⟨#[45, 45, 33, 62]⟩ : ByteArray).data.toList = [45, 45, 33, 62] from rfl, h.f2, ← hb] at this
    exact this)
  have hex : x.extract 4 a = s := by rw [ha, cut_to, hd, ← len_toL, List.take_left, mkS_of]
  have i1 : (4 : Int) ≤ (a : Int) := by omega
  have i2 : (a : Int) ≤ (x.size : Int) := by omega
  have i3 : (a : Int) < (b : Int) := by omega
  have i4 : (a : Int) + 3 = (x.size : Int) := by omega
  clear hd h ha hb
  go_enter Tryz.func67, Tryz.ntmps67
  go_wp2_with (first | (go_at_call 57; (first | (with_reducible refine (I1.out _).mono ?_) | (with_reducible refine (I2.out _).mono ?_)); rintro e w1 ⟨rfl, rfl⟩) | (go_at_call 68; (first | (with_reducible refine (F1.out _).mono ?_) | (with_reducible refine (F2.out _).mono ?_)); rintro e w1 ⟨rfl, rfl⟩))
  refine bodyPost_ret (v := gotV s x.size) ?_ rfl ⟨rfl, (Below.refl _ _).alloc (Nat.le_refl _) _⟩
  simp [results, Tryz.results67, go_sem, gotV]
  omega

set_option maxRecDepth 100000 in
set_option maxHeartbeats 4000000 in
theorem rmark_calls (w : World) (x s : ByteArray) (h : NoteX x s) :
    Calls Tryz.prog 31 #[.string x, .int .i64 0, .bool false] w fun e w' => e = .returned (gotV s x.size) ∧ Below w.heap.size w w' := by
  have hz := h.size
  have hs := h.hs
  have NC := Lib.hid (fun W => rnote_calls W x s h)
  have hd : x.data.toList.drop 0 = 60 :: 33 :: 45 :: 45 :: (s.data.toList ++ [45, 45, 62]) := by rw [List.drop_zero, h.x0]
  have hb1 : bI x 1 = 33 := by rw [bI, h.x0]; rfl
  have L1 : Hid (∀ W, Calls Tryz.prog 65 #[.string x, .int .i64 1] W fun e w' => e = .returned (.bool false) ∧ W = w') := Lib.hid (fun W => by
    have := rletterAt_calls W x 1
    rw [hb1, show letterI 33 = false from rfl, Bool.and_false] at this
    exact this)
  have I1 : Hid (∀ W, Calls Tryz.prog 57 #[.string x, .int .i64 0, .string ⟨#[60, 47, 62]⟩] W fun e w' => e = .returned (.bool false) ∧ W = w') := Lib.hid (fun W => by
    have := ris_calls W x ⟨#[60, 47, 62]⟩ 0 (by omega) (by decide) (by decide) (by omega)
    rw [hd, show hasPrefix (60 :: 33 :: 45 :: 45 :: (s.data.toList ++ [45, 45, 62])) (⟨#[60, 47, 62]⟩ : ByteArray).data.toList = false from rfl] at this
    exact this)
  have I2 : Hid (∀ W, Calls Tryz.prog 57 #[.string x, .int .i64 0, .string ⟨#[60, 47]⟩] W fun e w' => e = .returned (.bool false) ∧ W = w') := Lib.hid (fun W => by
    have := ris_calls W x ⟨#[60, 47]⟩ 0 (by omega) (by decide) (by decide) (by omega)
    rw [hd, show hasPrefix (60 :: 33 :: 45 :: 45 :: (s.data.toList ++ [45, 45, 62])) (⟨#[60, 47]⟩ : ByteArray).data.toList = false from rfl] at this
    exact this)
  have I3 : Hid (∀ W, Calls Tryz.prog 57 #[.string x, .int .i64 0, .string ⟨#[60, 63]⟩] W fun e w' => e = .returned (.bool false) ∧ W = w') := Lib.hid (fun W => by
    have := ris_calls W x ⟨#[60, 63]⟩ 0 (by omega) (by decide) (by decide) (by omega)
    rw [hd, show hasPrefix (60 :: 33 :: 45 :: 45 :: (s.data.toList ++ [45, 45, 62])) (⟨#[60, 63]⟩ : ByteArray).data.toList = false from rfl] at this
    exact this)
  have I4 : Hid (∀ W, Calls Tryz.prog 57 #[.string x, .int .i64 0, .string ⟨#[60, 33, 45, 45]⟩] W fun e w' => e = .returned (.bool true) ∧ W = w') := Lib.hid (fun W => by
    have := ris_calls W x ⟨#[60, 33, 45, 45]⟩ 0 (by omega) (by decide) (by decide) (by omega)
    rw [hd, show hasPrefix (60 :: 33 :: 45 :: 45 :: (s.data.toList ++ [45, 45, 62])) (⟨#[60, 33, 45, 45]⟩ : ByteArray).data.toList = true by simp [hasPrefix, List.isPrefixOf]] at this
    exact this)
  clear hd h hb1 hz hs
  have hb0 : Below w.heap.size w (w.alloc (.cells #[.int .i64 0, .string ⟨#[]⟩, .slice none 0 0, .bool false, .string ⟨#[]⟩, .int .i64 0] 42)) := (Below.refl _ _).alloc (Nat.le_refl _) _
  have hR := blk_new w #[.int .i64 0, .string ⟨#[]⟩, .slice none 0 0, .bool false, .string ⟨#[]⟩, .int .i64 0] 42
  unfold gotV at NC
  go_enter Tryz.func31, Tryz.ntmps31
  go_wp2_with (first | (go_at_call 65; refine (L1.out _).mono ?_; rintro e w1 ⟨rfl, rfl⟩) | (go_at_call 57; (first | (with_reducible refine (I1.out _).mono ?_) | (with_reducible refine (I2.out _).mono ?_) | (with_reducible refine (I3.out _).mono ?_) | (with_reducible refine (I4.out _).mono ?_)); rintro e w1 ⟨rfl, rfl⟩) | (go_at_call 67; refine (NC.out _).mono ?_; rintro e w2 ⟨rfl, hb2⟩; have hR2 := (hb2.block _ (blk_lt hR)).trans hR; have hz2 := blk_lt hR2; have r0 := blk_cell hR2 0; have r1 := blk_cell hR2 1; have r2 := blk_cell hR2 2; have r3 := blk_cell hR2 3; have r4 := blk_cell hR2 4; have r5 := blk_cell hR2 5; have q0 := blk_frozen hR2 0; have q1 := blk_frozen hR2 1; have q2 := blk_frozen hR2 2; have q3 := blk_frozen hR2 3; have q4 := blk_frozen hR2 4; have q5 := blk_frozen hR2 5))
  refine bodyPost_ret (v := gotV s x.size) ?_ rfl ⟨rfl, ?_⟩
  · simp [results, Tryz.results31, go_sem, gotV, r0, r1, r2, r3, r4, r5]
  · have hbb := below_then hb0 hb0.size hb2
    exact Ch.toBelow (O := fun j => w.heap.size ≤ j) (Ch.setCell (Ch.setCell (Ch.setCell (Ch.setCell (Ch.setCell (Ch.setCell (Ch.of_below hbb) (.inr (Nat.le_refl _)) _) (.inr (Nat.le_refl _)) _) (.inr (Nat.le_refl _)) _) (.inr (Nat.le_refl _)) _) (.inr (Nat.le_refl _)) _) (.inr (Nat.le_refl _)) _) (Nat.le_refl _) (fun i hi e => by omega)

set_option maxRecDepth 100000 in
set_option maxHeartbeats 1000000 in
theorem rbegins_calls (w : World) (x s : ByteArray) (h : NoteX x s) :
    Calls Tryz.prog 30 #[.string x, .int .i64 0] w fun e w' => e = .returned (.bool true) ∧ w = w' := by
  have hz := h.size
  have hs := h.hs
  have hb1 : bI x 1 = 33 := by rw [bI, h.x0]; rfl
  have hd : x.data.toList.drop 0 = 60 :: 33 :: 45 :: 45 :: (s.data.toList ++ [45, 45, 62]) := by rw [List.drop_zero, h.x0]
  have hd1 : x.data.toList.drop 1 = 33 :: 45 :: 45 :: (s.data.toList ++ [45, 45, 62]) := by rw [h.x0]; rfl
  have L1 : Hid (∀ W, Calls Tryz.prog 65 #[.string x, .int .i64 1] W fun e w' => e = .returned (.bool false) ∧ W = w') := Lib.hid (fun W => by
    have := rletterAt_calls W x 1
    rw [hb1, show letterI 33 = false from rfl, Bool.and_false] at this
    exact this)
  have I1 : Hid (∀ W, Calls Tryz.prog 57 #[.string x, .int .i64 0, .string ⟨#[60]⟩] W fun e w' => e = .returned (.bool true) ∧ W = w') := Lib.hid (fun W => by
    have := ris_calls W x ⟨#[60]⟩ 0 (by omega) (by decide) (by decide) (by omega)
    rw [hd, show hasPrefix (60 :: 33 :: 45 :: 45 :: (s.data.toList ++ [45, 45, 62])) (⟨#[60]⟩ : ByteArray).data.toList = true by simp [hasPrefix, List.isPrefixOf]] at this
    exact this)
  have I2 : Hid (∀ W, Calls Tryz.prog 57 #[.string x, .int .i64 1, .string ⟨#[33]⟩] W fun e w' => e = .returned (.bool true) ∧ W = w') := Lib.hid (fun W => by
    have := ris_calls W x ⟨#[33]⟩ 1 (by omega) (by decide) (by decide) (by omega)
    rw [hd1, show hasPrefix (33 :: 45 :: 45 :: (s.data.toList ++ [45, 45, 62])) (⟨#[33]⟩ : ByteArray).data.toList = true by simp [hasPrefix, List.isPrefixOf]] at this
    exact this)
  clear hd hd1 hb1 h hz hs
  go_enter Tryz.func30, Tryz.ntmps30
  go_wp2_with (first | (go_at_call 65; refine (L1.out _).mono ?_; rintro e w1 ⟨rfl, rfl⟩) | (go_at_call 57; (first | (with_reducible refine (I1.out _).mono ?_) | (with_reducible refine (I2.out _).mono ?_)); rintro e w1 ⟨rfl, rfl⟩))
  go_ret
  exact ⟨rfl, rfl⟩

set_option maxRecDepth 100000 in
set_option maxHeartbeats 4000000 in
theorem rnext_calls (w : World) (x s : ByteArray) (h : NoteX x s) :
    Calls Tryz.prog 13 #[.string x, .int .i64 0, .agg #[.int .i64 0, .string ⟨#[]⟩, .bool false]] w fun e w' => e = .returned (gotV s x.size) ∧ Below w.heap.size w w' := by
  have hz := h.size
  have hpos : (0 : Int) < x.size := by omega
  have hxe : ¬ x = ByteArray.empty := fun e => by rw [e] at hpos; simp at hpos
  have BC := Lib.hid (fun W => rbegins_calls W x s h)
  have MC := Lib.hid (fun W => rmark_calls W x s h)
  have hb0 : Below w.heap.size w ((w.alloc (.cells #[.int .i64 0, .string ⟨#[]⟩, .bool false] 44)).alloc (.cells #[.int .i64 0, .string ⟨#[]⟩, .slice none 0 0, .bool false, .string ⟨#[]⟩, .int .i64 0] 42)) := ((Below.refl _ _).alloc (Nat.le_refl _) _).alloc (by simp) _
  have hR := blk_new (w.alloc (.cells #[.int .i64 0, .string ⟨#[]⟩, .bool false] 44)) #[.int .i64 0, .string ⟨#[]⟩, .slice none 0 0, .bool false, .string ⟨#[]⟩, .int .i64 0] 42
  have hM := blk_alloc (blk_new w #[.int .i64 0, .string ⟨#[]⟩, .bool false] 44) (.cells #[.int .i64 0, .string ⟨#[]⟩, .slice none 0 0, .bool false, .string ⟨#[]⟩, .int .i64 0] 42)
  have hsz : (w.alloc (.cells #[.int .i64 0, .string ⟨#[]⟩, .bool false] 44)).heap.size = w.heap.size + 1 := by simp
  rw [hsz] at hR
  clear h hz hsz
  unfold gotV at MC
  have m0 := blk_cell hM 0
  have m1 := blk_cell hM 1
  have m2 := blk_cell hM 2
  go_enter Tryz.func13, Tryz.ntmps13
  go_upto_region 13 with (go_at_call 30; refine (BC.out _).mono ?_; rintro e w1 ⟨rfl, rfl⟩)
  generalize (w.alloc (.cells #[.int .i64 0, .string ⟨#[]⟩, .bool false] 44)).alloc (.cells #[.int .i64 0, .string ⟨#[]⟩, .slice none 0 0, .bool false, .string ⟨#[]⟩, .int .i64 0] 42) = w0 at *
  go_upto_region 14 with (go_at_call 31; refine (MC.out _).mono ?_; rintro e w2 ⟨rfl, hb2⟩)
  have hR2 := blk_alloc ((hb2.block _ (blk_lt hR)).trans hR) (.cells #[.int .i64 4, .string ⟨#[]⟩, .slice none 0 0, .bool false, .string s, .int .i64 x.size] 42)
  have hG2 := blk_new w2 #[.int .i64 4, .string ⟨#[]⟩, .slice none 0 0, .bool false, .string s, .int .i64 x.size] 42
  have hbb := (below_then hb0 hb0.size hb2).alloc (below_then hb0 hb0.size hb2).size (.cells #[.int .i64 4, .string ⟨#[]⟩, .slice none 0 0, .bool false, .string s, .int .i64 x.size] 42)
  generalize w2.alloc (.cells #[.int .i64 4, .string ⟨#[]⟩, .slice none 0 0, .bool false, .string s, .int .i64 x.size] 42) = w3 at *
  generalize w2.heap.size = G at *
  have hz3 := blk_lt hR2
  have hg3 := blk_lt hG2
  have g0 := blk_cell hG2 0
  have g1 := blk_cell hG2 1
  have g2 := blk_cell hG2 2
  have g3 := blk_cell hG2 3
  have g4 := blk_cell hG2 4
  have g5 := blk_cell hG2 5
  have q0 := blk_frozen hR2 0
  have q1 := blk_frozen hR2 1
  have q2 := blk_frozen hR2 2
  have q3 := blk_frozen hR2 3
  have q4 := blk_frozen hR2 4
  have q5 := blk_frozen hR2 5
  have r0 := blk_cell hR2 0
  have r1 := blk_cell hR2 1
  have r2 := blk_cell hR2 2
  have r3 := blk_cell hR2 3
  have r4 := blk_cell hR2 4
  have r5 := blk_cell hR2 5
  clear m0 m1 m2 hM hR hb0 hb2 BC MC
  go_wp2_with fail
  refine bodyPost_ret (v := gotV s x.size) ?_ rfl ⟨rfl, ?_⟩
  · simp [results, Tryz.results13, go_sem, gotV, r0, r1, r2, r3, r4, r5]
  · exact Ch.toBelow (O := fun j => w.heap.size ≤ j) (Ch.setCell (Ch.setCell (Ch.setCell (Ch.setCell (Ch.setCell (Ch.setCell (Ch.of_below hbb) (.inr (Nat.le_succ _)) _) (.inr (Nat.le_succ _)) _) (.inr (Nat.le_succ _)) _) (.inr (Nat.le_succ _)) _) (.inr (Nat.le_succ _)) _) (.inr (Nat.le_succ _)) _) (Nat.le_refl _) (fun i hi e => by omega)

end Go.Proofs.YthfkldheflmlmaaGreatDoor
