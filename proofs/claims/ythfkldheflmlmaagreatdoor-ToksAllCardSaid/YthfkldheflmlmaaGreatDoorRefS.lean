/- The reference's comments (rectoref05.note): its contract. -/
import Derived.Test.YthfkldheflmlmaaGreatDoorRefQ
namespace Go.Proofs.YthfkldheflmlmaaGreatDoor
open Go.RowKit Go.Lib

/-- A comment, as the reference has it. -/
def rnoteL (l : List UInt8) : TokM × Nat :=
  if hasPrefix l [62] = true then (noteT [], 1)
  else if hasPrefix l [45, 62] = true then (noteT [], 2)
  else if rfindL [45, 45, 62] l < rfindL [45, 45, 33, 62] l then (noteT (l.take (rfindL [45, 45, 62] l)), rfindL [45, 45, 62] l + 3)
  else if rfindL [45, 45, 33, 62] l < rfindL [45, 45, 62] l then (noteT (l.take (rfindL [45, 45, 33, 62] l)), rfindL [45, 45, 33, 62] l + 4)
  else if hasPrefix (l.drop (l.length - 3)) [45, 45, 33] = true ∧ 3 ≤ l.length then (noteT (l.take (l.length - 3)), l.length)
  else if hasPrefix (l.drop (l.length - 2)) [45, 45] = true ∧ 2 ≤ l.length then (noteT (l.take (l.length - 2)), l.length)
  else if hasPrefix (l.drop (l.length - 1)) [45] = true ∧ 1 ≤ l.length then (noteT (l.take (l.length - 1)), l.length)
  else (noteT l, l.length)
theorem suffix_drop (l x : List UInt8) : hasSuffix l x = (hasPrefix (l.drop (l.length - x.length)) x && decide (x.length ≤ l.length)) := by
  rw [hasSuffix, hasPrefix, Bool.eq_iff_iff, Bool.and_eq_true, decide_eq_true_eq, List.isSuffixOf_iff_suffix, List.isPrefixOf_iff_prefix]
  constructor
  · intro h
    obtain ⟨t, rfl⟩ := h
    refine ⟨?_, by simp⟩
    rw [List.length_append, Nat.add_sub_cancel, List.drop_left]
    exact List.prefix_rfl
  · rintro ⟨h1, h2⟩
    have he : x = l.drop (l.length - x.length) := h1.eq_of_length (by rw [List.length_drop]; omega)
    refine ⟨l.take (l.length - x.length), ?_⟩
    have := List.take_append_drop (l.length - x.length) l
    rwa [← he] at this
theorem trim_take (l x : List UInt8) (h : hasSuffix l x = true) : trimSuffix l x = l.take (l.length - x.length) := by
  rw [trimSuffix, if_pos h]
theorem rfind_at (p : List UInt8) : ∀ l : List UInt8, rfindL p l < l.length → hasPrefix (l.drop (rfindL p l)) p = true
  | [], h => by cases h
  | b :: t, h => by
    rw [rfindL] at h ⊢
    by_cases hp : hasPrefix (b :: t) p = true
    · rw [if_pos hp]; exact hp
    · rw [if_neg hp] at h ⊢
      rw [Nat.add_comm, List.drop_succ_cons]
      exact rfind_at p t (by rw [List.length_cons] at h; omega)
theorem rnote_eq (l : List UInt8) : rnoteL l = noteL l := by
  have q3 : hasSuffix l [45, 45, 33] = true ↔ hasPrefix (l.drop (l.length - 3)) [45, 45, 33] = true ∧ 3 ≤ l.length := by rw [suffix_drop, Bool.and_eq_true, decide_eq_true_eq]; exact Iff.rfl
  have q2 : hasSuffix l [45, 45] = true ↔ hasPrefix (l.drop (l.length - 2)) [45, 45] = true ∧ 2 ≤ l.length := by rw [suffix_drop, Bool.and_eq_true, decide_eq_true_eq]; exact Iff.rfl
  have q1 : hasSuffix l [45] = true ↔ hasPrefix (l.drop (l.length - 1)) [45] = true ∧ 1 ≤ l.length := by rw [suffix_drop, Bool.and_eq_true, decide_eq_true_eq]; exact Iff.rfl
  rw [rnoteL, noteL]
  by_cases h1 : hasPrefix l [62] = true
  · rw [if_pos h1, if_pos h1]
  rw [if_neg h1, if_neg h1]
  by_cases h2 : hasPrefix l [45, 62] = true
  · rw [if_pos h2, if_pos h2]
  rw [if_neg h2, if_neg h2]
  have a := rfind_index [45, 45, 62] (by simp) l
  have b := rfind_index [45, 45, 33, 62] (by simp) l
  have ta := toL_find [45, 45, 62] l (by simp)
  have tb := toL_find [45, 45, 33, 62] l (by simp)
  have u1 := rfindL_le [45, 45, 62] l
  have u2 := rfindL_le [45, 45, 33, 62] l
  simp only [List.length_cons, List.length_nil] at a b
  by_cases h3 : rfindL [45, 45, 62] l < rfindL [45, 45, 33, 62] l
  · rw [if_pos h3, if_pos (show 0 ≤ index l [45, 45, 62] ∧ (index l [45, 45, 33, 62] < 0 ∨ index l [45, 45, 62] < index l [45, 45, 33, 62]) by omega), ta, if_neg (by omega)]; rfl
  rw [if_neg h3, if_neg (show ¬ (0 ≤ index l [45, 45, 62] ∧ (index l [45, 45, 33, 62] < 0 ∨ index l [45, 45, 62] < index l [45, 45, 33, 62])) by omega)]
  by_cases h4 : rfindL [45, 45, 33, 62] l < rfindL [45, 45, 62] l
  · rw [if_pos h4, if_pos (show 0 ≤ index l [45, 45, 33, 62] by omega), tb, if_neg (by omega)]; rfl
  have hno : index l [45, 45, 33, 62] < 0 := by
    rcases a with ⟨a1, a2⟩ | ⟨a1, a2, a3⟩
    · omega
    · rcases b with ⟨b1, b2⟩ | ⟨b1, b2, b3⟩
      · omega
      · exfalso
        have e : rfindL [45, 45, 62] l = rfindL [45, 45, 33, 62] l := by omega
        have p1 := rfind_at [45, 45, 62] l (by omega)
        have p2 := rfind_at [45, 45, 33, 62] l (by omega)
        rw [e] at p1
        generalize l.drop (rfindL [45, 45, 33, 62] l) = x at *
        match x with
        | [] => cases p1
        | [_] => simp [hasPrefix, List.isPrefixOf] at p1
        | [_, _] => simp [hasPrefix, List.isPrefixOf] at p1
        | b1 :: b2 :: b3 :: t =>
          simp only [hasPrefix, List.isPrefixOf, Bool.and_eq_true, beq_iff_eq] at p1 p2
          have h1 := p1.2.2.1
          have h2 := p2.2.2.1
          rw [← h1] at h2
          exact absurd h2 (by decide)
  rw [if_neg h4, if_neg (show ¬ 0 ≤ index l [45, 45, 33, 62] by omega), tailL]
  by_cases h5 : hasSuffix l [45, 45, 33] = true
  · rw [if_pos (q3.1 h5), if_pos h5, trim_take _ _ h5]; rfl
  rw [if_neg (fun h => h5 (q3.2 h)), if_neg h5]
  by_cases h6 : hasSuffix l [45, 45] = true
  · rw [if_pos (q2.1 h6), if_pos h6, trim_take _ _ h6]; rfl
  rw [if_neg (fun h => h6 (q2.2 h)), if_neg h6]
  by_cases h7 : hasSuffix l [45] = true
  · rw [if_pos (q1.1 h7), if_pos h7, trim_take _ _ h7]; rfl
  rw [if_neg (fun h => h7 (q1.2 h)), if_neg h7]
theorem is_pat (s : ByteArray) (k : Nat) (p : List UInt8) (hs : s.size ≤ 1000000) (hk : k ≤ s.size) (x : ByteArray) (hx : x.data.toList = p) (hp : 0 < p.length ∧ p.length ≤ 1000) (b : Bool) (hb : hasPrefix (s.data.toList.drop k) p = b) (y : Int) (hy : y = (k : Nat)) :
    ∀ W, Calls Tryz.prog 57 #[.string s, .int .i64 y, .string x] W fun e w' => e = .returned (.bool b) ∧ W = w' := fun W => by
  have hz : x.size = p.length := by rw [← len_toL, hx]
  have := ris_calls W s x k hs (by omega) (by omega) (by omega)
  rwa [hx, hb, ← hy] at this
theorem find_pat (s : ByteArray) (i : Nat) (p : List UInt8) (hs : s.size ≤ 1000000) (hi : i ≤ s.size) (x : ByteArray) (hx : x.data.toList = p) (hp : 0 < p.length ∧ p.length ≤ 1000) (a : Nat) (ha : i + rfindL p (s.data.toList.drop i) = a) (y : Int) (hy : y = (i : Nat)) :
    ∀ W, Calls Tryz.prog 68 #[.string s, .int .i64 y, .string x] W fun e w' => e = .returned (.int .i64 (a : Int)) ∧ W = w' := fun W => by
  have hz : x.size = p.length := by rw [← len_toL, hx]
  have := rfind_calls W s x i hs (by omega) (by omega) hi
  rwa [hx, ha, ← hy] at this
set_option maxRecDepth 100000 in
set_option maxHeartbeats 8000000 in
theorem rnoteR_calls (w : World) (s : ByteArray) (i : Nat) (hi : i ≤ s.size) (hs : s.size ≤ 1000000) :
    Calls Tryz.prog 67 #[.string s, .int .i64 i] w fun e w' => ∃ v, e = .returned v ∧ GotV w' w.heap.size (noteL (s.data.toList.drop i)).1 (i + (noteL (s.data.toList.drop i)).2) v ∧ Below w.heap.size w w' := by
  obtain ⟨L, hL⟩ : ∃ L, s.data.toList.drop i = L := ⟨_, rfl⟩
  have hlen : L.length = s.size - i := by rw [← hL, List.length_drop, len_toL]
  have hex : ∀ m, i ≤ m → s.extract i m = mkS (L.take (m - i)) := fun m _ => by rw [← mkS_of (s.extract i m), toL_extract, hL]
  rw [hL]
  obtain ⟨tv, htv⟩ : ∃ tv, noteL L = tv := ⟨_, rfl⟩
  rw [htv]
  rw [← rnote_eq, rnoteL] at htv
  have u1 := rfindL_le [45, 45, 62] L
  have u2 := rfindL_le [45, 45, 33, 62] L
  obtain ⟨b1, hb1⟩ : ∃ b, hasPrefix L [62] = b := ⟨_, rfl⟩
  obtain ⟨b2, hb2⟩ : ∃ b, hasPrefix L [45, 62] = b := ⟨_, rfl⟩
  have I1 := Lib.hid (is_pat s i [62] hs hi ⟨#[62]⟩ rfl (by decide) b1 (by rw [hL, hb1]) i rfl)
  have I2 := Lib.hid (is_pat s i [45, 62] hs hi ⟨#[45, 62]⟩ rfl (by decide) b2 (by rw [hL, hb2]) i rfl)
  obtain ⟨a, ha⟩ : ∃ a, i + rfindL [45, 45, 62] L = a := ⟨_, rfl⟩
  obtain ⟨b, hb⟩ : ∃ b, i + rfindL [45, 45, 33, 62] L = b := ⟨_, rfl⟩
  have F1 := Lib.hid (find_pat s i [45, 45, 62] hs hi ⟨#[45, 45, 62]⟩ rfl (by decide) a (by rw [hL, ha]) i rfl)
  have F2 := Lib.hid (find_pat s i [45, 45, 33, 62] hs hi ⟨#[45, 45, 33, 62]⟩ rfl (by decide) b (by rw [hL, hb]) i rfl)
  rw [hb1, hb2, show rfindL [45, 45, 62] L = a - i by omega, show rfindL [45, 45, 33, 62] L = b - i by omega] at htv
  have hai : i ≤ a ∧ a ≤ s.size := by omega
  have hbi : i ≤ b ∧ b ≤ s.size := by omega
  have HTV := Lib.hid htv.symm
  have HEX := Lib.hid hex
  have HL := Lib.hid hL
  have HLEN := Lib.hid hlen
  have hR := blk_new w #[.int .i64 0, .string ⟨#[]⟩, .slice none 0 0, .bool false, .string ⟨#[]⟩, .int .i64 0] 42
  have hb0 : Below w.heap.size w (w.alloc (.cells #[.int .i64 0, .string ⟨#[]⟩, .slice none 0 0, .bool false, .string ⟨#[]⟩, .int .i64 0] 42)) := (Below.refl _ _).alloc (Nat.le_refl _) _
  clear htv hex hL hlen u1 u2 hb1 hb2 ha hb
  go_enter Tryz.func67, Tryz.ntmps67
  go_upto_region 1 with fail
  generalize w.alloc (.cells #[.int .i64 0, .string ⟨#[]⟩, .slice none 0 0, .bool false, .string ⟨#[]⟩, .int .i64 0] 42) = w0 at *
  have r0 := blk_cell hR 0
  have r1 := blk_cell hR 1
  have r2 := blk_cell hR 2
  have r3 := blk_cell hR 3
  have r4 := blk_cell hR 4
  have r5 := blk_cell hR 5
  have f0 := blk_frozen hR 0
  have f1 := blk_frozen hR 1
  have f2 := blk_frozen hR 2
  have f3 := blk_frozen hR 3
  have f4 := blk_frozen hR 4
  have f5 := blk_frozen hR 5
  have hlt := blk_lt hR
  have HB : Hid (∀ u0 u1 u2 u3 u4 u5, Below w.heap.size w ((((((w0.setCell ⟨w.heap.size, 0, none⟩ u0).setCell ⟨w.heap.size, 1, none⟩ u1).setCell ⟨w.heap.size, 2, none⟩ u2).setCell ⟨w.heap.size, 3, none⟩ u3).setCell ⟨w.heap.size, 4, none⟩ u4).setCell ⟨w.heap.size, 5, none⟩ u5)) :=
    Lib.hid (fun _ _ _ _ _ _ => (((((hb0.setCell (Nat.le_refl _) _).setCell (Nat.le_refl _) _).setCell (Nat.le_refl _) _).setCell (Nat.le_refl _) _).setCell (Nat.le_refl _) _).setCell (Nat.le_refl _) _)
  cases b1 with
  | true =>
    have HV : Hid (tv = (noteT [], 1)) := HTV
    clear hb0 hR
    go_wp2_with (go_at_call 57; (with_reducible refine (I1.out _).mono ?_); rintro v w4 ⟨rfl, rfl⟩)
    refine bodyPost_ret (v := .agg #[.int .i64 4, .string ⟨#[]⟩, .slice none 0 0, .bool false, .string ⟨#[]⟩, .int .i64 ((i : Int) + 1)]) ?_ rfl ⟨_, rfl, ?_, HB.out _ _ _ _ _ _⟩
    · simp [results, Tryz.results67, go_sem, r0, r1, r2, r3, r4, r5]
    · rw [HV.out]; exact GotV.of rfl (zero_owns _ _ _ _) (by push_cast; rfl)
  | false =>
  cases b2 with
  | true =>
    have HV : Hid (tv = (noteT [], 2)) := HTV
    clear hb0 hR
    go_wp2_with (go_at_call 57; (first | (with_reducible refine (I1.out _).mono ?_) | (with_reducible refine (I2.out _).mono ?_)); rintro v w4 ⟨rfl, rfl⟩)
    refine bodyPost_ret (v := .agg #[.int .i64 4, .string ⟨#[]⟩, .slice none 0 0, .bool false, .string ⟨#[]⟩, .int .i64 ((i : Int) + 2)]) ?_ rfl ⟨_, rfl, ?_, HB.out _ _ _ _ _ _⟩
    · simp [results, Tryz.results67, go_sem, r0, r1, r2, r3, r4, r5]
    · rw [HV.out]; exact GotV.of rfl (zero_owns _ _ _ _) (by push_cast; rfl)
  | false =>
  have htv := HTV.out
  rw [if_neg (by simp), if_neg (by simp)] at htv
  have i1 : (i : Int) ≤ (a : Int) := by omega
  have i2 : (a : Int) ≤ (s.size : Int) := by omega
  have i3 : (i : Int) ≤ (b : Int) := by omega
  have i4 : (b : Int) ≤ (s.size : Int) := by omega
  by_cases h3 : a < b
  · have HV : Hid (tv = (noteT (L.take (a - i)), a - i + 3)) := Lib.hid (by rw [htv, if_pos (by omega)])
    have h3' : (a : Int) < (b : Int) := by omega
    clear hb0 hR htv h3
    go_wp2_with (first | (go_at_call 57; (first | (with_reducible refine (I1.out _).mono ?_) | (with_reducible refine (I2.out _).mono ?_)); rintro v w4 ⟨rfl, rfl⟩) | (go_at_call 68; (first | (with_reducible refine (F1.out _).mono ?_) | (with_reducible refine (F2.out _).mono ?_)); rintro v w4 ⟨rfl, rfl⟩))
    refine bodyPost_ret (v := .agg #[.int .i64 4, .string ⟨#[]⟩, .slice none 0 0, .bool false, .string (s.extract i a), .int .i64 ((a : Int) + 3)]) ?_ rfl ⟨_, rfl, ?_, HB.out _ _ _ _ _ _⟩
    · simp [results, Tryz.results67, go_sem, r0, r1, r2, r3, r4, r5]
    · rw [HV.out]; exact GotV.of (HEX.out a hai.1) (zero_owns _ _ _ _) (by dsimp only; omega)
  by_cases h4 : b < a
  · have HV : Hid (tv = (noteT (L.take (b - i)), b - i + 4)) := Lib.hid (by rw [htv, if_neg (by omega), if_pos (by omega)])
    have h3' : ¬ (a : Int) < (b : Int) := by omega
    have h4' : (b : Int) < (a : Int) := by omega
    clear hb0 hR htv h3 h4
    go_wp2_with (first | (go_at_call 57; (first | (with_reducible refine (I1.out _).mono ?_) | (with_reducible refine (I2.out _).mono ?_)); rintro v w4 ⟨rfl, rfl⟩) | (go_at_call 68; (first | (with_reducible refine (F1.out _).mono ?_) | (with_reducible refine (F2.out _).mono ?_)); rintro v w4 ⟨rfl, rfl⟩))
    refine bodyPost_ret (v := .agg #[.int .i64 4, .string ⟨#[]⟩, .slice none 0 0, .bool false, .string (s.extract i b), .int .i64 ((b : Int) + 4)]) ?_ rfl ⟨_, rfl, ?_, HB.out _ _ _ _ _ _⟩
    · simp [results, Tryz.results67, go_sem, r0, r1, r2, r3, r4, r5]
    · rw [HV.out]; exact GotV.of (HEX.out b hbi.1) (zero_owns _ _ _ _) (by dsimp only; omega)
  rw [if_neg (by omega), if_neg (by omega)] at htv
  have h3' : ¬ (a : Int) < (b : Int) := by omega
  have h4' : ¬ (b : Int) < (a : Int) := by omega
  have hn := HLEN.out
  have dr : ∀ k, k ≤ L.length → L.drop (L.length - k) = s.data.toList.drop (s.size - k) := fun k hk => by rw [← HL.out, List.drop_drop, HL.out]; congr 1; omega
  have DR := Lib.hid dr
  clear dr hb0 hR h3 h4
  go_upto_region 12 with (first | (go_at_call 57; (first | (with_reducible refine (I1.out _).mono ?_) | (with_reducible refine (I2.out _).mono ?_)); rintro v w4 ⟨rfl, rfl⟩) | (go_at_call 68; (first | (with_reducible refine (F1.out _).mono ?_) | (with_reducible refine (F2.out _).mono ?_)); rintro v w4 ⟨rfl, rfl⟩))
  clear I1 I2 F1 F2 i1 i2 i3 i4 h3' h4' hai hbi HTV
  by_cases n3 : 3 ≤ L.length
  · cases p3 : hasPrefix (s.data.toList.drop (s.size - 3)) [45, 45, 33] with
    | true =>
      have HV : Hid (tv = (noteT (L.take (L.length - 3)), L.length)) := Lib.hid (by rw [htv, if_pos (show _ ∧ _ from ⟨by rw [DR.out 3 (by omega)]; exact p3, by omega⟩)])
      have J3 := Lib.hid (is_pat s (s.size - 3) [45, 45, 33] hs (by omega) ⟨#[45, 45, 33]⟩ rfl (by decide) _ p3 ((s.size : Int) - 3) (by omega))
      have e1 : ((s.size : Int) - 3).toNat = s.size - 3 := by omega
      have e2 : (i : Int) ≤ (s.size : Int) - 3 := by omega
      have g3 : (3 : Int) ≤ (s.size : Int) - i := by omega
      have g2 : (2 : Int) ≤ (s.size : Int) - i := by omega
      have g1 : (1 : Int) ≤ (s.size : Int) - i := by omega
      have hm : s.size - 3 - i = L.length - 3 := by omega
      have HM : Hid (s.extract i (s.size - 3) = mkS (L.take (L.length - 3))) := Lib.hid (by rw [HEX.out _ (by omega)]; rw [hm])
      have HZ : Hid (i + L.length = s.size) := Lib.hid (by omega)
      clear htv hn hm p3
      go_wp2_with (go_at_call 57; (first | (with_reducible refine (J3.out _).mono ?_)); rintro v w4 ⟨rfl, rfl⟩)
      refine bodyPost_ret (v := .agg #[.int .i64 4, .string ⟨#[]⟩, .slice none 0 0, .bool false, .string (s.extract i (s.size - 3)), .int .i64 (s.size : Int)]) ?_ rfl ⟨_, rfl, ?_, HB.out _ _ _ _ _ _⟩
      · simp [results, Tryz.results67, go_sem, r0, r1, r2, r3, r4, r5]
      · rw [HV.out]; exact GotV.of HM.out (zero_owns _ _ _ _) (by dsimp only; rw [HZ.out])
    | false =>
      cases p2 : hasPrefix (s.data.toList.drop (s.size - 2)) [45, 45] with
      | true =>
        have HV : Hid (tv = (noteT (L.take (L.length - 2)), L.length)) := Lib.hid (by rw [htv, if_neg (show ¬ (_ ∧ _) from fun h => by have h1 := h.1; rw [DR.out 3 (by omega), p3] at h1; cases h1), if_pos (show _ ∧ _ from ⟨by rw [DR.out 2 (by omega)]; exact p2, by omega⟩)])
        have J3 := Lib.hid (is_pat s (s.size - 3) [45, 45, 33] hs (by omega) ⟨#[45, 45, 33]⟩ rfl (by decide) _ p3 ((s.size : Int) - 3) (by omega))
        have J2 := Lib.hid (is_pat s (s.size - 2) [45, 45] hs (by omega) ⟨#[45, 45]⟩ rfl (by decide) _ p2 ((s.size : Int) - 2) (by omega))
        have e1 : ((s.size : Int) - 2).toNat = s.size - 2 := by omega
        have e2 : (i : Int) ≤ (s.size : Int) - 2 := by omega
        have g3 : (3 : Int) ≤ (s.size : Int) - i := by omega
        have g2 : (2 : Int) ≤ (s.size : Int) - i := by omega
        have g1 : (1 : Int) ≤ (s.size : Int) - i := by omega
        have hm : s.size - 2 - i = L.length - 2 := by omega
        have HM : Hid (s.extract i (s.size - 2) = mkS (L.take (L.length - 2))) := Lib.hid (by rw [HEX.out _ (by omega)]; rw [hm])
        have HZ : Hid (i + L.length = s.size) := Lib.hid (by omega)
        clear htv hn hm p3 p2
        go_wp2_with (go_at_call 57; (first | (with_reducible refine (J3.out _).mono ?_) | (with_reducible refine (J2.out _).mono ?_)); rintro v w4 ⟨rfl, rfl⟩)
        refine bodyPost_ret (v := .agg #[.int .i64 4, .string ⟨#[]⟩, .slice none 0 0, .bool false, .string (s.extract i (s.size - 2)), .int .i64 (s.size : Int)]) ?_ rfl ⟨_, rfl, ?_, HB.out _ _ _ _ _ _⟩
        · simp [results, Tryz.results67, go_sem, r0, r1, r2, r3, r4, r5]
        · rw [HV.out]; exact GotV.of HM.out (zero_owns _ _ _ _) (by dsimp only; rw [HZ.out])
      | false =>
        cases p1 : hasPrefix (s.data.toList.drop (s.size - 1)) [45] with
        | true =>
          have HV : Hid (tv = (noteT (L.take (L.length - 1)), L.length)) := Lib.hid (by rw [htv, if_neg (show ¬ (_ ∧ _) from fun h => by have h1 := h.1; rw [DR.out 3 (by omega), p3] at h1; cases h1), if_neg (show ¬ (_ ∧ _) from fun h => by have h1 := h.1; rw [DR.out 2 (by omega), p2] at h1; cases h1), if_pos (show _ ∧ _ from ⟨by rw [DR.out 1 (by omega)]; exact p1, by omega⟩)])
          have J3 := Lib.hid (is_pat s (s.size - 3) [45, 45, 33] hs (by omega) ⟨#[45, 45, 33]⟩ rfl (by decide) _ p3 ((s.size : Int) - 3) (by omega))
          have J2 := Lib.hid (is_pat s (s.size - 2) [45, 45] hs (by omega) ⟨#[45, 45]⟩ rfl (by decide) _ p2 ((s.size : Int) - 2) (by omega))
          have J1 := Lib.hid (is_pat s (s.size - 1) [45] hs (by omega) ⟨#[45]⟩ rfl (by decide) _ p1 ((s.size : Int) - 1) (by omega))
          have e1 : ((s.size : Int) - 1).toNat = s.size - 1 := by omega
          have e2 : (i : Int) ≤ (s.size : Int) - 1 := by omega
          have g3 : (3 : Int) ≤ (s.size : Int) - i := by omega
          have g2 : (2 : Int) ≤ (s.size : Int) - i := by omega
          have g1 : (1 : Int) ≤ (s.size : Int) - i := by omega
          have hm : s.size - 1 - i = L.length - 1 := by omega
          have HM : Hid (s.extract i (s.size - 1) = mkS (L.take (L.length - 1))) := Lib.hid (by rw [HEX.out _ (by omega)]; rw [hm])
          have HZ : Hid (i + L.length = s.size) := Lib.hid (by omega)
          clear htv hn hm p3 p2 p1
          go_wp2_with (go_at_call 57; (first | (with_reducible refine (J3.out _).mono ?_) | (with_reducible refine (J2.out _).mono ?_) | (with_reducible refine (J1.out _).mono ?_)); rintro v w4 ⟨rfl, rfl⟩)
          refine bodyPost_ret (v := .agg #[.int .i64 4, .string ⟨#[]⟩, .slice none 0 0, .bool false, .string (s.extract i (s.size - 1)), .int .i64 (s.size : Int)]) ?_ rfl ⟨_, rfl, ?_, HB.out _ _ _ _ _ _⟩
          · simp [results, Tryz.results67, go_sem, r0, r1, r2, r3, r4, r5]
          · rw [HV.out]; exact GotV.of HM.out (zero_owns _ _ _ _) (by dsimp only; rw [HZ.out])
        | false =>
          have HV : Hid (tv = (noteT (L), L.length)) := Lib.hid (by rw [htv, if_neg (show ¬ (_ ∧ _) from fun h => by have h1 := h.1; rw [DR.out 3 (by omega), p3] at h1; cases h1), if_neg (show ¬ (_ ∧ _) from fun h => by have h1 := h.1; rw [DR.out 2 (by omega), p2] at h1; cases h1), if_neg (show ¬ (_ ∧ _) from fun h => by have h1 := h.1; rw [DR.out 1 (by omega), p1] at h1; cases h1)])
          have J3 := Lib.hid (is_pat s (s.size - 3) [45, 45, 33] hs (by omega) ⟨#[45, 45, 33]⟩ rfl (by decide) _ p3 ((s.size : Int) - 3) (by omega))
          have J2 := Lib.hid (is_pat s (s.size - 2) [45, 45] hs (by omega) ⟨#[45, 45]⟩ rfl (by decide) _ p2 ((s.size : Int) - 2) (by omega))
          have J1 := Lib.hid (is_pat s (s.size - 1) [45] hs (by omega) ⟨#[45]⟩ rfl (by decide) _ p1 ((s.size : Int) - 1) (by omega))
          have g3 : (3 : Int) ≤ (s.size : Int) - i := by omega
          have g2 : (2 : Int) ≤ (s.size : Int) - i := by omega
          have g1 : (1 : Int) ≤ (s.size : Int) - i := by omega
          have HM : Hid (s.extract i (s.size - 0) = mkS (L)) := Lib.hid (by rw [HEX.out _ (by omega)]; rw [List.take_of_length_le (by omega)])
          have HZ : Hid (i + L.length = s.size) := Lib.hid (by omega)
          clear htv hn p3 p2 p1
          go_wp2_with (go_at_call 57; (first | (with_reducible refine (J3.out _).mono ?_) | (with_reducible refine (J2.out _).mono ?_) | (with_reducible refine (J1.out _).mono ?_)); rintro v w4 ⟨rfl, rfl⟩)
          refine bodyPost_ret (v := .agg #[.int .i64 4, .string ⟨#[]⟩, .slice none 0 0, .bool false, .string (s.extract i s.size), .int .i64 (s.size : Int)]) ?_ rfl ⟨_, rfl, ?_, HB.out _ _ _ _ _ _⟩
          · simp [results, Tryz.results67, go_sem, r0, r1, r2, r3, r4, r5]
          · rw [HV.out]; exact GotV.of HM.out (zero_owns _ _ _ _) (by dsimp only; rw [HZ.out])
  by_cases n2 : 2 ≤ L.length
  · cases p2 : hasPrefix (s.data.toList.drop (s.size - 2)) [45, 45] with
    | true =>
      have HV : Hid (tv = (noteT (L.take (L.length - 2)), L.length)) := Lib.hid (by rw [htv, if_neg (show ¬ (_ ∧ _) from fun h => by have h2 := h.2; omega), if_pos (show _ ∧ _ from ⟨by rw [DR.out 2 (by omega)]; exact p2, by omega⟩)])
      have J2 := Lib.hid (is_pat s (s.size - 2) [45, 45] hs (by omega) ⟨#[45, 45]⟩ rfl (by decide) _ p2 ((s.size : Int) - 2) (by omega))
      have e1 : ((s.size : Int) - 2).toNat = s.size - 2 := by omega
      have e2 : (i : Int) ≤ (s.size : Int) - 2 := by omega
      have g3 : ¬ (3 : Int) ≤ (s.size : Int) - i := by omega
      have g2 : (2 : Int) ≤ (s.size : Int) - i := by omega
      have g1 : (1 : Int) ≤ (s.size : Int) - i := by omega
      have hm : s.size - 2 - i = L.length - 2 := by omega
      have HM : Hid (s.extract i (s.size - 2) = mkS (L.take (L.length - 2))) := Lib.hid (by rw [HEX.out _ (by omega)]; rw [hm])
      have HZ : Hid (i + L.length = s.size) := Lib.hid (by omega)
      clear htv hn hm p2
      go_wp2_with (go_at_call 57; (first | (with_reducible refine (J2.out _).mono ?_)); rintro v w4 ⟨rfl, rfl⟩)
      refine bodyPost_ret (v := .agg #[.int .i64 4, .string ⟨#[]⟩, .slice none 0 0, .bool false, .string (s.extract i (s.size - 2)), .int .i64 (s.size : Int)]) ?_ rfl ⟨_, rfl, ?_, HB.out _ _ _ _ _ _⟩
      · simp [results, Tryz.results67, go_sem, r0, r1, r2, r3, r4, r5]
      · rw [HV.out]; exact GotV.of HM.out (zero_owns _ _ _ _) (by dsimp only; rw [HZ.out])
    | false =>
      cases p1 : hasPrefix (s.data.toList.drop (s.size - 1)) [45] with
      | true =>
        have HV : Hid (tv = (noteT (L.take (L.length - 1)), L.length)) := Lib.hid (by rw [htv, if_neg (show ¬ (_ ∧ _) from fun h => by have h2 := h.2; omega), if_neg (show ¬ (_ ∧ _) from fun h => by have h1 := h.1; rw [DR.out 2 (by omega), p2] at h1; cases h1), if_pos (show _ ∧ _ from ⟨by rw [DR.out 1 (by omega)]; exact p1, by omega⟩)])
        have J2 := Lib.hid (is_pat s (s.size - 2) [45, 45] hs (by omega) ⟨#[45, 45]⟩ rfl (by decide) _ p2 ((s.size : Int) - 2) (by omega))
        have J1 := Lib.hid (is_pat s (s.size - 1) [45] hs (by omega) ⟨#[45]⟩ rfl (by decide) _ p1 ((s.size : Int) - 1) (by omega))
        have e1 : ((s.size : Int) - 1).toNat = s.size - 1 := by omega
        have e2 : (i : Int) ≤ (s.size : Int) - 1 := by omega
        have g3 : ¬ (3 : Int) ≤ (s.size : Int) - i := by omega
        have g2 : (2 : Int) ≤ (s.size : Int) - i := by omega
        have g1 : (1 : Int) ≤ (s.size : Int) - i := by omega
        have hm : s.size - 1 - i = L.length - 1 := by omega
        have HM : Hid (s.extract i (s.size - 1) = mkS (L.take (L.length - 1))) := Lib.hid (by rw [HEX.out _ (by omega)]; rw [hm])
        have HZ : Hid (i + L.length = s.size) := Lib.hid (by omega)
        clear htv hn hm p2 p1
        go_wp2_with (go_at_call 57; (first | (with_reducible refine (J2.out _).mono ?_) | (with_reducible refine (J1.out _).mono ?_)); rintro v w4 ⟨rfl, rfl⟩)
        refine bodyPost_ret (v := .agg #[.int .i64 4, .string ⟨#[]⟩, .slice none 0 0, .bool false, .string (s.extract i (s.size - 1)), .int .i64 (s.size : Int)]) ?_ rfl ⟨_, rfl, ?_, HB.out _ _ _ _ _ _⟩
        · simp [results, Tryz.results67, go_sem, r0, r1, r2, r3, r4, r5]
        · rw [HV.out]; exact GotV.of HM.out (zero_owns _ _ _ _) (by dsimp only; rw [HZ.out])
      | false =>
        have HV : Hid (tv = (noteT (L), L.length)) := Lib.hid (by rw [htv, if_neg (show ¬ (_ ∧ _) from fun h => by have h2 := h.2; omega), if_neg (show ¬ (_ ∧ _) from fun h => by have h1 := h.1; rw [DR.out 2 (by omega), p2] at h1; cases h1), if_neg (show ¬ (_ ∧ _) from fun h => by have h1 := h.1; rw [DR.out 1 (by omega), p1] at h1; cases h1)])
        have J2 := Lib.hid (is_pat s (s.size - 2) [45, 45] hs (by omega) ⟨#[45, 45]⟩ rfl (by decide) _ p2 ((s.size : Int) - 2) (by omega))
        have J1 := Lib.hid (is_pat s (s.size - 1) [45] hs (by omega) ⟨#[45]⟩ rfl (by decide) _ p1 ((s.size : Int) - 1) (by omega))
        have g3 : ¬ (3 : Int) ≤ (s.size : Int) - i := by omega
        have g2 : (2 : Int) ≤ (s.size : Int) - i := by omega
        have g1 : (1 : Int) ≤ (s.size : Int) - i := by omega
        have HM : Hid (s.extract i (s.size - 0) = mkS (L)) := Lib.hid (by rw [HEX.out _ (by omega)]; rw [List.take_of_length_le (by omega)])
        have HZ : Hid (i + L.length = s.size) := Lib.hid (by omega)
        clear htv hn p2 p1
        go_wp2_with (go_at_call 57; (first | (with_reducible refine (J2.out _).mono ?_) | (with_reducible refine (J1.out _).mono ?_)); rintro v w4 ⟨rfl, rfl⟩)
        refine bodyPost_ret (v := .agg #[.int .i64 4, .string ⟨#[]⟩, .slice none 0 0, .bool false, .string (s.extract i s.size), .int .i64 (s.size : Int)]) ?_ rfl ⟨_, rfl, ?_, HB.out _ _ _ _ _ _⟩
        · simp [results, Tryz.results67, go_sem, r0, r1, r2, r3, r4, r5]
        · rw [HV.out]; exact GotV.of HM.out (zero_owns _ _ _ _) (by dsimp only; rw [HZ.out])
  by_cases n1 : 1 ≤ L.length
  · cases p1 : hasPrefix (s.data.toList.drop (s.size - 1)) [45] with
    | true =>
      have HV : Hid (tv = (noteT (L.take (L.length - 1)), L.length)) := Lib.hid (by rw [htv, if_neg (show ¬ (_ ∧ _) from fun h => by have h2 := h.2; omega), if_neg (show ¬ (_ ∧ _) from fun h => by have h2 := h.2; omega), if_pos (show _ ∧ _ from ⟨by rw [DR.out 1 (by omega)]; exact p1, by omega⟩)])
      have J1 := Lib.hid (is_pat s (s.size - 1) [45] hs (by omega) ⟨#[45]⟩ rfl (by decide) _ p1 ((s.size : Int) - 1) (by omega))
      have e1 : ((s.size : Int) - 1).toNat = s.size - 1 := by omega
      have e2 : (i : Int) ≤ (s.size : Int) - 1 := by omega
      have g3 : ¬ (3 : Int) ≤ (s.size : Int) - i := by omega
      have g2 : ¬ (2 : Int) ≤ (s.size : Int) - i := by omega
      have g1 : (1 : Int) ≤ (s.size : Int) - i := by omega
      have hm : s.size - 1 - i = L.length - 1 := by omega
      have HM : Hid (s.extract i (s.size - 1) = mkS (L.take (L.length - 1))) := Lib.hid (by rw [HEX.out _ (by omega)]; rw [hm])
      have HZ : Hid (i + L.length = s.size) := Lib.hid (by omega)
      clear htv hn hm p1
      go_wp2_with (go_at_call 57; (first | (with_reducible refine (J1.out _).mono ?_)); rintro v w4 ⟨rfl, rfl⟩)
      refine bodyPost_ret (v := .agg #[.int .i64 4, .string ⟨#[]⟩, .slice none 0 0, .bool false, .string (s.extract i (s.size - 1)), .int .i64 (s.size : Int)]) ?_ rfl ⟨_, rfl, ?_, HB.out _ _ _ _ _ _⟩
      · simp [results, Tryz.results67, go_sem, r0, r1, r2, r3, r4, r5]
      · rw [HV.out]; exact GotV.of HM.out (zero_owns _ _ _ _) (by dsimp only; rw [HZ.out])
    | false =>
      have HV : Hid (tv = (noteT (L), L.length)) := Lib.hid (by rw [htv, if_neg (show ¬ (_ ∧ _) from fun h => by have h2 := h.2; omega), if_neg (show ¬ (_ ∧ _) from fun h => by have h2 := h.2; omega), if_neg (show ¬ (_ ∧ _) from fun h => by have h1 := h.1; rw [DR.out 1 (by omega), p1] at h1; cases h1)])
      have J1 := Lib.hid (is_pat s (s.size - 1) [45] hs (by omega) ⟨#[45]⟩ rfl (by decide) _ p1 ((s.size : Int) - 1) (by omega))
      have g3 : ¬ (3 : Int) ≤ (s.size : Int) - i := by omega
      have g2 : ¬ (2 : Int) ≤ (s.size : Int) - i := by omega
      have g1 : (1 : Int) ≤ (s.size : Int) - i := by omega
      have HM : Hid (s.extract i (s.size - 0) = mkS (L)) := Lib.hid (by rw [HEX.out _ (by omega)]; rw [List.take_of_length_le (by omega)])
      have HZ : Hid (i + L.length = s.size) := Lib.hid (by omega)
      clear htv hn p1
      go_wp2_with (go_at_call 57; (first | (with_reducible refine (J1.out _).mono ?_)); rintro v w4 ⟨rfl, rfl⟩)
      refine bodyPost_ret (v := .agg #[.int .i64 4, .string ⟨#[]⟩, .slice none 0 0, .bool false, .string (s.extract i s.size), .int .i64 (s.size : Int)]) ?_ rfl ⟨_, rfl, ?_, HB.out _ _ _ _ _ _⟩
      · simp [results, Tryz.results67, go_sem, r0, r1, r2, r3, r4, r5]
      · rw [HV.out]; exact GotV.of HM.out (zero_owns _ _ _ _) (by dsimp only; rw [HZ.out])
  have HV : Hid (tv = (noteT (L), L.length)) := Lib.hid (by rw [htv, if_neg (show ¬ (_ ∧ _) from fun h => by have h2 := h.2; omega), if_neg (show ¬ (_ ∧ _) from fun h => by have h2 := h.2; omega), if_neg (show ¬ (_ ∧ _) from fun h => by have h2 := h.2; omega)])
  have g3 : ¬ (3 : Int) ≤ (s.size : Int) - i := by omega
  have g2 : ¬ (2 : Int) ≤ (s.size : Int) - i := by omega
  have g1 : ¬ (1 : Int) ≤ (s.size : Int) - i := by omega
  have HM : Hid (s.extract i (s.size - 0) = mkS (L)) := Lib.hid (by rw [HEX.out _ (by omega)]; rw [List.take_of_length_le (by omega)])
  have HZ : Hid (i + L.length = s.size) := Lib.hid (by omega)
  clear htv hn 
  go_wp2
  refine bodyPost_ret (v := .agg #[.int .i64 4, .string ⟨#[]⟩, .slice none 0 0, .bool false, .string (s.extract i s.size), .int .i64 (s.size : Int)]) ?_ rfl ⟨_, rfl, ?_, HB.out _ _ _ _ _ _⟩
  · simp [results, Tryz.results67, go_sem, r0, r1, r2, r3, r4, r5]
  · rw [HV.out]; exact GotV.of HM.out (zero_owns _ _ _ _) (by dsimp only; rw [HZ.out])

end Go.Proofs.YthfkldheflmlmaaGreatDoor
