/- A comment that was written is read as just that: plain facts. -/
import Derived.Test.YthfkldheflmlmaaGreatDoorRefN
import Derived.Test.YthfkldheflmlmaaGreatDoorPenF
import Derived.Test.YthfkldheflmlmaaGreatDoorAllL
namespace Go.Proofs.YthfkldheflmlmaaGreatDoor
open Go.RowKit Go.Lib

theorem index_no {sub : List UInt8} (ho : sub ≠ []) : ∀ (s : List UInt8), index s sub = -1 → ∀ j, sub.isPrefixOf (s.drop j) = false
  | [], _, j => by
    rw [List.drop_nil]
    cases sub with
    | nil => exact absurd rfl ho
    | cons a t => rfl
  | b :: l, h, j => by
    cases hp : sub.isPrefixOf (b :: l) with
    | true => rw [index, if_pos hp] at h; cases h
    | false =>
      rw [index_next hp] at h
      have hge := index_ge l sub
      split at h
      · rename_i hm
        cases j with
        | zero => rw [List.drop_zero]; exact hp
        | succ j => rw [List.drop_succ_cons]; exact index_no ho l (by simpa using hm) j
      · omega
theorem index_at {sub : List UInt8} (R : List UInt8) (hR : sub.isPrefixOf R = true) (hne : R ≠ []) : ∀ (C : List UInt8), (∀ k, k < C.length → sub.isPrefixOf ((C ++ R).drop k) = false) → index (C ++ R) sub = (C.length : Int)
  | [], _ => by
    rw [List.nil_append, index_here hR hne]
    rfl
  | b :: C, h => by
    have h0 := h 0 (by simp)
    rw [List.drop_zero] at h0
    have ih := index_at R hR hne C (fun k hk => by have := h (k + 1) (by simp; omega); rwa [List.cons_append, List.drop_succ_cons] at this)
    rw [List.cons_append] at h0 ⊢
    rw [index_next h0, ih, if_neg (by simp)]
    simp
/-- Where a text is found, it stands. -/
theorem index_stands {sub : List UInt8} (ho : sub ≠ []) : ∀ (s : List UInt8), 0 ≤ index s sub → sub.isPrefixOf (s.drop (index s sub).toNat) = true
  | [], h => by
    rw [index, if_neg (by simpa using ho)] at h
    omega
  | b :: l, h => by
    cases hp : sub.isPrefixOf (b :: l) with
    | true => rw [index, if_pos hp]; exact hp
    | false =>
      rw [index_next hp] at h ⊢
      have hge := index_ge l sub
      by_cases hm : index l sub = -1
      · rw [if_pos (by simp [hm])] at h; omega
      · rw [if_neg (by simp [hm])] at h ⊢
        rw [show (index l sub + 1).toNat = (index l sub).toNat + 1 by omega, List.drop_succ_cons]
        exact index_stands ho l (by omega)
theorem rfindL_at {P : List UInt8} (R : List UInt8) (hR : hasPrefix R P = true) (hne : R ≠ []) : ∀ (C : List UInt8), (∀ k, k < C.length → hasPrefix ((C ++ R).drop k) P = false) → rfindL P (C ++ R) = C.length
  | [], _ => by
    cases R with
    | nil => exact absurd rfl hne
    | cons b t => rw [List.nil_append, rfindL, if_pos hR]; rfl
  | b :: C, h => by
    have h0 := h 0 (by simp)
    rw [List.drop_zero, List.cons_append] at h0
    have ih := rfindL_at R hR hne C (fun k hk => by have := h (k + 1) (by simp; omega); rwa [List.cons_append, List.drop_succ_cons] at this)
    rw [List.cons_append, rfindL, if_neg (by rw [h0]; simp), ih, List.length_cons]
    omega
theorem rfindL_none {P : List UInt8} : ∀ (l : List UInt8), (∀ k, k < l.length → hasPrefix (l.drop k) P = false) → rfindL P l = l.length
  | [], _ => rfl
  | b :: l, h => by
    have h0 := h 0 (by simp)
    rw [List.drop_zero] at h0
    have ih := rfindL_none l (fun k hk => by have := h (k + 1) (by simp; omega); rwa [List.drop_succ_cons] at this)
    rw [rfindL, if_neg (by rw [h0]; simp), ih, List.length_cons]
    omega
/-- No end of a comment begins within its text. -/
theorem no_end3 {C : List UInt8} (h : contains C [45, 45, 62] = false) (B : List UInt8) (k : Nat) (hk : k < C.length) : hasPrefix ((C ++ 45 :: 45 :: 62 :: B).drop k) [45, 45, 62] = false := by
  have hx : index C [45, 45, 62] = -1 := by
    have := index_ge C [45, 45, 62]
    simp [contains] at h
    omega
  have hn := index_no (by simp) C hx k
  rw [List.drop_append_of_le_length (by omega)]
  cases hd : C.drop k with
  | nil => rw [List.drop_eq_nil_iff] at hd; omega
  | cons a d =>
    rw [hd] at hn
    match d, hn with
    | [], _ => simp [hasPrefix, List.isPrefixOf]
    | [b], _ => simp [hasPrefix, List.isPrefixOf]
    | b :: c :: d, hn => simpa [hasPrefix, List.isPrefixOf] using hn
theorem no_end4 {C : List UInt8} (h : contains C [45, 45, 33, 62] = false) (B : List UInt8) (k : Nat) (hk : k ≤ C.length) : hasPrefix ((C ++ 45 :: 45 :: 62 :: B).drop k) [45, 45, 33, 62] = false := by
  have hx : index C [45, 45, 33, 62] = -1 := by
    have := index_ge C [45, 45, 33, 62]
    simp [contains] at h
    omega
  have hn := index_no (by simp) C hx k
  rw [List.drop_append_of_le_length (by omega)]
  cases hd : C.drop k with
  | nil => simp [hasPrefix, List.isPrefixOf]
  | cons a d =>
    rw [hd] at hn
    match d, hn with
    | [], _ => simp [hasPrefix, List.isPrefixOf]
    | [b], _ => simp [hasPrefix, List.isPrefixOf]
    | [b, c], _ => simp [hasPrefix, List.isPrefixOf]
    | b :: c :: e :: d, hn => simpa [hasPrefix, List.isPrefixOf] using hn
theorem note_parts {C x : List UInt8} (h : penNoteL C = some x) : contains C [45, 45, 62] = false ∧ contains C [45, 45, 33, 62] = false ∧ hasPrefix C [62] = false ∧ hasPrefix C [45, 62] = false ∧ hasSuffix C [45] = false ∧ x = 60 :: 33 :: 45 :: 45 :: (C ++ [45, 45, 62]) := by
  rw [penNoteL] at h
  split at h
  · cases h
  · rename_i h1
    split at h
    · cases h
    · rename_i h2
      simp only [not_or, Bool.not_eq_true, Bool.not_eq_false] at h1 h2
      exact ⟨h1.1, h1.2, h2.2.1, h2.2.2.1, h2.2.2.2.1, by cases h; rfl⟩
theorem note_head {C : List UInt8} (h1 : hasPrefix C [62] = false) (h2 : hasPrefix C [45, 62] = false) (h3 : hasSuffix C [45] = false) (B : List UInt8) : hasPrefix (C ++ 45 :: 45 :: 62 :: B) [62] = false ∧ hasPrefix (C ++ 45 :: 45 :: 62 :: B) [45, 62] = false := by
  match C, h1, h2, h3 with
  | [], _, _, _ => simp [hasPrefix, List.isPrefixOf]
  | [a], h1, _, h3 =>
    refine ⟨by simpa [hasPrefix, List.isPrefixOf] using h1, by simp [hasPrefix, List.isPrefixOf]⟩
  | a :: b :: C, h1, h2, _ =>
    refine ⟨by simpa [hasPrefix, List.isPrefixOf] using h1, by simpa [hasPrefix, List.isPrefixOf] using h2⟩
theorem note_x {s x : ByteArray} (h : penNoteL s.data.toList = some x.data.toList) (hs : s.size ≤ 10000) : NoteX x s := by
  obtain ⟨c1, c2, p1, p2, s1, hx⟩ := note_parts h
  obtain ⟨n1, n2⟩ := note_head p1 p2 s1 []
  refine ⟨hx, n1, n2, ?_, ?_, hs⟩
  · rw [rfindL_at [45, 45, 62] (by decide) (by simp) _ (fun k hk => no_end3 c1 [] k hk), len_toL]
  · have hl : (s.data.toList ++ [45, 45, 62]).length = s.size + 3 := by rw [List.length_append, len_toL]; rfl
    rw [rfindL_none _ (fun k hk => ?_), hl]
    by_cases hk2 : k ≤ s.data.toList.length
    · exact no_end4 c2 [] k hk2
    · have : (s.data.toList ++ [45, 45, 62]).drop k = ([45, 45, 62] : List UInt8).drop (k - s.data.toList.length) := by
        rw [List.drop_append, List.drop_eq_nil_of_le (by omega), List.nil_append]
      rw [this]
      rw [hl] at hk
      rw [len_toL] at hk2 ⊢
      obtain h1 | h1 : k - s.size = 1 ∨ k - s.size = 2 := by omega
      · rw [h1]; rfl
      · rw [h1]; rfl
/-- A comment that was written is read as just that. -/
theorem note_back {s x : List UInt8} (h : penNoteL s = some x) (B : List UInt8) : nextL (x ++ B) 0 0 [] false = (noteT s, (x.length : Int)) := by
  obtain ⟨c1, c2, p1, p2, s1, hx⟩ := note_parts h
  obtain ⟨n1, n2⟩ := note_head p1 p2 s1 B
  have hX : x ++ B = 60 :: 33 :: 45 :: 45 :: (s ++ 45 :: 45 :: 62 :: B) := by rw [hx]; simp
  have i1 : index (s ++ 45 :: 45 :: 62 :: B) [45, 45, 62] = (s.length : Int) := index_at _ (by simp [List.isPrefixOf]) (by simp) _ (fun k hk => no_end3 c1 B k hk)
  have i2 : index (s ++ 45 :: 45 :: 62 :: B) [45, 45, 33, 62] < 0 ∨ (s.length : Int) < index (s ++ 45 :: 45 :: 62 :: B) [45, 45, 33, 62] := by
    by_cases hi : index (s ++ 45 :: 45 :: 62 :: B) [45, 45, 33, 62] < 0
    · exact .inl hi
    · right
      have hst := index_stands (sub := [45, 45, 33, 62]) (by simp) (s ++ 45 :: 45 :: 62 :: B) (by omega)
      by_cases hle : (index (s ++ 45 :: 45 :: 62 :: B) [45, 45, 33, 62]).toNat ≤ s.length
      · have := no_end4 c2 B _ hle
        rw [hasPrefix, hst] at this
        cases this
      · omega
  have ht : toL [45, 45, 62] (s ++ 45 :: 45 :: 62 :: B) = (s, s.length + 3) := by
    rw [toL, Lib.cut, i1, if_pos (by omega)]
    simp only [Int.toNat_natCast, List.take_left]
    congr 1
    rw [List.length_append]
    simp only [List.length_cons, List.length_nil]
    omega
  have hnl : noteL (s ++ 45 :: 45 :: 62 :: B) = (noteT s, s.length + 3) := by
    rw [noteL, if_neg (by rw [n1]; simp), if_neg (by rw [n2]; simp), if_pos ⟨by rw [i1]; omega, by rw [i1]; exact i2⟩, ht]
  have hbang : bangL false (45 :: 45 :: (s ++ 45 :: 45 :: 62 :: B)) = (noteT s, 2 + (s.length + 3)) := by
    rw [bangL, if_pos (by simp [hasPrefix, List.isPrefixOf])]
    rw [show (45 :: 45 :: (s ++ 45 :: 45 :: 62 :: B) : List UInt8).drop 2 = s ++ 45 :: 45 :: 62 :: B from rfl, hnl]
  have hmark : markL false (60 :: 33 :: 45 :: 45 :: (s ++ 45 :: 45 :: 62 :: B)) = (noteT s, 2 + (2 + (s.length + 3))) := by
    rw [markL, if_pos (by rfl)]
    rw [show (60 :: 33 :: 45 :: 45 :: (s ++ 45 :: 45 :: 62 :: B) : List UInt8).drop 2 = 45 :: 45 :: (s ++ 45 :: 45 :: 62 :: B) from rfl, hbang]
  have hst : stopL (60 :: 33 :: 45 :: 45 :: (s ++ 45 :: 45 :: 62 :: B)) = true := by
    rw [stopL, begL]
    simp [headIs]
  have hlen : x.length = s.length + 7 := by rw [hx]; simp
  rw [hX, nextL, if_neg (by simp; omega)]
  rw [show ((0 : Int).toNat) = 0 from rfl, List.drop_zero, nextIn, if_pos (by decide), dataL, dataGo, if_neg (by simp), if_neg (by rw [hst]; simp), hmark, if_neg (by intro e; cases e), hlen]
  simp only
  congr 1
  omega

end Go.Proofs.YthfkldheflmlmaaGreatDoor
