/- Walks of the lexer: value, attr. -/
import Derived.Test.YthfkldheflmlmaaGreatDoorLex2
namespace Go.Proofs.YthfkldheflmlmaaGreatDoor
open Go.RowKit

/-- One more than the greatest number of a variable that is read. -/
def nG : Nat := max (max 0 2) (max 3 1) + 1
def Tab (w : World) : Prop := RefsTab w ∧ MaxTab w
theorem Tab.below {w w' : World} (h : Tab w) (hb : Below w.heap.size w w') : Tab w' := ⟨h.1.below hb, h.2.below hb⟩
theorem Glob.keep {O : Nat → Prop} {w w' : World} {g : Nat} {cs : Array Value} (h : Glob w g cs) (hc : Ch O w w') (ho : ¬ O g) : Glob w' g cs := by
  obtain ⟨t, fr, h⟩ := h
  exact ⟨t, fr, hc.blk h ho⟩
theorem nG_lt : 0 < nG ∧ 2 < nG ∧ 3 < nG ∧ 1 < nG := by decide
theorem Tab.keep {O : Nat → Prop} {w w' : World} (h : Tab w) (hc : Ch O w w') (hO : ∀ i, i < nG → ¬ O i) : Tab w' := by
  obtain ⟨⟨h1, h2, h3⟩, m, h4⟩ := h
  exact ⟨⟨fun j hj => hc.cell (h1 j hj) (hO _ nG_lt.1), h2.keep hc (hO _ nG_lt.2.2.1), h3.keep hc (hO _ nG_lt.2.1)⟩, m, hc.cell h4 (hO _ nG_lt.2.2.2)⟩
theorem Glob.lt {w : World} {g : Nat} {cs : Array Value} (h : Glob w g cs) : g < w.heap.size := by
  obtain ⟨t, fr, h⟩ := h
  exact (Array.getElem?_eq_some_iff.1 h).1
theorem Tab.size {w : World} (h : Tab w) : nG ≤ w.heap.size := by
  obtain ⟨⟨h1, h2, h3⟩, m, h4⟩ := h
  have e1 : 0 < w.heap.size := World.block_lt_of_cell? w _ (h1 0 (by omega))
  have e2 := h2.lt
  have e3 := h3.lt
  have e4 : 1 < w.heap.size := World.block_lt_of_cell? w _ h4
  have : nG = max (max 0 2) (max 3 1) + 1 := rfl
  omega
theorem Tab.lex {w w' : World} {g : Nat} (h : Tab w) (hc : Ch (· = g) w w') (hg : nG ≤ g) : Tab w' := h.keep hc (fun i hi e => by omega)

def valueStops : List UInt8 := [9, 10, 12, 32, 62]
def attrStops : List UInt8 := [9, 10, 12, 32, 47, 62, 61]
def nameStops : List UInt8 := [9, 10, 12, 32, 47, 62]
/-- An attribute's value that begins a list, behind its spaces; false: the text ends in it; how many bytes are taken. -/
def val1L (l : List UInt8) : List UInt8 × Bool × Nat :=
  if headIs l 34 || headIs l 39 then
    (if untN (l.take 1) (l.drop 1) = (l.drop 1).length then ([], false, 1 + untN (l.take 1) (l.drop 1)) else (allL ((l.drop 1).take (untN (l.take 1) (l.drop 1))) true, true, 1 + untN (l.take 1) (l.drop 1) + 1))
  else (allL (l.take (untN valueStops l)) true, true, untN valueStops l)
def valL (l : List UInt8) : List UInt8 × Bool × Nat := ((val1L (l.drop (spN l))).1, (val1L (l.drop (spN l))).2.1, spN l + (val1L (l.drop (spN l))).2.2)
theorem headIs_ne {l : List UInt8} {c : Nat} (h : headIs l c = true) : 0 < l.length := by cases l with | nil => cases h | cons b t => simp
theorem val1L_le (l : List UInt8) : (val1L l).2.2 ≤ l.length := by
  unfold val1L
  have h2 := untN_le valueStops l
  have h1 := untN_le (l.take 1) (l.drop 1)
  have hl : (l.drop 1).length = l.length - 1 := List.length_drop ..
  split
  · rename_i h
    have hp : 0 < l.length := by
      rw [Bool.or_eq_true] at h
      exact h.elim headIs_ne headIs_ne
    split
    · simp only; omega
    · simp only; omega
  · exact h2
theorem valL_le (l : List UInt8) : (valL l).2.2 ≤ l.length := by
  have h1 := spN_le l
  have h2 := val1L_le (l.drop (spN l))
  rw [List.length_drop] at h2
  show spN l + _ ≤ _
  omega

theorem run_one_byte {P : Program} (w : World) (a : Addr) (b : Int) (hb0 : 0 ≤ b) (hb1 : b ≤ 255) (src dst e : TypeId) (hs : P.underlying src = some (.slice e)) (he : P.underlying e = some (.int .u8)) (hd : P.underlying dst = some .string) (n c : Nat) (hn : n = 1)
    (hc : w.cell? a = some (.int .u8 b)) : (convert src dst (.slice (some a) n c)).run P w = .ok (.string (mkS [byteL b])) w := by
  subst hn
  refine conv_bytes_string w src dst e a 1 c [byteL b] rfl hs he hd (fun j hj => ?_)
  obtain rfl : j = 0 := by omega
  rw [show a.add 0 = a from by unfold Addr.add; simp, hc]
  simp [byteL_nat]
  omega

theorem LexAt.cast {w : World} {g : Nat} {s : ByteArray} {i j : Nat} (h : LexAt w g s i) (e : i = j) : LexAt w g s j := e ▸ h
theorem byteL_bI (s : ByteArray) (i : Nat) : byteL (bI s i) = uB s i := by rw [bI_uB]; simp [byteL]
theorem take1_uB (s : ByteArray) (p : Nat) (h : p < s.size) : (s.data.toList.drop p).take 1 = [uB s p] := by rw [drop_uB s p h]; rfl

set_option maxRecDepth 100000 in
set_option maxHeartbeats 2000000 in
theorem value_calls (w : World) (g : Nat) (s : ByteArray) (i : Nat) (h : LexAt w g s i) (hi : i ≤ s.size) (hg : nG ≤ g) (ht : Tab w) (hs : s.size ≤ 10000000) :
    Calls Tryz.prog 82 #[.pointer (some ⟨g, 0, none⟩)] w fun e w' =>
      e = .returned (.tuple #[.string (mkS (valL (s.data.toList.drop i)).1), .bool (valL (s.data.toList.drop i)).2.1]) ∧ LexAt w' g s (i + (valL (s.data.toList.drop i)).2.2) ∧ Ch (· = g) w w' := by
  have hk := spN_le (s.data.toList.drop i)
  rw [List.length_drop, len_toL] at hk
  have SP := Lib.hid (fun w h => spaces_calls w g s i h hi (by omega))
  have hval : valL (s.data.toList.drop i) = ((val1L (s.data.toList.drop (i + spN (s.data.toList.drop i)))).1, (val1L (s.data.toList.drop (i + spN (s.data.toList.drop i)))).2.1, spN (s.data.toList.drop i) + (val1L (s.data.toList.drop (i + spN (s.data.toList.drop i)))).2.2) := by
    rw [valL, List.drop_drop]
  generalize spN (s.data.toList.drop i) = k at *
  have HL := Lib.hid h
  have HV := Lib.hid hval
  have HT := Lib.hid ht
  clear h hval ht
  obtain ⟨p, hp⟩ : ∃ p, i + k = p := ⟨_, rfl⟩
  rw [hp] at HV
  have hpi : p = i + k := hp.symm
  have HP := Lib.hid hpi
  rw [hp] at SP
  have hps : p ≤ s.size := by omega
  clear hp hpi
  have PC := Lib.hid (fun w h => peek_calls w g s p h (by omega) (by omega))
  by_cases hq : headIs (s.data.toList.drop p) 34 || headIs (s.data.toList.drop p) 39
  · have hlt : p < s.size := by
      rcases Nat.lt_or_ge p s.size with h | h
      · exact h
      · rw [headIs_end s p _ h, headIs_end s p _ h] at hq; cases hq
    rw [headIs_uB s p _ hlt, headIs_uB s p _ hlt] at hq
    have hl1 : (s.data.toList.drop p).drop 1 = s.data.toList.drop (p + 1) := by rw [List.drop_drop]
    have hv1 : val1L (s.data.toList.drop p) = if untN [uB s p] (s.data.toList.drop (p + 1)) = s.size - (p + 1) then ([], false, 1 + untN [uB s p] (s.data.toList.drop (p + 1))) else (allL ((s.data.toList.drop (p + 1)).take (untN [uB s p] (s.data.toList.drop (p + 1)))) true, true, 1 + untN [uB s p] (s.data.toList.drop (p + 1)) + 1) := by
      rw [val1L, if_pos (by rw [headIs_uB s p _ hlt, headIs_uB s p _ hlt]; exact hq), hl1, take1_uB s p hlt, List.length_drop, len_toL]
    have HV1 := Lib.hid hv1
    have hr := bI_range s p
    have KB := Lib.hid (fun W a n c hn hc => run_one_byte (P := Tryz.prog) W a (bI s p) hr.1 hr.2 63 9 5 Tryz.underlying63 Tryz.underlying5 Tryz.underlying9 n c hn hc)
    rw [byteL_bI] at KB
    have UC := Lib.hid (fun w h => until_calls w g s (mkS [uB s p]) (p + 1) h (by omega) (by omega))
    rw [of_mkS] at UC
    have hun := untN_le [uB s p] (s.data.toList.drop (p + 1))
    rw [List.length_drop, len_toL] at hun
    generalize untN [uB s p] (s.data.toList.drop (p + 1)) = n at *
    clear hv1 hl1
    have DC := Lib.hid (fun w h => done_calls w g s (p + 1 + n) h)
    cases e34 : (bI s p == 34) with
    | true =>
      go_enter Tryz.func82, Tryz.ntmps82
      go_wp2_with (first | (go_at_call 52; refine (SP.out _ HL.out).mono ?_; rintro e w1 ⟨rfl, hL1, hc1⟩; have h11 := hL1.c1; have hf1 := hL1.f1; have LL1 := Lib.hid hL1) | (go_at_call 77; refine (PC.out _ hL1).mono ?_; rintro e w2 ⟨rfl, n2, rfl⟩))
      rw [KB.out _ _ _ _ rfl (by go_simp)]
      by_cases hn : n = s.size - (p + 1)
      · have hd : decide (s.size ≤ p + 1 + n) = true := by simp; omega
        rw [hd] at DC
        have hres : valL (s.data.toList.drop i) = ([], false, k + (1 + n)) := by rw [HV.out, HV1.out, if_pos hn]
        have HR := Lib.hid hres
        clear hres hd
        go_wp2_with (first | (go_at_call 51; refine (UC.out _ (by exact LexAt.below (LexAt.set_ (by exact LL1.out) (by go_num)) ((Below.refl _ _).alloc (Nat.le_refl _) _))).mono ?_; rintro e w3 ⟨rfl, hL3, hc3⟩) | (go_at_call 23; refine (DC.out _ hL3).mono ?_; rintro e w4 ⟨rfl, n4, rfl⟩))
        go_ret2
        exact ⟨by rw [HR.out]; rfl, by rw [HR.out]; exact LexAt.cast (by exact hL3) (by have := HP.out; simp only; omega), ((hc1.trans (O1 := (· = g)) (by exact ((Ch.setCell (Ch.drewN (Ch.refl (· = g) w1) n2) (.inl (show g = g from rfl)) _).alloc _)) (fun _ _ x => x)).same hc3).drewN _⟩
      · have hd : decide (s.size ≤ p + 1 + n) = false := by simp; omega
        rw [hd] at DC
        have hres : valL (s.data.toList.drop i) = (allL ((s.data.toList.drop (p + 1)).take n) true, true, k + (1 + n + 1)) := by rw [HV.out, HV1.out, if_neg hn]
        have HR := Lib.hid hres
        have RC := Lib.hid (fun w h => all_calls w (mkS ((s.data.toList.drop (p + 1)).take n)) true h (by rw [size_mkS, List.length_take, List.length_drop, len_toL]; omega))
        rw [of_mkS] at RC
        clear hres hd
        go_wp2_with (first | (go_at_call 51; refine (UC.out _ (by exact LexAt.below (LexAt.set_ (by exact LL1.out) (by go_num)) ((Below.refl _ _).alloc (Nat.le_refl _) _))).mono ?_; rintro e w3 ⟨rfl, hL3, hc3⟩; have h31 := hL3.c1; have hf3 := hL3.f1; have LL3 := Lib.hid hL3) | (go_at_call 23; refine (DC.out _ hL3).mono ?_; rintro e w4 ⟨rfl, n4, rfl⟩) | (go_at_call 26; refine (RC.out _ (Tab.lex HT.out (by exact Ch.setCell (Ch.drewN ((hc1.trans (O1 := (· = g)) (by exact ((Ch.setCell (Ch.drewN (Ch.refl (· = g) w1) n2) (.inl (show g = g from rfl)) _).alloc _)) (fun _ _ x => x)).same hc3) n4) (.inl (show g = g from rfl)) _) hg).1).mono ?_; rintro e w5 ⟨rfl, hb5⟩))
        go_ret2
        exact ⟨by rw [HR.out]; rfl, by rw [HR.out]; exact LexAt.cast (LexAt.below (LexAt.set_ (by exact LL3.out) (by go_num)) hb5) (by have := HP.out; simp only; omega), (Ch.setCell (((hc1.trans (O1 := (· = g)) (by exact ((Ch.setCell (Ch.drewN (Ch.refl (· = g) w1) n2) (.inl (show g = g from rfl)) _).alloc _)) (fun _ _ x => x)).same hc3).drewN _) (.inl (show g = g from rfl)) _).then_below hb5⟩

    | false =>
      have e39 : (bI s p == 39) = true := by simpa [e34] using hq
      go_enter Tryz.func82, Tryz.ntmps82
      go_wp2_with (first | (go_at_call 52; refine (SP.out _ HL.out).mono ?_; rintro e w1 ⟨rfl, hL1, hc1⟩; have h11 := hL1.c1; have hf1 := hL1.f1; have LL1 := Lib.hid hL1) | (go_at_call 77; refine (PC.out _ hL1).mono ?_; rintro e w2 ⟨rfl, n2, rfl⟩))
      rw [KB.out _ _ _ _ rfl (by go_simp)]
      by_cases hn : n = s.size - (p + 1)
      · have hd : decide (s.size ≤ p + 1 + n) = true := by simp; omega
        rw [hd] at DC
        have hres : valL (s.data.toList.drop i) = ([], false, k + (1 + n)) := by rw [HV.out, HV1.out, if_pos hn]
        have HR := Lib.hid hres
        clear hres hd
        go_wp2_with (first | (go_at_call 51; refine (UC.out _ (by exact LexAt.below (LexAt.set_ (by exact LL1.out) (by go_num)) ((Below.refl _ _).alloc (Nat.le_refl _) _))).mono ?_; rintro e w3 ⟨rfl, hL3, hc3⟩) | (go_at_call 23; refine (DC.out _ hL3).mono ?_; rintro e w4 ⟨rfl, n4, rfl⟩))
        go_ret2
        exact ⟨by rw [HR.out]; rfl, by rw [HR.out]; exact LexAt.cast (by exact hL3) (by have := HP.out; simp only; omega), ((hc1.trans (O1 := (· = g)) (by exact ((Ch.setCell (Ch.drewN (Ch.refl (· = g) w1) n2) (.inl (show g = g from rfl)) _).alloc _)) (fun _ _ x => x)).same hc3).drewN _⟩
      · have hd : decide (s.size ≤ p + 1 + n) = false := by simp; omega
        rw [hd] at DC
        have hres : valL (s.data.toList.drop i) = (allL ((s.data.toList.drop (p + 1)).take n) true, true, k + (1 + n + 1)) := by rw [HV.out, HV1.out, if_neg hn]
        have HR := Lib.hid hres
        have RC := Lib.hid (fun w h => all_calls w (mkS ((s.data.toList.drop (p + 1)).take n)) true h (by rw [size_mkS, List.length_take, List.length_drop, len_toL]; omega))
        rw [of_mkS] at RC
        clear hres hd
        go_wp2_with (first | (go_at_call 51; refine (UC.out _ (by exact LexAt.below (LexAt.set_ (by exact LL1.out) (by go_num)) ((Below.refl _ _).alloc (Nat.le_refl _) _))).mono ?_; rintro e w3 ⟨rfl, hL3, hc3⟩; have h31 := hL3.c1; have hf3 := hL3.f1; have LL3 := Lib.hid hL3) | (go_at_call 23; refine (DC.out _ hL3).mono ?_; rintro e w4 ⟨rfl, n4, rfl⟩) | (go_at_call 26; refine (RC.out _ (Tab.lex HT.out (by exact Ch.setCell (Ch.drewN ((hc1.trans (O1 := (· = g)) (by exact ((Ch.setCell (Ch.drewN (Ch.refl (· = g) w1) n2) (.inl (show g = g from rfl)) _).alloc _)) (fun _ _ x => x)).same hc3) n4) (.inl (show g = g from rfl)) _) hg).1).mono ?_; rintro e w5 ⟨rfl, hb5⟩))
        go_ret2
        exact ⟨by rw [HR.out]; rfl, by rw [HR.out]; exact LexAt.cast (LexAt.below (LexAt.set_ (by exact LL3.out) (by go_num)) hb5) (by have := HP.out; simp only; omega), (Ch.setCell (((hc1.trans (O1 := (· = g)) (by exact ((Ch.setCell (Ch.drewN (Ch.refl (· = g) w1) n2) (.inl (show g = g from rfl)) _).alloc _)) (fun _ _ x => x)).same hc3).drewN _) (.inl (show g = g from rfl)) _).then_below hb5⟩

  · have hq2 : headIs (s.data.toList.drop p) 34 = false ∧ headIs (s.data.toList.drop p) 39 = false := by simpa using hq
    have e34 : (bI s p == 34) = false := by
      rcases Nat.lt_or_ge p s.size with h | h
      · show (bI s p == ((34 : Nat) : Int)) = false
        rw [← headIs_uB s p 34 h]; exact hq2.1
      · rw [bI_end s p h]; rfl
    have e39 : (bI s p == 39) = false := by
      rcases Nat.lt_or_ge p s.size with h | h
      · show (bI s p == ((39 : Nat) : Int)) = false
        rw [← headIs_uB s p 39 h]; exact hq2.2
      · rw [bI_end s p h]; rfl
    have hv1 : val1L (s.data.toList.drop p) = (allL ((s.data.toList.drop p).take (untN valueStops (s.data.toList.drop p))) true, true, untN valueStops (s.data.toList.drop p)) := by
      rw [val1L, if_neg hq]
    have UC := Lib.hid (fun w h => until_calls w g s (mkS valueStops) p h hps (by omega))
    rw [of_mkS] at UC
    have RC := Lib.hid (fun w h => all_calls w (mkS ((s.data.toList.drop p).take (untN valueStops (s.data.toList.drop p)))) true h (by rw [size_mkS, List.length_take, List.length_drop, len_toL]; omega))
    rw [of_mkS] at RC
    have hres : valL (s.data.toList.drop i) = (allL ((s.data.toList.drop p).take (untN valueStops (s.data.toList.drop p))) true, true, k + untN valueStops (s.data.toList.drop p)) := by rw [HV.out, hv1]
    have HR := Lib.hid hres
    generalize untN valueStops (s.data.toList.drop p) = n at *
    clear hv1 hq hq2 hres
    go_enter Tryz.func82, Tryz.ntmps82
    go_wp2_with (first | (go_at_call 52; refine (SP.out _ HL.out).mono ?_; rintro e w1 ⟨rfl, hL1, hc1⟩) | (go_at_call 77; refine (PC.out _ hL1).mono ?_; rintro e w2 ⟨rfl, n2, rfl⟩) | (go_at_call 51; refine (UC.out _ (hL1.drewN n2)).mono ?_; rintro e w3 ⟨rfl, hL3, hc3⟩) | (go_at_call 26; refine (RC.out _ (Tab.lex HT.out ((hc1.drewN n2).same hc3) hg).1).mono ?_; rintro e w5 ⟨rfl, hb5⟩))
    go_ret2
    exact ⟨by rw [HR.out]; rfl, by rw [HR.out]; exact LexAt.cast (hL3.below hb5) (by have := HP.out; simp only; omega), ((hc1.drewN n2).same hc3).then_below hb5⟩

end Go.Proofs.YthfkldheflmlmaaGreatDoor
