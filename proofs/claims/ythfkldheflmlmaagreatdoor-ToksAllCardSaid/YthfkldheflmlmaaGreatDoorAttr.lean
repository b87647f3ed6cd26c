/- Walks of the lexer: attr. -/
import Derived.Test.YthfkldheflmlmaaGreatDoorTag
namespace Go.Proofs.YthfkldheflmlmaaGreatDoor
open Go.RowKit

/-- An attribute that begins a list that isn't empty; false: the text ends in it; how many bytes are taken. -/
def attrL (l : List UInt8) : (List UInt8 × List UInt8) × Bool × Nat :=
  let k := 1 + untN attrStops (l.drop 1)
  let z := k + spN (l.drop k)
  if headIs (l.drop z) 61 then ((lowL (l.take k), (valL (l.drop (z + 1))).1), (valL (l.drop (z + 1))).2.1, z + 1 + (valL (l.drop (z + 1))).2.2)
  else ((lowL (l.take k), []), true, k)
theorem blk_cell {w : World} {b : Nat} {t : TypeId} {cs : Array Value} (h : w.heap[b]? = some (.cells cs t (0, 0))) (j : Nat) : w.cell? ⟨b, j, none⟩ = cs[j]? := cell_of_row w b j cs t (0, 0) h
theorem blk_frozen {w : World} {b : Nat} {t : TypeId} {cs : Array Value} (h : w.heap[b]? = some (.cells cs t (0, 0))) (j : Nat) : w.frozen? ⟨b, j, none⟩ = false := by simp [World.frozen?, h]
theorem blk_lt {w : World} {b : Nat} {o : Obj} (h : w.heap[b]? = some o) : b < w.heap.size := (Array.getElem?_eq_some_iff.1 h).1
theorem blk_alloc {w : World} {b : Nat} {o : Obj} (h : w.heap[b]? = some o) (o' : Obj) : (w.alloc o').heap[b]? = some o := (Below.heap_alloc w o' b (blk_lt h)).trans h
theorem blk_new (w : World) (cs : Array Value) (t : TypeId) : (w.alloc (.cells cs t)).heap[w.heap.size]? = some (.cells cs t (0, 0)) := heap_alloc_new w _
theorem blk_far {w : World} {b : Nat} {o : Obj} (h : w.heap[b]? = some o) {p : Addr} (hp : b ≠ p.block) (u : Value) : (w.setCell p u).heap[b]? = some o := (Below.heap_setCell w p u b hp).trans h
theorem blk_below {w w' : World} {b : Nat} {o : Obj} (h : w.heap[b]? = some o) (hb : Below w.heap.size w w') : w'.heap[b]? = some o := (hb.block b (blk_lt h)).trans h

set_option maxRecDepth 100000 in
set_option maxHeartbeats 2000000 in
theorem attr_calls (w : World) (g : Nat) (s : ByteArray) (i : Nat) (h : LexAt w g s i) (hi : i < s.size) (hg : nG ≤ g) (ht : Tab w) (hs : s.size ≤ 10000000) :
    Calls Tryz.prog 54 #[.pointer (some ⟨g, 0, none⟩)] w fun e w' =>
      e = .returned (.tuple #[.agg #[.string (mkS (attrL (s.data.toList.drop i)).1.1), .string (mkS (attrL (s.data.toList.drop i)).1.2)], .bool (attrL (s.data.toList.drop i)).2.1]) ∧ LexAt w' g s (i + (attrL (s.data.toList.drop i)).2.2) ∧ Ch (· = g) w w' := by
  have h0 := h.c0
  have h1 := h.c1
  have hf := h.f1
  have hlt := h.lt
  have HL := Lib.hid h
  have HT := Lib.hid ht
  clear h ht
  have UC := Lib.hid (fun w h => until_calls w g s (mkS attrStops) (i + 1) h (by omega) (by omega))
  rw [of_mkS] at UC
  have hx1 : (i : Int) + 1 ≤ (s.size : Int) := by omega
  have e1 : IntKind.i64.wrap ((i : Int) + 1) = (i : Int) + 1 := i64_in _ (by omega) (by omega)
  have e2 : ((i : Int) + 1).toNat = i + 1 := by omega
  have hun := untN_le attrStops (s.data.toList.drop (i + 1))
  rw [List.length_drop, len_toL] at hun
  have hat : attrL (s.data.toList.drop i) = if headIs (s.data.toList.drop (i + 1 + untN attrStops (s.data.toList.drop (i + 1)) + spN (s.data.toList.drop (i + 1 + untN attrStops (s.data.toList.drop (i + 1)))))) 61
      then ((lowL ((s.data.toList.drop i).take (1 + untN attrStops (s.data.toList.drop (i + 1)))), (valL (s.data.toList.drop (i + 1 + untN attrStops (s.data.toList.drop (i + 1)) + spN (s.data.toList.drop (i + 1 + untN attrStops (s.data.toList.drop (i + 1)))) + 1))).1), (valL (s.data.toList.drop (i + 1 + untN attrStops (s.data.toList.drop (i + 1)) + spN (s.data.toList.drop (i + 1 + untN attrStops (s.data.toList.drop (i + 1)))) + 1))).2.1,
        1 + untN attrStops (s.data.toList.drop (i + 1)) + spN (s.data.toList.drop (i + 1 + untN attrStops (s.data.toList.drop (i + 1)))) + 1 + (valL (s.data.toList.drop (i + 1 + untN attrStops (s.data.toList.drop (i + 1)) + spN (s.data.toList.drop (i + 1 + untN attrStops (s.data.toList.drop (i + 1)))) + 1))).2.2)
      else ((lowL ((s.data.toList.drop i).take (1 + untN attrStops (s.data.toList.drop (i + 1)))), []), true, 1 + untN attrStops (s.data.toList.drop (i + 1))) := by
    rw [attrL]
    simp only [List.drop_drop, Nat.add_assoc]
  obtain ⟨r, hr⟩ : ∃ r, r = mkS ((s.data.toList.drop (i + 1)).take (untN attrStops (s.data.toList.drop (i + 1)))) := ⟨_, rfl⟩
  have hnm : (s.extract i (i + 1) ++ r).data.toList = (s.data.toList.drop i).take (1 + untN attrStops (s.data.toList.drop (i + 1))) := by
    rw [hr, drop_uB s i hi, Nat.add_comm 1, List.take_succ_cons]
    simp [mkS, ByteArray.data_append]
    rw [drop_uB s i hi]
    rfl
  have hz1 : (s.extract i (i + 1)).size ≤ 1 := by rw [← len_toL, toL_extract]; simp; omega
  have hz2 : r.size ≤ 10000000 := by rw [hr, size_mkS, List.length_take, List.length_drop, len_toL]; omega
  have hz3 : (s.extract i (i + 1) ++ r).size ≤ 1000000000 := by rw [ByteArray.size_append]; omega
  rw [← hr] at UC
  have LC := Lib.hid (fun w => lower_calls w (s.extract i (i + 1) ++ r) hz3)
  rw [hnm] at LC
  obtain ⟨nm, hnmv⟩ : ∃ nm, nm = mkS (lowL ((s.data.toList.drop i).take (1 + untN attrStops (s.data.toList.drop (i + 1))))) := ⟨_, rfl⟩
  rw [← hnmv] at LC
  have HNM := Lib.hid hnmv
  obtain ⟨k, hk⟩ : ∃ k, k = i + 1 + untN attrStops (s.data.toList.drop (i + 1)) := ⟨_, rfl⟩
  have hks : k ≤ s.size := by omega
  have hki : i ≤ k := by omega
  rw [← hk] at UC hat
  have SP := Lib.hid (fun w h => spaces_calls w g s k h hks (by omega))
  have hsp := spN_le (s.data.toList.drop k)
  rw [List.length_drop, len_toL] at hsp
  obtain ⟨z, hz⟩ : ∃ z, z = k + spN (s.data.toList.drop k) := ⟨_, rfl⟩
  have hzs : z ≤ s.size := by omega
  have hkz : k ≤ z := by omega
  rw [← hz] at SP hat
  have PC := Lib.hid (fun w h => peek_calls w g s z h hzs (by omega))
  have hat2 : attrL (s.data.toList.drop i) = if headIs (s.data.toList.drop z) 61 then ((lowL ((s.data.toList.drop i).take (1 + untN attrStops (s.data.toList.drop (i + 1)))), (valL (s.data.toList.drop (z + 1))).1), (valL (s.data.toList.drop (z + 1))).2.1, z - i + 1 + (valL (s.data.toList.drop (z + 1))).2.2)
      else ((lowL ((s.data.toList.drop i).take (1 + untN attrStops (s.data.toList.drop (i + 1)))), []), true, k - i) := by
    rw [hat]
    have a1 : 1 + untN attrStops (s.data.toList.drop (i + 1)) = k - i := by omega
    have a2 : 1 + untN attrStops (s.data.toList.drop (i + 1)) + spN (s.data.toList.drop k) = z - i := by omega
    rw [a2, a1]
  have HA := Lib.hid hat2
  have HK := Lib.hid hk
  have HZ := Lib.hid hz
  have hbt := bI_at s
  clear hat hat2 hr hnm hun hsp hk hz hnmv
  go_enter Tryz.func54, Tryz.ntmps54
  go_wp2
  go_quiet (fail)
  go_wp2_with fail
  refine (UC.out _ (by exact LexAt.set_ (LexAt.below HL.out ((Below.refl _ _).alloc (Nat.le_refl _) _)) (by go_num))).mono ?_
  rintro e w1 ⟨rfl, hL1, hc1⟩
  have hne : w.heap.size ≠ g := by omega
  have hR1 := hc1.blk (by exact blk_far (blk_new w _ _) hne _) hne
  have hC1 : Ch (· = g) w w1 := ((Ch.setCell (by exact Ch.drewN (Ch.alloc (Ch.refl (· = g) w) _) _) (.inl (show g = g from rfl)) _).same hc1)
  have HL1 := Lib.hid hL1
  have HR1 := Lib.hid hR1
  clear hL1 hR1 hc1
  go_wp2_with fail
  refine (LC.out _).mono ?_
  rintro e w2 ⟨rfl, hb2⟩
  have hL2 := HL1.out.below hb2
  have hR2 := blk_below HR1.out hb2
  have hC2 := hC1.then_below hb2
  have h21 := hL2.c1
  have hg2 := hL2.lt
  have HL2 := Lib.hid hL2
  have HR2 := Lib.hid hR2
  have HC2 := Lib.hid hC2
  clear hL2 hR2 hC2 hC1 HL1 HR1 hb2
  go_wp2_with fail
  refine (SP.out _ (LexAt.below HL2.out ((Below.refl _ _).alloc (Nat.le_refl _) _))).mono ?_
  rintro e w3 ⟨rfl, hL3, hc3⟩
  have hne2 : w2.heap.size ≠ g := by omega
  have hB3 := hc3.blk (blk_new w2 _ _) hne2
  have hR3 := hc3.blk (blk_alloc HR2.out _) hne
  have hC3 := (Ch.alloc HC2.out _).same hc3
  have hlt2 : w.heap.size < w2.heap.size := blk_lt HR2.out
  have HL3 := Lib.hid hL3
  have HR3 := Lib.hid hR3
  have HB3 := Lib.hid hB3
  have HC3 := Lib.hid hC3
  clear hL3 hR3 hC3 hB3 hc3 HL2 HR2 HC2 h21
  cases h61 : headIs (s.data.toList.drop z) 61 with
  | true =>
    have hzl : z < s.size := by
      rcases Nat.lt_or_ge z s.size with h | h
      · exact h
      · rw [headIs_end s z _ h] at h61; cases h61
    have e61 : (bI s z != 61) = false := by
      rw [headIs_uB s z 61 hzl] at h61
      have h61' : (bI s z == 61) = true := h61
      simpa using h61'
    have hres : attrL (s.data.toList.drop i) = ((lowL ((s.data.toList.drop i).take (1 + untN attrStops (s.data.toList.drop (i + 1)))), (valL (s.data.toList.drop (z + 1))).1), (valL (s.data.toList.drop (z + 1))).2.1, z - i + 1 + (valL (s.data.toList.drop (z + 1))).2.2) := by rw [HA.out, if_pos h61]
    have HR := Lib.hid hres
    have VC := Lib.hid (fun w h h' => value_calls w g s (z + 1) h (by omega) hg h' hs)
    have h31 := HL3.out.c1
    have hf3 := HL3.out.f1
    clear hres h61
    generalize valL (s.data.toList.drop (z + 1)) = v at *
    go_wp2_with (first | (go_at_call 77; refine (PC.out _ HL3.out).mono ?_; rintro e w4 ⟨rfl, n4, rfl⟩))
    refine (VC.out _ (LexAt.set_ (LexAt.drewN HL3.out n4) (by go_num)) (Tab.lex HT.out (Ch.setCell (HC3.out.drewN n4) (.inl (show g = g from rfl)) _) hg)).mono ?_
    rintro e w5 ⟨rfl, hL5, hc5⟩
    have hC5 := (Ch.setCell (HC3.out.drewN n4) (.inl (show g = g from rfl)) (.int .i64 ((z : Int) + 1))).same hc5
    have hB5 := hc5.blk (blk_far HB3.out hne2 _) hne2
    have hR5 := hc5.blk (blk_far HR3.out hne _) hne
    have b0 := blk_cell hB5 0
    have b1 := blk_cell hB5 1
    have r0 := blk_cell hR5 0
    have r1 := blk_cell hR5 1
    have fb := blk_frozen hB5 1
    have fr0 := blk_frozen hR5 0
    have fr1 := blk_frozen hR5 1
    have HL5 := Lib.hid hL5
    have HC5 := Lib.hid hC5
    have HB5 := Lib.hid hB5
    have HR5 := Lib.hid hR5
    clear hL5 hC5 hB5 hR5 hc5 h31 hf3
    go_wp2
    refine bodyPost_ret (v := .tuple #[.agg #[.string nm, .string (mkS v.1)], .bool v.2.1]) ?_ rfl ⟨?_, ?_, ?_⟩
    · simp [results, Tryz.results54, go_sem, r0, r1]
    · rw [HR.out, HNM.out]
    · rw [HR.out]
      exact LexAt.cast (j := i + (z - i + 1 + v.2.2)) (show LexAt _ g s (z + 1 + v.2.2) from blk_far (blk_far (blk_far HL5.out (Ne.symm hne2) _) (Ne.symm hne) _) (Ne.symm hne) _) (by omega)
    · exact Ch.setCell (Ch.setCell (Ch.setCell HC5.out (.inr (Nat.le_of_lt hlt2)) _) (.inr (Nat.le_refl _)) _) (.inr (Nat.le_refl _)) _
  | false =>
    have e61 : (bI s z != 61) = true := by
      rcases Nat.lt_or_ge z s.size with h | h
      · rw [headIs_uB s z 61 h] at h61
        have h61' : (bI s z == 61) = false := h61
        simpa using h61'
      · rw [bI_end s z h]; rfl
    have hres : attrL (s.data.toList.drop i) = ((lowL ((s.data.toList.drop i).take (1 + untN attrStops (s.data.toList.drop (i + 1)))), []), true, k - i) := by rw [HA.out, if_neg (by rw [h61]; simp)]
    have HR := Lib.hid hres
    have h31 := HL3.out.c1
    have hf3 := HL3.out.f1
    have b0 := blk_cell HB3.out 0
    have b1 := blk_cell HB3.out 1
    have r0 := blk_cell HR3.out 0
    have r1 := blk_cell HR3.out 1
    have fr0 := blk_frozen HR3.out 0
    have fr1 := blk_frozen HR3.out 1
    clear hres h61
    go_wp2_with (first | (go_at_call 77; refine (PC.out _ HL3.out).mono ?_; rintro e w4 ⟨rfl, n4, rfl⟩))
    refine bodyPost_ret (v := .tuple #[.agg #[.string nm, .string (mkS [])], .bool true]) ?_ rfl ⟨?_, ?_, ?_⟩
    · simp [results, Tryz.results54, go_sem, r0, r1]
      rfl
    · rw [HR.out, HNM.out]
    · rw [HR.out]
      exact LexAt.cast (j := i + (k - i)) (show LexAt _ g s k from blk_far (blk_far (LexAt.set_ (LexAt.drewN HL3.out n4) rfl) (Ne.symm hne) _) (Ne.symm hne) _) (by omega)
    · exact Ch.setCell (Ch.setCell (Ch.setCell (HC3.out.drewN n4) (.inl (show g = g from rfl)) _) (.inr (Nat.le_refl _)) _) (.inr (Nat.le_refl _)) _

end Go.Proofs.YthfkldheflmlmaaGreatDoor
