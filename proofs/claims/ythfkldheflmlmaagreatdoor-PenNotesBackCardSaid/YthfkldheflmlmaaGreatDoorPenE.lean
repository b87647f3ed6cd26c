/- pen.Open: contract. -/
import Derived.Test.YthfkldheflmlmaaGreatDoorPenD
import Derived.Lib.QuietBelow
import Derived.BigQuiet
namespace Go.Proofs.YthfkldheflmlmaaGreatDoor
open Go.RowKit Go.Sort Go.BigFrame

def attrText (a : AttrT) : List UInt8 := 32 :: (a.1 ++ 61 :: 34 :: (escB true a.2 ++ [34]))
def okA (a : AttrT) : Bool := nameL a.1 && goodL a.2
/-- A tag's text. -/
def openText (n : List UInt8) (l : List AttrT) : List UInt8 := 60 :: (n ++ (l.flatMap attrText ++ [62]))
def openOK (n : List UInt8) (l : List AttrT) : Prop := nameL n = true ∧ (∀ a ∈ l, okA a = true) ∧ apartL l ∧ l.length ≤ 12
theorem escOne_len (v : Bool) (b : UInt8) : (escOne v b).length ≤ 6 := by
  unfold escOne
  split
  · decide
  · split
    · decide
    · split
      · decide
      · split
        · decide
        · simp
theorem escB_len (v : Bool) : ∀ (n : Nat) (l : List UInt8), l.length ≤ n → (escB v l).length ≤ 6 * l.length
  | 0, l, h => by
    have : l = [] := List.length_eq_zero_iff.mp (by omega)
    rw [this]; simp [escB]
  | n + 1, [], _ => by simp [escB]
  | n + 1, [b], _ => by
    have := escOne_len v b
    rw [escB]; simp; exact this
  | n + 1, b :: b' :: l, h => by
    have h1 := escB_len v n l (by simp at h; omega)
    have h2 := escB_len v n (b' :: l) (by simp at h ⊢; omega)
    have h3 := escOne_len v b
    rw [escB]
    split
    · rw [List.length_append]
      simp only [List.length_cons] at h1 ⊢
      have : nbspB.length = 6 := rfl
      omega
    · rw [List.length_append]
      simp only [List.length_cons] at h2 ⊢
      omega
theorem attrText_len (a : AttrT) (h1 : a.1.length ≤ 200) (h2 : a.2.length ≤ 1000) : (attrText a).length ≤ 6300 := by
  have := escB_len true _ a.2 (Nat.le_refl _)
  simp only [attrText, List.length_cons, List.length_append, List.length_nil]
  omega
theorem attrText_str (x y : ByteArray) (a : AttrT) (hx : x.data.toList = a.1) (hy : y.data.toList = escB true a.2) : ((⟨#[32]⟩ : ByteArray) ++ x ++ ⟨#[61, 34]⟩ ++ y ++ ⟨#[34]⟩).data.toList = attrText a := by
  simp [ByteArray.data_append, attrText, hx, hy]

set_option maxRecDepth 100000 in
set_option maxHeartbeats 4000000 in
theorem open_calls (w : World) (s : ByteArray) (A : Option Addr) (c : Nat) (l : List AttrT) (hl : AttrsAt w A l) (ht : Tab w) (hz : l.length ≤ 40) (hz2 : ∀ a ∈ l, a.1.length ≤ 200 ∧ a.2.length ≤ 1000) :
    Calls Tryz.prog 16 #[.string s, .slice A l.length c] w fun e w' => ∃ r, e = .returned (.tuple r) ∧ Below w.heap.size w w' ∧
      ((openOK s.data.toList l ∧ r = #[.string (mkS (openText s.data.toList l)), .int .i64 0]) ∨ (¬ openOK s.data.toList l ∧ ∃ x, r = #[.string ⟨#[]⟩, .int .i64 x] ∧ (x == 0) = false)) := by
  have NC := Lib.hid (fun W x => name_calls W x)
  have HT := Lib.hid ht
  have HLL := Lib.hid hl
  clear ht hl
  cases hn : nameL s.data.toList with
  | false =>
    have hno : ¬ openOK s.data.toList l := fun h => by rw [h.1] at hn; cases hn
    go_enter Tryz.func16, Tryz.ntmps16
    go_wp2_with (go_at_call 17; refine (NC.out _ _).mono ?_; rintro e w1 ⟨rfl, rfl⟩; rw [hn])
    go_ret2
    exact ⟨_, rfl, Below.refl _ _, .inr ⟨hno, 4, rfl, by decide⟩⟩
  | true =>
    have hz3 : s.size ≤ 24 := by
      have h := hn
      rw [nameL] at h
      simp only [Bool.and_eq_true, decide_eq_true_eq] at h
      rw [← len_toL]
      exact h.2.1
    have hnew := Bld.new w
    have hb0 : Below w.heap.size w (w.alloc (.cells #[.pointer none, .slice none 0 0] 65)) := (Below.refl _ _).alloc (Nat.le_refl _) _
    have hB0 : w.heap.size ≤ (w.alloc (.cells #[.pointer none, .slice none 0 0] 65)).heap.size := hb0.size
    have hfs : ((⟨#[60]⟩ : ByteArray) ++ s).size = 1 + s.size := by rw [ByteArray.size_append]; rfl
    have hft : ((⟨#[60]⟩ : ByteArray) ++ s).data.toList = 60 :: s.data.toList := by simp [ByteArray.data_append]
    have W0 := Lib.hid (writeString_calls _ w.heap.size w.heap.size [] ((⟨#[60]⟩ : ByteArray) ++ s) hnew (by rw [hfs]; simp; omega) hB0)
    rw [hft] at W0
    have n0 : ¬ 9223372036854775807 < 1 + s.size := by omega
    clear hfs hft hnew
    go_enter Tryz.func16, Tryz.ntmps16
    go_upto_region 5 with (first | (go_at_call 17; refine (NC.out _ _).mono ?_; rintro e w1 ⟨rfl, rfl⟩; rw [hn]) | (go_at_call 32; refine W0.out.mono ?_; rintro e w1 ⟨rfl, hB1, hb1⟩))
    have hw1 := hb0.trans hb1
    go_wp2_with fail
    go_loopw [17] (fun i wr => ∃ (k : Nat) (acc : List UInt8), k ≤ l.length ∧ i = .int .i64 k ∧ acc.length ≤ 6300 * (k + 1) ∧ Bld wr w.heap.size w.heap.size acc ∧ Below w.heap.size w wr ∧ Hid (acc = 60 :: (s.data.toList ++ (l.take k).flatMap attrText)) ∧ Hid (∀ a ∈ l.take k, okA a = true)) (fun i _ => l.length - (intOf i).toNat)
    case atStart => exact ⟨0, _, Nat.zero_le _, rfl, by simp; omega, hB1, hw1, Lib.hid (by simp), Lib.hid (fun a h => by simp at h)⟩
    case round =>
      obtain ⟨k, acc, hk, rfl, hac, hB, hb, HA, HO⟩ := hrel
      rename World => wo
      by_cases hlt : k < l.length
      · obtain ⟨ad, rfl, c0, c1⟩ := (HLL.out.below hb).at_ hlt
        have hmem : l.getD k ([], []) ∈ l := by rw [List.getD, List.getElem?_eq_getElem hlt]; exact List.getElem_mem hlt
        obtain ⟨ha1, ha2⟩ := hz2 _ hmem
        have htk : l.take (k + 1) = l.take k ++ [l.getD k ([], [])] := by rw [List.take_succ_eq_append_getElem hlt, List.getD, List.getElem?_eq_getElem hlt]; rfl
        obtain ⟨x, hx⟩ : ∃ x, l.getD k ([], []) = x := ⟨_, rfl⟩
        rw [hx] at c0 c1 ha1 ha2 htk hmem
        clear hx
        obtain ⟨x1, x2⟩ := x
        simp only at c0 c1 ha1 ha2
        have hbad : okA (x1, x2) = false → ¬ openOK s.data.toList l := fun h ho => by rw [ho.2.1 _ hmem] at h; cases h
        have HTK := Lib.hid htk
        have hbox := blk_new wo #[.string (mkS x1), .string (mkS x2)] 48
        have NX := Lib.hid (fun W => name_calls W (mkS x1))
        have GX := Lib.hid (fun W h => good_calls W (mkS x2) h (by rw [size_mkS]; omega))
        have EX := Lib.hid (fun W h => escape_calls W (mkS x2) true h (by rw [size_mkS]; omega))
        rw [of_mkS] at NX GX EX
        have hel := escB_len true _ x2 (Nat.le_refl _)
        have htl := attrText_len (x1, x2) ha1 ha2
        have hts := attrText_str (mkS x1) (mkS (escB true x2)) (x1, x2) (of_mkS _) (of_mkS _)
        have hz5 : (mkS x1).size ≤ 200 := by rw [size_mkS]; exact ha1
        have hz6 : (mkS (escB true x2)).size ≤ 6000 := by rw [size_mkS]; omega
        have hok : okA (x1, x2) = (nameL x1 && goodL x2) := rfl
        clear htk hmem hel ha1 ha2
        go_upto_region 8 with fail
        obtain ⟨w5, hw5⟩ : ∃ w5, w5 = wo.alloc (.cells #[.string (mkS x1), .string (mkS x2)] 48) := ⟨_, rfl⟩
        have hb5 : Below wo.heap.size wo w5 := by rw [hw5]; exact (Below.refl _ _).alloc (Nat.le_refl _) _
        rw [← hw5] at hbox ⊢
        clear hw5
        have hB5 := hB.kept hb5
        have hbb5 := below_then hb hb.size hb5
        have b0 := blk_cell hbox 0
        have b1 := blk_cell hbox 1
        cases e1 : nameL x1 with
        | false =>
          have hno := hbad (by rw [hok, e1]; rfl)
          go_wp2_with (go_at_call 17; refine (NX.out _).mono ?_; rintro e w6 ⟨rfl, rfl⟩; rw [e1])
          go_ret2
          exact ⟨_, rfl, hbb5, .inr ⟨hno, 4, rfl, by decide⟩⟩
        | true =>
          cases e2 : goodL x2 with
          | false =>
            have hno := hbad (by rw [hok, e1, e2]; rfl)
            go_wp2_with (first | (go_at_call 17; refine (NX.out _).mono ?_; rintro e w6 ⟨rfl, rfl⟩; rw [e1]) | (go_at_call 18; refine (GX.out _ (HT.out.below hbb5).1.1).mono ?_; rintro e w7 ⟨rfl, hb7⟩; rw [e2]))
            go_ret2
            exact ⟨_, rfl, below_then hbb5 hbb5.size hb7, .inr ⟨hno, 4, rfl, by decide⟩⟩
          | true =>
            have hyes : okA (x1, x2) = true := by rw [hok, e1, e2]; rfl
            go_upto_region 10 with (first | (go_at_call 17; refine (NX.out _).mono ?_; rintro e w6 ⟨rfl, rfl⟩; rw [e1]) | (go_at_call 18; refine (GX.out _ (HT.out.below hbb5).1.1).mono ?_; rintro e w7 ⟨rfl, hb7⟩; rw [e2]))
            have hbox7 := (hb7.block _ (blk_lt hbox)).trans hbox
            have hB7 := hB5.kept hb7
            have hbb7 := below_then hbb5 hbb5.size hb7
            have c7 := blk_cell hbox7 0
            have d7 := blk_cell hbox7 1
            have n1 : ¬ 9223372036854775807 < 1 + (mkS x1).size := by omega
            have n2 : ¬ 9223372036854775807 < 1 + (mkS x1).size + 2 := by omega
            have n3 : ¬ 9223372036854775807 < 1 + (mkS x1).size + 2 + (mkS (escB true x2)).size := by omega
            have n4 : ¬ 9223372036854775807 < 1 + (mkS x1).size + 2 + (mkS (escB true x2)).size + 1 := by omega
            have WX := Lib.hid (fun W h h' => writeString_calls W w.heap.size w.heap.size acc ((⟨#[32]⟩ : ByteArray) ++ mkS x1 ++ ⟨#[61, 34]⟩ ++ mkS (escB true x2) ++ ⟨#[34]⟩) h (by rw [← len_toL, hts]; omega) h')
            rw [hts] at WX
            have HB7 := Lib.hid hB7
            clear hB hB5 hB7 hts c0 c1 hbox b0 b1
            first
              | go_region_law (first | (go_simp; go_at_call 33; refine (EX.out _ (HT.out.below (below_drewN hbb7 1))).mono ?_; rintro e w8 ⟨rfl, hb8⟩; have hbox8 := (hb8.block _ (blk_lt hbox7)).trans hbox7; have c8 := blk_cell hbox8 0; have d8 := blk_cell hbox8 1; have hbb8 := below_then (below_drewN hbb7 1) hbb7.size hb8; have hB8 := (HB7.out.kept (below_drewN (Below.refl _ _) 1)).kept hb8) | (go_simp; go_at_call 32; refine (WX.out _ hB8 hbb8.size).mono ?_; rintro e w9 ⟨rfl, hB9, hb9⟩))
              | fail
            all_goals (
              go_wp2_with fail
              go_roundw
              case rel => exact ⟨k + 1, acc ++ attrText (x1, x2), by omega, by go_num, by rw [List.length_append]; omega, hB9, hbb8.trans hb9, Lib.hid (by rw [HA.out, HTK.out]; simp), Lib.hid (fun a ha => by
                rw [HTK.out] at ha
                rcases List.mem_append.1 ha with ha | ha
                · exact HO.out a ha
                · rw [List.mem_singleton.1 ha]; exact hyes)⟩
              case measure => simp [intOf]; omega)
      · have hall : ∀ a ∈ l, okA a = true := fun a ha => HO.out a (by rw [List.take_of_length_le (by omega)]; exact ha)
        have htxt : acc = 60 :: (s.data.toList ++ l.flatMap attrText) := by rw [HA.out, List.take_of_length_le (by omega)]
        have htl : acc.length ≤ 6300 * 41 := by omega
        have hla := HLL.out.below hb
        by_cases hap : apartL l
        · have TC : Hid (Calls Tryz.prog 34 #[.slice A l.length c] wo fun e w' => e = .returned (.bool false) ∧ Below wo.heap.size wo w') := Lib.hid ((twice_calls wo A c l hla (by omega)).mono fun e w' ⟨b, he, hbi, hb⟩ => ⟨by rw [he, hbi.2 hap], hb⟩)
          by_cases h12 : 12 < l.length
          · have h12' : (12 : Int) < l.length := by omega
            have hno : ¬ openOK s.data.toList l := fun h => by have := h.2.2.2; omega
            clear hla hac htl
            go_wp2_with (go_at_call 34; refine TC.out.mono ?_; rintro e w2 ⟨rfl, hb2⟩)
            go_ret2
            exact ⟨_, rfl, below_then hb hb.size hb2, .inr ⟨hno, 2, rfl, by decide⟩⟩
          · have h12' : (l.length : Int) ≤ 12 := by omega
            have hyes : openOK s.data.toList l := ⟨hn, hall, hap, by omega⟩
            have hB2 := Lib.hid hB
            have WB := Lib.hid (fun W h h' => writeByte_calls W w.heap.size w.heap.size acc 62 h (by omega) h')
            have SB := Lib.hid (fun W h h' => builderString_calls W w.heap.size w.heap.size (acc ++ [62]) h h')
            clear hla hac htl hB
            go_wp2_with (first | (go_at_call 34; refine TC.out.mono ?_; rintro e w2 ⟨rfl, hb2⟩) | (go_at_call 35; refine (WB.out _ (hB2.out.kept hb2) (by have := hb.size; have := hb2.size; omega)).mono ?_; rintro e w3 ⟨rfl, hB3, hb3⟩) | (go_at_call 36; refine (SB.out _ hB3 ((below_then hb hb.size hb2).trans hb3).size).mono ?_; rintro e w4 ⟨rfl, hb4⟩))
            go_ret2
            have hbb := below_then hb hb.size hb2
            exact ⟨_, rfl, (hbb.trans hb3).trans hb4, .inl ⟨hyes, by rw [openText]; rfl⟩⟩
        · have TC : Hid (Calls Tryz.prog 34 #[.slice A l.length c] wo fun e w' => e = .returned (.bool true) ∧ Below wo.heap.size wo w') := Lib.hid ((twice_calls wo A c l hla (by omega)).mono fun e w' ⟨b, he, hbi, hb⟩ => ⟨by
            cases b with
            | true => exact he
            | false => exact absurd (hbi.1 rfl) hap, hb⟩)
          have hno : ¬ openOK s.data.toList l := fun h => hap h.2.2.1
          clear hla hac htl
          go_wp2_with (go_at_call 34; refine TC.out.mono ?_; rintro e w2 ⟨rfl, hb2⟩)
          go_ret2
          exact ⟨_, rfl, below_then hb hb.size hb2, .inr ⟨hno, 8, rfl, by decide⟩⟩

end Go.Proofs.YthfkldheflmlmaaGreatDoor
