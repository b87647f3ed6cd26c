/- Walk of the lexer: tag. -/
import Derived.Test.YthfkldheflmlmaaGreatDoorAdd
namespace Go.Proofs.YthfkldheflmlmaaGreatDoor
open Go.RowKit

/-- A token. -/
structure TokM where
  k : Int
  name : List UInt8
  attrs : List AttrT
  self : Bool
  text : List UInt8
def zeroTok : TokM := ⟨0, [], [], false, []⟩
def TokV (w : World) (B : Nat) (t : TokM) (v : Value) : Prop :=
  ∃ va, v = .agg #[.int .i64 t.k, .string (mkS t.name), va, .bool t.self, .string (mkS t.text)] ∧ w.ownsRow B 48 2 va t.attrs.length (attrCells t.attrs)

/-- A tag's parts, from behind its name on: its attributes, does it end itself, and where it ends; none: the text ends in it. -/
def tagGo : Nat → List AttrT → List UInt8 → Nat → Option (List AttrT × Bool × Nat)
  | 0, _, _, _ => none
  | f + 1, ats, l, p =>
    if (l.drop (spN l)).isEmpty then none
    else if Lib.hasPrefix (l.drop (spN l)) [47, 62] then some (ats, true, p + spN l + 2)
    else if Lib.hasPrefix (l.drop (spN l)) [62] then some (ats, false, p + spN l + 1)
    else if Lib.hasPrefix (l.drop (spN l)) [47] then tagGo f ats (l.drop (spN l + 1)) (p + spN l + 1)
    else if (attrL (l.drop (spN l))).2.1 then tagGo f (addL ats (attrL (l.drop (spN l))).1) (l.drop (spN l + (attrL (l.drop (spN l))).2.2)) (p + spN l + (attrL (l.drop (spN l))).2.2)
    else none
def tagRes (kind : Int) (nm : List UInt8) (len : Nat) : Option (List AttrT × Bool × Nat) → TokM × Nat
  | some (ats, self, e) => (if kind = 2 then ⟨kind, nm, [], false, []⟩ else ⟨kind, nm, ats, self, []⟩, e)
  | none => (zeroTok, len)
def tagL (kind : Int) (l : List UInt8) : TokM × Nat :=
  tagRes kind (lowL (l.take (untN nameStops l))) l.length (tagGo (l.length + 1) [] (l.drop (untN nameStops l)) (untN nameStops l))

theorem own_keep {w w' : World} {O : Nat → Prop} {B n : Nat} {e : TypeId} {size : Nat} {v : Value} {xs : List Value} (h : w.ownsRow B e size v n xs) (hc : Ch O w w') (hO : ∀ i, B ≤ i → i < w.heap.size → ¬ O i) : w'.ownsRow B e size v n xs := by
  refine ⟨h.1, ?_⟩
  rcases h.2 with hn | ⟨g, cap, cur, rfl, hb, hg, rest⟩
  · exact .inl hn
  · exact .inr ⟨g, cap, cur, rfl, hb, hc.blk hg (hO g hb (blk_lt hg)), rest⟩
theorem own_lower {w : World} {B B' n : Nat} {e : TypeId} {size : Nat} {v : Value} {xs : List Value} (h : w.ownsRow B e size v n xs) (hB : B' ≤ B) : w.ownsRow B' e size v n xs := by
  refine ⟨h.1, ?_⟩
  rcases h.2 with hn | ⟨g, cap, cur, rfl, hb, hg, rest⟩
  · exact .inl hn
  · exact .inr ⟨g, cap, cur, rfl, by omega, hg, rest⟩
theorem TokAt.keep {w w' : World} {O : Nat → Prop} {B tb : Nat} {k : Int} {name : ByteArray} {v : Value} {l : List AttrT} {self : Bool} (h : TokAt w B tb k name v l self) (hc : Ch O w w') (h1 : ¬ O tb) (hO : ∀ i, B ≤ i → i < w.heap.size → ¬ O i) :
    TokAt w' B tb k name v l self := ⟨hc.blk h.1 h1, own_keep h.2 hc hO⟩
theorem TokAt.drewN {w : World} {B tb : Nat} {k : Int} {name : ByteArray} {v : Value} {l : List AttrT} {self : Bool} (h : TokAt w B tb k name v l self) (n : Nat) : TokAt (w.drewN n) B tb k name v l self := h
theorem attrL_pos (l : List UInt8) : 1 ≤ (attrL l).2.2 := by
  unfold attrL
  dsimp only
  split <;> simp <;> omega
theorem attrL_le (l : List UInt8) (h : 0 < l.length) : (attrL l).2.2 ≤ l.length := by
  unfold attrL
  have h1 := untN_le attrStops (l.drop 1)
  have h2 := spN_le (l.drop (1 + untN attrStops (l.drop 1)))
  have h3 := valL_le (l.drop (1 + untN attrStops (l.drop 1) + spN (l.drop (1 + untN attrStops (l.drop 1))) + 1))
  rw [List.length_drop] at h1 h2 h3
  dsimp only
  split
  · rename_i hh
    have := headIs_ne hh
    rw [List.length_drop] at this
    dsimp only
    omega
  · dsimp only
    omega
theorem addL_len (l : List AttrT) (a : AttrT) : (addL l a).length ≤ l.length + 1 := by
  rw [addL]
  split <;> simp
theorem hasPrefix_two {l : List UInt8} {a b : UInt8} (h : Lib.hasPrefix l [a, b] = true) : 2 ≤ l.length := by
  rcases l with _ | ⟨x, _ | ⟨y, t⟩⟩
  · cases h
  · simp [Lib.hasPrefix] at h
  · simp
theorem hasPrefix_pos {l : List UInt8} {a : UInt8} (h : Lib.hasPrefix l [a] = true) : 1 ≤ l.length := by
  rcases l with _ | ⟨x, t⟩
  · cases h
  · simp
theorem zero_owns (w : World) (B : Nat) (e : TypeId) (size : Nat) : w.ownsRow B e size (.slice none 0 0) 0 [] := World.ownsRow_nil w B e size

set_option maxRecDepth 100000 in
set_option maxHeartbeats 4000000 in
theorem tag_calls (w : World) (g : Nat) (s : ByteArray) (i : Nat) (kind : Int) (h : LexAt w g s i) (hi : i ≤ s.size) (hg : nG ≤ g) (ht : Tab w) (hs : s.size ≤ 10000000) :
    Calls Tryz.prog 25 #[.pointer (some ⟨g, 0, none⟩), .int .i64 kind] w fun e w' =>
      ∃ v, e = .returned v ∧ TokV w' w.heap.size (tagL kind (s.data.toList.drop i)).1 v ∧ LexAt w' g s (i + (tagL kind (s.data.toList.drop i)).2) ∧ Ch (· = g) w w' := by
  have hlt := h.lt
  have HL := Lib.hid h
  have HT := Lib.hid ht
  clear h ht
  have UC := Lib.hid (fun w h => until_calls w g s (mkS nameStops) i h hi (by omega))
  rw [of_mkS] at UC
  obtain ⟨L, hL⟩ : ∃ L, L = s.data.toList.drop i := ⟨_, rfl⟩
  have hlen : L.length = s.size - i := by rw [hL, List.length_drop, len_toL]
  rw [← hL] at UC ⊢
  obtain ⟨n, hn⟩ : ∃ n, n = untN nameStops L := ⟨_, rfl⟩
  have hnl : n ≤ L.length := by rw [hn]; exact untN_le _ _
  obtain ⟨G, hG⟩ : ∃ G, G = tagGo (L.length + 1) [] (L.drop n) n := ⟨_, rfl⟩
  have htl : tagL kind L = tagRes kind (lowL (L.take n)) L.length G := by rw [tagL, ← hn, hG]
  have HGG := Lib.hid hG
  rw [← hn] at UC
  have LC := Lib.hid (fun w => lower_calls w (mkS (L.take n)) (by rw [size_mkS, List.length_take]; omega))
  rw [of_mkS] at LC
  have HTL := Lib.hid htl
  have HLL := Lib.hid hL
  have HLEN := Lib.hid hlen
  clear htl hL hn hlen hG
  go_enter Tryz.func25, Tryz.ntmps25
  go_wp2
  go_step3
  go_wp2_with (first | (go_at_call 51; refine (UC.out _ (HL.out.below ((Below.refl _ _).alloc (Nat.le_refl _) _))).mono ?_; rintro e w1 ⟨rfl, hL1, hc1⟩) | (go_at_call 49; refine (LC.out _).mono ?_; rintro e w2 ⟨rfl, hb2⟩))
  go_step3
  go_wp2
  have hneR : w.heap.size ≠ g := by omega
  have hb1 := hc1.blk (blk_new w _ _) hneR
  have hC2 : Ch (· = g) w w2 := ((Ch.alloc (Ch.refl _ _) _).same hc1).then_below hb2
  have hR2 := blk_below hb1 hb2
  have hRlt := blk_lt hR2
  have hL2 := hL1.below hb2
  have hC3 := hC2.alloc (.cells #[.int .i64 kind, .string (mkS (lowL (L.take n))), .slice none 0 0, .bool false, .string ⟨#[]⟩] 30)
  have hL3 := LexAt.below hL2 ((Below.refl _ _).alloc (Nat.le_refl _) (.cells #[.int .i64 kind, .string (mkS (lowL (L.take n))), .slice none 0 0, .bool false, .string ⟨#[]⟩] 30))
  have hR3 := blk_alloc hR2 (.cells #[.int .i64 kind, .string (mkS (lowL (L.take n))), .slice none 0 0, .bool false, .string ⟨#[]⟩] 30)
  have hT3 : TokAt (w2.alloc (.cells #[.int .i64 kind, .string (mkS (lowL (L.take n))), .slice none 0 0, .bool false, .string ⟨#[]⟩] 30)) (w2.heap.size + 1) w2.heap.size kind (mkS (lowL (L.take n))) (.slice none 0 0) [] false := ⟨blk_new w2 _ _, zero_owns _ _ _ _⟩
  generalize (w2.alloc (.cells #[.int .i64 kind, .string (mkS (lowL (L.take n))), .slice none 0 0, .bool false, .string ⟨#[]⟩] 30)) = w3 at *
  have hRT : w.heap.size < w2.heap.size := hRlt
  have hneTg : w2.heap.size ≠ g := by omega
  generalize w2.heap.size = T at *
  have HL3 := Lib.hid hL3
  have HR3 := Lib.hid hR3
  have HC3 := Lib.hid hC3
  have HT3 := Lib.hid hT3
  clear hL3 hR3 hC3 hT3 hL2 hR2 hC2 hb1 hb2 hc1 hL1 HL
  go_loopg [] (s.size - (i + n)) (fun gk wr => ∃ (k f : Nat) (ats : List AttrT) (va : Value), k ≤ L.length ∧ gk = s.size - (i + k) ∧ ats.length ≤ k ∧ L.length - k < f ∧ LexAt wr g s (i + k) ∧ Ch (· = g) w wr ∧
    wr.heap[w.heap.size]? = some (.cells #[.int .i64 0, .string ⟨#[]⟩, .slice none 0 0, .bool false, .string ⟨#[]⟩] 30 (0, 0)) ∧ TokAt wr (T + 1) T kind (mkS (lowL (L.take n))) va ats false ∧ T < wr.heap.size ∧ Hid (G = tagGo f ats (L.drop k) k))
  case atStart => exact ⟨n, L.length + 1, [], .slice none 0 0, hnl, rfl, Nat.zero_le _, by omega, HL3.out, HC3.out, HR3.out, HT3.out, blk_lt HT3.out.1, HGG⟩
  case round =>
    obtain ⟨k, f, ats, va, hk, rfl, hal, hf, hL, hC, hR, hT, hTlt, HI⟩ := hrel
    obtain ⟨A, c, rfl, hle, _⟩ := own_attrs hT.2
    obtain ⟨f, rfl⟩ : ∃ f', f = f' + 1 := ⟨f - 1, by omega⟩
    have hLEN := HLEN.out
    have hrest : s.data.toList.drop (i + k) = L.drop k := by rw [HLL.out, List.drop_drop]
    have SC := Lib.hid (spaces_calls wr g s (i + k) hL (by omega) (by omega))
    rw [hrest] at SC
    have hsp := spN_le (L.drop k)
    rw [List.length_drop] at hsp
    have hgo := HI.out
    rw [tagGo] at hgo
    simp only [List.drop_drop, ← Nat.add_assoc] at hgo
    obtain ⟨p, hp⟩ : ∃ p, p = k + spN (L.drop k) := ⟨_, rfl⟩
    have hkp : k ≤ p := by omega
    have hpl : p ≤ L.length := by omega
    have ejp : i + k + spN (L.drop k) = i + p := by omega
    rw [ejp] at SC
    rw [← hp] at hgo
    have hrest2 : s.data.toList.drop (i + p) = L.drop p := by rw [HLL.out, List.drop_drop]
    have DC := Lib.hid (fun w h => done_calls w g s (i + p) h)
    have A1 := Lib.hid (fun w h => ahead_calls w g s (mkS [47, 62]) (i + p) h (by omega) (by omega))
    have A2 := Lib.hid (fun w h => ahead_calls w g s (mkS [62]) (i + p) h (by omega) (by omega))
    have A3 := Lib.hid (fun w h => ahead_calls w g s (mkS [47]) (i + p) h (by omega) (by omega))
    rw [of_mkS, hrest2] at A1 A2 A3
    have HG := Lib.hid hgo
    have HLW := Lib.hid hL
    have HR := Lib.hid hR
    have HT := Lib.hid hT
    have HC := Lib.hid hC
    clear hgo hp ejp hrest hL hR hT hC HI hsp
    go_wp2_with (first | (go_at_call 52; refine SC.out.mono ?_; rintro e w1 ⟨rfl, hL1, hc1⟩))
    have hR1 := hc1.blk HR.out hneR
    have hT1 := HT.out.keep hc1 hneTg (fun j hj _ e => by omega)
    have hC1 := HC.out.same hc1
    have hTl1 := blk_lt hT1.1
    have HL1 := Lib.hid hL1
    have HR1 := Lib.hid hR1
    have HT1 := Lib.hid hT1
    have HC1 := Lib.hid hC1
    clear hL1 hR1 hT1 hC1 hc1 SC HLW HR HT HC
    by_cases h0 : L.length ≤ p
    · have hd : decide (s.size ≤ i + p) = true := by simp; omega
      rw [hd] at DC
      have hG : G = none := by rw [HG.out, if_pos (by simp; omega)]
      have hres : tagL kind L = (zeroTok, L.length) := by rw [HTL.out, hG]; rfl
      have HRES := Lib.hid hres
      clear hd hG hres
      have rc := fun j => blk_cell HR1.out j
      have r0 := rc 0
      have r1 := rc 1
      have r2 := rc 2
      have r3 := rc 3
      have r4 := rc 4
      have rf0 := blk_frozen HR1.out 0
      have rf1 := blk_frozen HR1.out 1
      have rf2 := blk_frozen HR1.out 2
      have rf3 := blk_frozen HR1.out 3
      have rf4 := blk_frozen HR1.out 4
      have c0 := HL1.out.c0
      have c1 := HL1.out.c1
      have f1 := HL1.out.f1
      clear rc
      go_wp2_with (first | (go_at_call 23; refine (DC.out _ HL1.out).mono ?_; rintro e w2 ⟨rfl, n2, rfl⟩))
      rw [Exit.noGoto_ret]
      refine bodyPost_ret (v := .agg #[.int .i64 0, .string ⟨#[]⟩, .slice none 0 0, .bool false, .string ⟨#[]⟩]) ?_ rfl ⟨_, rfl, ?_, ?_, ?_⟩
      · simp [results, Tryz.results25, go_sem, r0, r1, r2, r3, r4]
      · rw [HRES.out]
        exact ⟨_, rfl, zero_owns _ _ _ _⟩
      · rw [HRES.out]
        unfold LexAt
        refine blk_far (blk_far (blk_far (blk_far (blk_far ?_ (Ne.symm hneR) _) (Ne.symm hneR) _) (Ne.symm hneR) _) (Ne.symm hneR) _) (Ne.symm hneR) _
        exact LexAt.cast (LexAt.set_ (j := s.size) (HL1.out.drewN _) rfl) (by simp only; omega)
      · refine Ch.setCell (Ch.setCell (Ch.setCell (Ch.setCell (Ch.setCell ?_ (.inr (Nat.le_refl _)) _) (.inr (Nat.le_refl _)) _) (.inr (Nat.le_refl _)) _) (.inr (Nat.le_refl _)) _) (.inr (Nat.le_refl _)) _
        exact (HC1.out.drewN _).setCell (.inl (show g = g from rfl)) _
    · have hd : decide (s.size ≤ i + p) = false := by simp; omega
      rw [hd] at DC
      have hG := HG.out
      rw [if_neg (by simp; omega)] at hG
      clear hd
      have hneRT : w.heap.size ≠ T := by omega
      cases e1 : Lib.hasPrefix (L.drop p) [47, 62] with
      | true =>
        rw [e1] at A1
        rw [if_pos e1] at hG
        have hp2 : p + 2 ≤ L.length := by
          have := hasPrefix_two e1
          rw [List.length_drop] at this
          omega
        have hres : tagL kind L = ((if kind = 2 then ⟨kind, lowL (L.take n), [], false, []⟩ else ⟨kind, lowL (L.take n), ats, true, []⟩), p + 2) := by rw [HTL.out, hG]; rfl
        have HRES := Lib.hid hres
        clear hres hG e1 HG
        have r0 := blk_cell HR1.out 0
        have r1 := blk_cell HR1.out 1
        have r2 := blk_cell HR1.out 2
        have r3 := blk_cell HR1.out 3
        have r4 := blk_cell HR1.out 4
        have rf0 := blk_frozen HR1.out 0
        have rf1 := blk_frozen HR1.out 1
        have rf2 := blk_frozen HR1.out 2
        have rf3 := blk_frozen HR1.out 3
        have rf4 := blk_frozen HR1.out 4
        have t0 := blk_cell HT1.out.1 0
        have t1 := blk_cell HT1.out.1 1
        have t2 := blk_cell HT1.out.1 2
        have t3 := blk_cell HT1.out.1 3
        have t4 := blk_cell HT1.out.1 4
        have tf0 := blk_frozen HT1.out.1 0
        have tf1 := blk_frozen HT1.out.1 1
        have tf2 := blk_frozen HT1.out.1 2
        have tf3 := blk_frozen HT1.out.1 3
        have tf4 := blk_frozen HT1.out.1 4
        have c0 := HL1.out.c0
        have c1 := HL1.out.c1
        have f1 := HL1.out.f1
        by_cases hk2 : kind = 2
        · have hk : (kind == 2) = true := by simp [hk2]
          have HRES : Hid (tagL kind L = (⟨kind, lowL (L.take n), [], false, []⟩, p + 2)) := Lib.hid (by rw [HRES.out, if_pos hk2])
          go_wp2_with (first | (go_at_call 23; refine (DC.out _ HL1.out).mono ?_; rintro e w2 ⟨rfl, n2, rfl⟩))
          refine (A1.out _ (HL1.out.drewN n2)).mono ?_; rintro e w3 ⟨rfl, n3, rfl⟩
          go_wp2
          rw [Exit.noGoto_ret]
          refine bodyPost_ret (v := .agg #[.int .i64 kind, .string (mkS (lowL (L.take n))), .slice none 0 0, .bool false, .string ⟨#[]⟩]) ?_ rfl ⟨_, rfl, ?_, ?_, ?_⟩
          · simp [results, Tryz.results25, go_sem, r0, r1, r2, r3, r4]
            exact hk2.symm
          · rw [HRES.out]
            exact ⟨_, rfl, zero_owns _ _ _ _⟩
          · rw [HRES.out]
            exact LexAt.cast (j := i + (p + 2)) (show LexAt _ g s (i + p + 2) from (blk_far (blk_far (blk_far (blk_far (blk_far (blk_far (blk_far (LexAt.set_ (j := i + p + 2) (LexAt.set_ (j := i + p + 1) (blk_far ((HL1.out.drewN n2).drewN n3) (Ne.symm hneTg) _) (by go_num)) (by go_num)) (Ne.symm hneTg) _) (Ne.symm hneTg) _) (Ne.symm hneR) _) (Ne.symm hneR) _) (Ne.symm hneR) _) (Ne.symm hneR) _) (Ne.symm hneR) _)) rfl
          · exact (Ch.setCell (Ch.setCell (Ch.setCell (Ch.setCell (Ch.setCell (Ch.setCell (Ch.setCell (Ch.setCell (Ch.setCell (Ch.setCell (HC1.out.drewN _) (.inr (Nat.le_of_lt hRT)) _) (.inl (show g = g from rfl)) _) (.inl (show g = g from rfl)) _) (.inr (Nat.le_of_lt hRT)) _) (.inr (Nat.le_of_lt hRT)) _) (.inr (Nat.le_refl _)) _) (.inr (Nat.le_refl _)) _) (.inr (Nat.le_refl _)) _) (.inr (Nat.le_refl _)) _) (.inr (Nat.le_refl _)) _)
        · have hk : (kind == 2) = false := by simp [hk2]
          have HRES : Hid (tagL kind L = (⟨kind, lowL (L.take n), ats, true, []⟩, p + 2)) := Lib.hid (by rw [HRES.out, if_neg hk2])
          go_wp2_with (first | (go_at_call 23; refine (DC.out _ HL1.out).mono ?_; rintro e w2 ⟨rfl, n2, rfl⟩))
          refine (A1.out _ (HL1.out.drewN n2)).mono ?_; rintro e w3 ⟨rfl, n3, rfl⟩
          go_wp2
          rw [Exit.noGoto_ret]
          refine bodyPost_ret (v := .agg #[.int .i64 kind, .string (mkS (lowL (L.take n))), .slice A ats.length c, .bool true, .string ⟨#[]⟩]) ?_ rfl ⟨_, rfl, ?_, ?_, ?_⟩
          · simp [results, Tryz.results25, go_sem, r0, r1, r2, r3, r4]
          · rw [HRES.out]
            exact ⟨_, rfl, own_lower (own_keep (O := fun j => j ≤ T) HT1.out.2 ((Ch.setCell (Ch.setCell (Ch.setCell (Ch.setCell (Ch.setCell (Ch.setCell (Ch.setCell (Ch.setCell ((Ch.refl _ w1).drewN _) (.inl (show T ≤ T from Nat.le_refl _)) _) (.inl (show g ≤ T by omega)) _) (.inl (show g ≤ T by omega)) _) (.inl (show w.heap.size ≤ T by omega)) _) (.inl (show w.heap.size ≤ T by omega)) _) (.inl (show w.heap.size ≤ T by omega)) _) (.inl (show w.heap.size ≤ T by omega)) _) (.inl (show w.heap.size ≤ T by omega)) _)) (fun j hj _ e => by omega)) (by omega)⟩
          · rw [HRES.out]
            exact LexAt.cast (j := i + (p + 2)) (show LexAt _ g s (i + p + 2) from (blk_far (blk_far (blk_far (blk_far (blk_far (LexAt.set_ (j := i + p + 2) (LexAt.set_ (j := i + p + 1) (blk_far ((HL1.out.drewN n2).drewN n3) (Ne.symm hneTg) _) (by go_num)) (by go_num)) (Ne.symm hneR) _) (Ne.symm hneR) _) (Ne.symm hneR) _) (Ne.symm hneR) _) (Ne.symm hneR) _)) rfl
          · exact (Ch.setCell (Ch.setCell (Ch.setCell (Ch.setCell (Ch.setCell (Ch.setCell (Ch.setCell (Ch.setCell (HC1.out.drewN _) (.inr (Nat.le_of_lt hRT)) _) (.inl (show g = g from rfl)) _) (.inl (show g = g from rfl)) _) (.inr (Nat.le_refl _)) _) (.inr (Nat.le_refl _)) _) (.inr (Nat.le_refl _)) _) (.inr (Nat.le_refl _)) _) (.inr (Nat.le_refl _)) _)
      | false =>
        rw [e1] at A1
        rw [if_neg (by rw [e1]; simp)] at hG
        cases e2 : Lib.hasPrefix (L.drop p) [62] with
        | true =>
          rw [e2] at A2
          rw [if_pos e2] at hG
          have hres : tagL kind L = ((if kind = 2 then ⟨kind, lowL (L.take n), [], false, []⟩ else ⟨kind, lowL (L.take n), ats, false, []⟩), p + 1) := by rw [HTL.out, hG]; rfl
          have HRES := Lib.hid hres
          clear hres hG e1 e2 HG
          have r0 := blk_cell HR1.out 0
          have r1 := blk_cell HR1.out 1
          have r2 := blk_cell HR1.out 2
          have r3 := blk_cell HR1.out 3
          have r4 := blk_cell HR1.out 4
          have rf0 := blk_frozen HR1.out 0
          have rf1 := blk_frozen HR1.out 1
          have rf2 := blk_frozen HR1.out 2
          have rf3 := blk_frozen HR1.out 3
          have rf4 := blk_frozen HR1.out 4
          have t0 := blk_cell HT1.out.1 0
          have t1 := blk_cell HT1.out.1 1
          have t2 := blk_cell HT1.out.1 2
          have t3 := blk_cell HT1.out.1 3
          have t4 := blk_cell HT1.out.1 4
          have tf0 := blk_frozen HT1.out.1 0
          have tf1 := blk_frozen HT1.out.1 1
          have tf2 := blk_frozen HT1.out.1 2
          have tf3 := blk_frozen HT1.out.1 3
          have tf4 := blk_frozen HT1.out.1 4
          have c0 := HL1.out.c0
          have c1 := HL1.out.c1
          have f1 := HL1.out.f1
          by_cases hk2 : kind = 2
          · have hk : (kind == 2) = true := by simp [hk2]
            have HRES : Hid (tagL kind L = (⟨kind, lowL (L.take n), [], false, []⟩, p + 1)) := Lib.hid (by rw [HRES.out, if_pos hk2])
            go_wp2_with (first | (go_at_call 23; refine (DC.out _ HL1.out).mono ?_; rintro e w2 ⟨rfl, n2, rfl⟩))
            refine (A1.out _ (HL1.out.drewN n2)).mono ?_; rintro e w3 ⟨rfl, n3, rfl⟩
            go_wp2_with fail
            refine (A2.out _ (HL1.out.drewN _)).mono ?_; rintro e w4 ⟨rfl, n4, rfl⟩
            go_wp2
            rw [Exit.noGoto_ret]
            refine bodyPost_ret (v := .agg #[.int .i64 kind, .string (mkS (lowL (L.take n))), .slice none 0 0, .bool false, .string ⟨#[]⟩]) ?_ rfl ⟨_, rfl, ?_, ?_, ?_⟩
            · simp [results, Tryz.results25, go_sem, r0, r1, r2, r3, r4]
              exact hk2.symm
            · rw [HRES.out]
              exact ⟨_, rfl, zero_owns _ _ _ _⟩
            · rw [HRES.out]
              exact LexAt.cast (j := i + (p + 1)) (show LexAt _ g s (i + p + 1) from (blk_far (blk_far (blk_far (blk_far (blk_far (blk_far (blk_far (LexAt.set_ (j := i + p + 1) (HL1.out.drewN _) (by go_num)) (Ne.symm hneTg) _) (Ne.symm hneTg) _) (Ne.symm hneR) _) (Ne.symm hneR) _) (Ne.symm hneR) _) (Ne.symm hneR) _) (Ne.symm hneR) _)) rfl
            · exact (Ch.setCell (Ch.setCell (Ch.setCell (Ch.setCell (Ch.setCell (Ch.setCell (Ch.setCell (Ch.setCell (HC1.out.drewN _) (.inl (show g = g from rfl)) _) (.inr (Nat.le_of_lt hRT)) _) (.inr (Nat.le_of_lt hRT)) _) (.inr (Nat.le_refl _)) _) (.inr (Nat.le_refl _)) _) (.inr (Nat.le_refl _)) _) (.inr (Nat.le_refl _)) _) (.inr (Nat.le_refl _)) _)
          · have hk : (kind == 2) = false := by simp [hk2]
            have HRES : Hid (tagL kind L = (⟨kind, lowL (L.take n), ats, false, []⟩, p + 1)) := Lib.hid (by rw [HRES.out, if_neg hk2])
            go_wp2_with (first | (go_at_call 23; refine (DC.out _ HL1.out).mono ?_; rintro e w2 ⟨rfl, n2, rfl⟩))
            refine (A1.out _ (HL1.out.drewN n2)).mono ?_; rintro e w3 ⟨rfl, n3, rfl⟩
            go_wp2_with fail
            refine (A2.out _ (HL1.out.drewN _)).mono ?_; rintro e w4 ⟨rfl, n4, rfl⟩
            go_wp2
            rw [Exit.noGoto_ret]
            refine bodyPost_ret (v := .agg #[.int .i64 kind, .string (mkS (lowL (L.take n))), .slice A ats.length c, .bool false, .string ⟨#[]⟩]) ?_ rfl ⟨_, rfl, ?_, ?_, ?_⟩
            · simp [results, Tryz.results25, go_sem, r0, r1, r2, r3, r4]
            · rw [HRES.out]
              exact ⟨_, rfl, own_lower (own_keep (O := fun j => j ≤ T) HT1.out.2 ((Ch.setCell (Ch.setCell (Ch.setCell (Ch.setCell (Ch.setCell (Ch.setCell ((Ch.refl _ w1).drewN _) (.inl (show g ≤ T by omega)) _) (.inl (show w.heap.size ≤ T by omega)) _) (.inl (show w.heap.size ≤ T by omega)) _) (.inl (show w.heap.size ≤ T by omega)) _) (.inl (show w.heap.size ≤ T by omega)) _) (.inl (show w.heap.size ≤ T by omega)) _)) (fun j hj _ e => by omega)) (by omega)⟩
            · rw [HRES.out]
              exact LexAt.cast (j := i + (p + 1)) (show LexAt _ g s (i + p + 1) from (blk_far (blk_far (blk_far (blk_far (blk_far (LexAt.set_ (j := i + p + 1) (HL1.out.drewN _) (by go_num)) (Ne.symm hneR) _) (Ne.symm hneR) _) (Ne.symm hneR) _) (Ne.symm hneR) _) (Ne.symm hneR) _)) rfl
            · exact (Ch.setCell (Ch.setCell (Ch.setCell (Ch.setCell (Ch.setCell (Ch.setCell (HC1.out.drewN _) (.inl (show g = g from rfl)) _) (.inr (Nat.le_refl _)) _) (.inr (Nat.le_refl _)) _) (.inr (Nat.le_refl _)) _) (.inr (Nat.le_refl _)) _) (.inr (Nat.le_refl _)) _)
        | false =>
          rw [e2] at A2
          rw [if_neg (by rw [e2]; simp)] at hG
          cases e3 : Lib.hasPrefix (L.drop p) [47] with
          | true =>
            rw [e3] at A3
            rw [if_pos e3] at hG
            have hp1 : p + 1 ≤ L.length := by
              have := hasPrefix_pos e3
              rw [List.length_drop] at this
              omega
            have HG2 := Lib.hid hG
            clear hG e1 e2 e3 HG
            have c0 := HL1.out.c0
            have c1 := HL1.out.c1
            have f1 := HL1.out.f1
            go_wp2_with (first | (go_at_call 23; refine (DC.out _ HL1.out).mono ?_; rintro e w2 ⟨rfl, n2, rfl⟩))
            refine (A1.out _ (HL1.out.drewN n2)).mono ?_; rintro e w3 ⟨rfl, n3, rfl⟩
            go_wp2_with fail
            refine (A2.out _ (HL1.out.drewN _)).mono ?_; rintro e w4 ⟨rfl, n4, rfl⟩
            go_wp2_with fail
            refine (A3.out _ (HL1.out.drewN _)).mono ?_; rintro e w5 ⟨rfl, n5, rfl⟩
            go_wp2
            go_roundg (s.size - (i + (p + 1)))
            case measure => omega
            case rel => exact ⟨p + 1, f, ats, .slice A ats.length c, hp1, rfl, by omega, by omega, LexAt.set_ (HL1.out.drewN _) (by go_num), Ch.setCell (HC1.out.drewN _) (.inl (show g = g from rfl)) _, blk_far HR1.out hneR _, TokAt.keep HT1.out (O := (· = g)) (Ch.setCell ((Ch.refl _ w1).drewN _) (.inl (show g = g from rfl)) _) hneTg (fun j hj _ e => by omega), by simpa using hTl1, HG2⟩
          | false =>
            rw [e3] at A3
            rw [if_neg (by rw [e3]; simp)] at hG
            have hps : i + p < s.size := by omega
            have AC := Lib.hid (fun w h h' => attr_calls w g s (i + p) h hps hg h' hs)
            rw [hrest2] at AC
            have hap := attrL_pos (L.drop p)
            have hal2 := attrL_le (L.drop p) (by rw [List.length_drop]; omega)
            rw [List.length_drop] at hal2
            obtain ⟨a, ha⟩ : ∃ a, a = attrL (L.drop p) := ⟨_, rfl⟩
            rw [← ha] at AC hG hap hal2
            have HG2 := Lib.hid hG
            have hTw := HT.out
            have HTB := Lib.hid (Tab.lex hTw HC1.out hg)
            clear hG e1 e2 e3 HG ha hTw
            cases hok : a.2.1 with
            | false =>
              rw [hok] at AC
              have hGn : G = none := by rw [HG2.out, hok]; rfl
              have hres : tagL kind L = (zeroTok, L.length) := by rw [HTL.out, hGn]; rfl
              have HRES := Lib.hid hres
              clear hres hGn HG2
              go_wp2_with (first | (go_at_call 23; refine (DC.out _ HL1.out).mono ?_; rintro e w2 ⟨rfl, n2, rfl⟩))
              refine (A1.out _ (HL1.out.drewN n2)).mono ?_; rintro e w3 ⟨rfl, n3, rfl⟩
              go_wp2_with fail
              refine (A2.out _ (HL1.out.drewN _)).mono ?_; rintro e w4 ⟨rfl, n4, rfl⟩
              go_wp2_with fail
              refine (A3.out _ (HL1.out.drewN _)).mono ?_; rintro e w5 ⟨rfl, n5, rfl⟩
              go_wp2_with fail
              refine (AC.out _ (HL1.out.drewN _) (HTB.out.below (below_drewN (Below.refl _ _) _))).mono ?_
              rintro e w6 ⟨rfl, hL6, hc6⟩
              have hR6 := hc6.blk (show (w1.drewN _).heap[w.heap.size]? = _ from HR1.out) hneR
              have hC6 := (HC1.out.drewN _).same hc6
              have HL6 := Lib.hid hL6
              have HR6 := Lib.hid hR6
              have HC6 := Lib.hid hC6
              have hRl6 := blk_lt hR6
              clear hL6 hR6 hC6 hc6
              have r0 := blk_cell HR6.out 0
              have r1 := blk_cell HR6.out 1
              have r2 := blk_cell HR6.out 2
              have r3 := blk_cell HR6.out 3
              have r4 := blk_cell HR6.out 4
              have rf0 := blk_frozen HR6.out 0
              have rf1 := blk_frozen HR6.out 1
              have rf2 := blk_frozen HR6.out 2
              have rf3 := blk_frozen HR6.out 3
              have rf4 := blk_frozen HR6.out 4
              have c0 := HL6.out.c0
              have c1 := HL6.out.c1
              have f1 := HL6.out.f1
              have hgl := HL6.out.lt
              go_wp2
              rw [Exit.noGoto_ret]
              refine bodyPost_ret (v := .agg #[.int .i64 0, .string ⟨#[]⟩, .slice none 0 0, .bool false, .string ⟨#[]⟩]) ?_ rfl ⟨_, rfl, ?_, ?_, ?_⟩
              · simp [results, Tryz.results25, go_sem, r0, r1, r2, r3, r4, hRl6]
              · rw [HRES.out]
                exact ⟨_, rfl, zero_owns _ _ _ _⟩
              · rw [HRES.out]
                exact LexAt.cast (j := i + L.length) (blk_alloc (show LexAt _ g s s.size from (blk_far (blk_far (blk_far (blk_far (blk_far (LexAt.set_ HL6.out rfl) (Ne.symm hneR) _) (Ne.symm hneR) _) (Ne.symm hneR) _) (Ne.symm hneR) _) (Ne.symm hneR) _)) _) (by omega)
              · exact Ch.alloc (Ch.setCell (Ch.setCell (Ch.setCell (Ch.setCell (Ch.setCell (Ch.setCell HC6.out (.inl (show g = g from rfl)) _) (.inr (Nat.le_refl _)) _) (.inr (Nat.le_refl _)) _) (.inr (Nat.le_refl _)) _) (.inr (Nat.le_refl _)) _) (.inr (Nat.le_refl _)) _) _
            | true =>
              rw [hok] at AC
              have hG3 : G = tagGo f (addL ats a.1) (L.drop (p + a.2.2)) (p + a.2.2) := by rw [HG2.out, hok]; rfl
              have HG3 := Lib.hid hG3
              clear hG3 HG2
              go_wp2_with (first | (go_at_call 23; refine (DC.out _ HL1.out).mono ?_; rintro e w2 ⟨rfl, n2, rfl⟩))
              refine (A1.out _ (HL1.out.drewN n2)).mono ?_; rintro e w3 ⟨rfl, n3, rfl⟩
              go_wp2_with fail
              refine (A2.out _ (HL1.out.drewN _)).mono ?_; rintro e w4 ⟨rfl, n4, rfl⟩
              go_wp2_with fail
              refine (A3.out _ (HL1.out.drewN _)).mono ?_; rintro e w5 ⟨rfl, n5, rfl⟩
              go_wp2_with fail
              refine (AC.out _ (HL1.out.drewN _) (HTB.out.below (below_drewN (Below.refl _ _) _))).mono ?_
              rintro e w6 ⟨rfl, hL6, hc6⟩
              have hR6 := hc6.blk (show (w1.drewN _).heap[w.heap.size]? = _ from HR1.out) hneR
              have hT6 := TokAt.keep (HT1.out.drewN _) hc6 hneTg (fun j hj _ e => by omega)
              have hC6 := (HC1.out.drewN _).same hc6
              have HL6 := Lib.hid hL6
              have HR6 := Lib.hid hR6
              have HT6 := Lib.hid hT6
              have HC6 := Lib.hid hC6
              have hRl6 := blk_lt hR6
              have hTl6 := blk_lt hT6.1
              clear hL6 hR6 hC6 hc6 hT6
              go_wp2_with fail
              refine (add_calls _ (T + 1) T kind (mkS (lowL (L.take n))) (.slice A ats.length c) ats false a.1 (TokAt.keep HT6.out (O := fun _ => False) ((Ch.refl _ _).alloc _) (fun e => e) (fun j _ _ e => e)) (by omega) (by simp; omega) (by omega)).mono ?_
              rintro e w7 ⟨rfl, va, hT7, hc7⟩
              have hT7l := blk_lt hT7.1
              have HT7 := Lib.hid hT7
              have HC7 := Lib.hid hc7
              clear hT7 hc7
              go_wp2
              go_roundg (s.size - (i + (p + a.2.2)))
              case measure => omega
              case rel =>
                have hc6 := (HC6.out.alloc (.cells #[.string (mkS a.1.1), .string (mkS a.1.2)] 48)).trans HC7.out (fun j hj e => by exact absurd e (by omega))
                have hadd := addL_len ats a.1
                exact ⟨p + a.2.2, f, addL ats a.1, va, by omega, rfl, by omega, by omega, LexAt.cast ((LexAt.below HL6.out ((Below.refl _ _).alloc (Nat.le_refl _) _)).keep HC7.out (by omega)) (by omega), hc6, HC7.out.blk (blk_alloc HR6.out _) (by omega), HT7.out, hT7l, HG3⟩

end Go.Proofs.YthfkldheflmlmaaGreatDoor
