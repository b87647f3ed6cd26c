/- A tag that was written is read as just that tag: plain facts. -/
import Derived.Test.YthfkldheflmlmaaDoorRawB1
namespace Go.Proofs.YthfkldheflmlmaaDoor
open Go.RowKit Go.Lib

theorem escOne_no34 (b : UInt8) : (34 : UInt8) ∉ escOne true b := by
  unfold escOne
  split
  · decide
  · split
    · decide
    · split
      · decide
      · split
        · decide
        · rename_i h
          simpa using fun e : (34 : UInt8) = b => h ⟨e.symm, rfl⟩
theorem escB_no34 : ∀ (n : Nat) (l : List UInt8), l.length ≤ n → (34 : UInt8) ∉ escB true l
  | 0, l, h => by
    have : l = [] := List.length_eq_zero_iff.mp (by omega)
    rw [this]; simp [escB]
  | n + 1, [], _ => by simp [escB]
  | n + 1, [b], _ => by rw [escB]; exact escOne_no34 b
  | n + 1, b :: b' :: l, h => by
    have h1 := escB_no34 n l (by simp at h; omega)
    have h2 := escB_no34 n (b' :: l) (by simp at h ⊢; omega)
    rw [escB]
    split
    · intro hm
      rcases List.mem_append.1 hm with hm | hm
      · revert hm; decide
      · exact h1 hm
    · intro hm
      rcases List.mem_append.1 hm with hm | hm
      · exact escOne_no34 b hm
      · exact h2 hm
theorem nameI_attr (b : UInt8) (h : nameI b.toNat = true) : attrStops.contains b = false ∧ spaceI b.toNat = false ∧ b ≠ 47 ∧ b ≠ 62 := by
  revert b
  have : ∀ n : Fin 256, nameI ((UInt8.ofNat n.1).toNat : Int) = true → attrStops.contains (UInt8.ofNat n.1) = false ∧ spaceI ((UInt8.ofNat n.1).toNat : Int) = false ∧ UInt8.ofNat n.1 ≠ 47 ∧ UInt8.ofNat n.1 ≠ 62 := by decide +kernel
  intro b
  simpa using this ⟨b.toNat, b.toNat_lt⟩
theorem valL_quote (e r : List UInt8) (h : (34 : UInt8) ∉ e) : valL (34 :: (e ++ 34 :: r)) = (allL e true, true, 1 + e.length + 1) := by
  have hs : spN (34 :: (e ++ 34 :: r)) = 0 := by rw [spN_cons]; rfl
  have hu : untN [34] (e ++ 34 :: r) = e.length := untN_eq [34] _ _ (fun c hc => by
    rw [List.take_left] at hc
    have : c ≠ 34 := fun e' => h (by rw [← e']; exact hc)
    simpa using this) ⟨34, r, by rw [List.drop_left], by decide⟩
  rw [valL, hs, List.drop_zero, val1L, if_pos (by rfl)]
  have e1 : (34 :: (e ++ 34 :: r) : List UInt8).take 1 = [34] := rfl
  have e2 : (34 :: (e ++ 34 :: r) : List UInt8).drop 1 = e ++ 34 :: r := rfl
  rw [e1, e2, hu, if_neg (by simp), List.take_left]
  simp
theorem attrL_written (a : AttrT) (r : List UInt8) (hn : nameL a.1 = true) (hr : rightL a.2 = true) :
    attrL (a.1 ++ 61 :: 34 :: (escB true a.2 ++ 34 :: r)) = (a, true, a.1.length + 1 + (1 + (escB true a.2).length + 1)) := by
  obtain ⟨n, v⟩ := a
  simp only at *
  have hp := name_parts hn
  obtain ⟨b, t, rfl⟩ : ∃ b t, n = b :: t := by
    cases n with
    | nil => exact absurd rfl hp.1
    | cons b t => exact ⟨b, t, rfl⟩
  have hu : untN attrStops (t ++ 61 :: 34 :: (escB true v ++ 34 :: r)) = t.length := untN_eq attrStops _ _ (fun c hc => by
    rw [List.take_left] at hc
    exact (nameI_attr c (hp.2.2.2 c (by simp [hc]))).1) ⟨61, _, by rw [List.drop_left], by decide⟩
  have hd : ((b :: t) ++ 61 :: 34 :: (escB true v ++ 34 :: r)).drop 1 = t ++ 61 :: 34 :: (escB true v ++ 34 :: r) := rfl
  have hdk : ((b :: t) ++ 61 :: 34 :: (escB true v ++ 34 :: r)).drop (1 + t.length) = 61 :: 34 :: (escB true v ++ 34 :: r) := by
    rw [show 1 + t.length = (b :: t).length by simp; omega, List.drop_left]
  have htk : ((b :: t) ++ 61 :: 34 :: (escB true v ++ 34 :: r)).take (1 + t.length) = b :: t := by
    rw [show 1 + t.length = (b :: t).length by simp; omega, List.take_left]
  have hs : spN (61 :: 34 :: (escB true v ++ 34 :: r)) = 0 := by rw [spN_cons]; rfl
  have hq := valL_quote (escB true v) r (escB_no34 _ v (Nat.le_refl _))
  have hdz : ((b :: t) ++ 61 :: 34 :: (escB true v ++ 34 :: r)).drop (1 + t.length + 1) = 34 :: (escB true v ++ 34 :: r) := by
    rw [← List.drop_drop, hdk]; rfl
  rw [attrL, hd, hu, hdk, hs, Nat.add_zero, hdk, if_pos (by rfl), hdz, hq, htk, name_low hn, all_esc true _ v (Nat.le_refl _) hr]
  simp only [List.length_cons]
  congr 2
  omega

theorem okA_parts {a : AttrT} (h : okA a = true) : nameL a.1 = true ∧ rightL a.2 = true := by
  rw [okA, goodL] at h
  simp only [Bool.and_eq_true] at h
  exact ⟨h.1, h.2.1⟩
theorem tagGo_written : ∀ (l : List AttrT) (ats : List AttrT) (f p : Nat) (behind : List UInt8), (∀ a ∈ l, okA a = true) → (ats ++ l).Pairwise (fun x y => x.1 ≠ y.1) → l.length < f →
    tagGo f ats (l.flatMap attrText ++ 62 :: behind) p = some (ats ++ l, false, p + (l.flatMap attrText).length + 1)
  | [], ats, f, p, behind, _, _, hf => by
    obtain ⟨f, rfl⟩ : ∃ f', f = f' + 1 := ⟨f - 1, by simp at hf; omega⟩
    have hs : spN (62 :: behind) = 0 := by rw [spN_cons]; rfl
    rw [List.flatMap_nil, List.nil_append, tagGo, hs]
    simp [hasPrefix, List.isPrefixOf]
  | a :: l, ats, f, p, behind, hok, hap, hf => by
    obtain ⟨f, rfl⟩ : ∃ f', f = f' + 1 := ⟨f - 1, by simp at hf; omega⟩
    obtain ⟨hn, hr⟩ := okA_parts (hok a (by simp))
    have ih := tagGo_written l (ats ++ [a]) f (p + 1 + (a.1.length + 1 + (1 + (escB true a.2).length + 1))) behind (fun x hx => hok x (by simp [hx])) (by simpa using hap) (by simp at hf; omega)
    obtain ⟨R, hR⟩ : ∃ R, R = l.flatMap attrText ++ 62 :: behind := ⟨_, rfl⟩
    have hT : (a :: l).flatMap attrText ++ 62 :: behind = 32 :: (a.1 ++ 61 :: 34 :: (escB true a.2 ++ 34 :: R)) := by rw [hR]; simp [attrText]
    have hA := attrL_written a R hn hr
    have hlen : (a.1 ++ 61 :: 34 :: (escB true a.2 ++ 34 :: R)).drop (a.1.length + 1 + (1 + (escB true a.2).length + 1)) = R := by
      have e : (a.1 ++ 61 :: 34 :: (escB true a.2 ++ 34 :: R) : List UInt8) = (a.1 ++ 61 :: 34 :: (escB true a.2 ++ [34])) ++ R := by simp
      rw [e]
      exact List.drop_left' (by simp; omega)
    rw [hT]
    rw [← hR] at ih
    have hp := name_parts hn
    generalize hX : a.1 ++ 61 :: 34 :: (escB true a.2 ++ 34 :: R) = X at *
    obtain ⟨b, t, hbt⟩ : ∃ b t, a.1 = b :: t := by
      cases h : a.1 with
      | nil => exact absurd h hp.1
      | cons b t => exact ⟨b, t, rfl⟩
    obtain ⟨Z, hZ⟩ : ∃ Z, X = b :: Z := ⟨_, by rw [← hX, hbt]; rfl⟩
    have hb := nameI_attr b (hp.2.2.2 b (by rw [hbt]; simp))
    have hsX : spN (32 :: X) = 1 := by
      rw [spN_cons, hZ, spN_cons, hb.2.1]
      rfl
    have hno : hasName ats a.1 = false := by
      rw [hasName, List.any_eq_false]
      intro x hx e
      have := (List.pairwise_append.1 hap).2.2 x hx a (by simp)
      exact this (by simpa using e)
    have hadd : addL ats a = ats ++ [a] := by rw [addL, hno]; rfl
    rw [tagGo, hsX]
    rw [show (32 :: X : List UInt8).drop 1 = X from rfl, if_neg (by rw [hZ]; simp)]
    rw [if_neg (by rw [hZ]; simp [hasPrefix, List.isPrefixOf, Ne.symm hb.2.2.1]), if_neg (by rw [hZ]; simp [hasPrefix, List.isPrefixOf, Ne.symm hb.2.2.2]), if_neg (by rw [hZ]; simp [hasPrefix, List.isPrefixOf, Ne.symm hb.2.2.1])]
    rw [hA, if_pos rfl, hadd]
    rw [show (32 :: X : List UInt8).drop (1 + (a.1.length + 1 + (1 + (escB true a.2).length + 1))) = X.drop (a.1.length + 1 + (1 + (escB true a.2).length + 1)) by rw [← List.drop_drop]; rfl, hlen, ih]
    simp only [Option.some.injEq, Prod.mk.injEq, List.append_assoc, List.singleton_append, true_and]
    rw [List.flatMap_cons, List.length_append]
    simp only [attrText, List.length_cons, List.length_append, List.length_nil]
    omega
theorem apart_pairs {l : List AttrT} (h : apartL l) : l.Pairwise (fun x y => x.1 ≠ y.1) := by
  rw [List.pairwise_iff_getElem]
  intro i j hi hj hij e
  have := h j hj i hij
  rw [List.getD, List.getElem?_eq_getElem hj, List.getD, List.getElem?_eq_getElem hi] at this
  simp only [Option.getD_some] at this
  rw [e] at this
  simp at this
theorem small_head {b : UInt8} (h : smallI b.toNat = true) : letterI b.toNat = true ∧ b ≠ 33 ∧ b ≠ 63 ∧ b ≠ 47 := by
  revert b
  have : ∀ n : Fin 256, smallI ((UInt8.ofNat n.1).toNat : Int) = true → letterI ((UInt8.ofNat n.1).toNat : Int) = true ∧ UInt8.ofNat n.1 ≠ 33 ∧ UInt8.ofNat n.1 ≠ 63 ∧ UInt8.ofNat n.1 ≠ 47 := by decide +kernel
  intro b
  simpa using this ⟨b.toNat, b.toNat_lt⟩
theorem headIs_no {b : UInt8} {l : List UInt8} {c : UInt8} (h : b ≠ c) : headIs (b :: l) c.toNat = false := by
  simp only [headIs]
  simpa using fun e : b.toNat = c.toNat => h (UInt8.toNat.inj e)
/-- A tag that was written is read as just that tag. -/
theorem open_back {n : List UInt8} {l : List AttrT} (h : openOK n l) (behind : List UInt8) : nextL (openText n l ++ behind) 0 0 [] false = (⟨1, n, l, false, []⟩, ((openText n l).length : Int)) := by
  obtain ⟨hn, hok, hap, -⟩ := h
  have hp := name_parts hn
  obtain ⟨b, t, hbt⟩ : ∃ b t, n = b :: t := by
    cases n with
    | nil => exact absurd rfl hp.1
    | cons b t => exact ⟨b, t, rfl⟩
  have hs := small_head (b := b) (by have := hp.2.2.1; rw [hbt] at this; exact this)
  obtain ⟨F, hF⟩ : ∃ F, F = l.flatMap attrText := ⟨_, rfl⟩
  have hgo := tagGo_written l [] ((n ++ (F ++ 62 :: behind)).length + 1) n.length behind hok (by simpa using apart_pairs hap) (by
    have : l.length ≤ F.length := by
      rw [hF]
      clear hF hok hap
      induction l with
      | nil => simp
      | cons a l ih => rw [List.flatMap_cons, List.length_append, List.length_cons]; simp only [attrText, List.length_cons]; omega
    simp only [List.length_append, List.length_cons]
    omega)
  rw [← hF] at hgo
  have hun : untN nameStops (n ++ (F ++ 62 :: behind)) = n.length := by
    obtain ⟨c, r, hc, hcs⟩ : ∃ c r, F ++ 62 :: behind = c :: r ∧ nameStops.contains c = true := by
      cases l with
      | nil => rw [hF]; exact ⟨62, behind, rfl, by decide⟩
      | cons a l => rw [hF, List.flatMap_cons]; exact ⟨32, _, rfl, by decide⟩
    rw [hc]
    exact untN_name hn c r hcs
  have hS : openText n l ++ behind = 60 :: (n ++ (F ++ 62 :: behind)) := by rw [openText, hF]; simp
  have hlen : (openText n l).length = 1 + n.length + F.length + 1 := by
    rw [openText, hF]
    simp only [List.length_cons, List.length_append, List.length_nil]
    omega
  have htag : tagL 1 (n ++ (F ++ 62 :: behind)) = (⟨1, n, l, false, []⟩, n.length + F.length + 1) := by
    rw [tagL, hun, List.take_left, List.drop_left, name_low hn, hgo]
    rfl
  have hmark : markL false (60 :: (n ++ (F ++ 62 :: behind))) = (⟨1, n, l, false, []⟩, 1 + (n.length + F.length + 1)) := by
    have hd : (60 :: (n ++ (F ++ 62 :: behind)) : List UInt8).drop 1 = n ++ (F ++ 62 :: behind) := rfl
    have hh : ∀ c : UInt8, b ≠ c → headIs (n ++ (F ++ 62 :: behind)) c.toNat = false := fun c hc => by rw [hbt]; exact headIs_no hc
    have h33 := hh 33 hs.2.1
    have h63 := hh 63 hs.2.2.1
    have h47 := hh 47 hs.2.2.2
    rw [markL, hd, if_neg (by rw [show (33 : Nat) = (33 : UInt8).toNat from rfl, h33]; simp), if_neg (by rw [show (63 : Nat) = (63 : UInt8).toNat from rfl, h63]; simp), if_pos (by rw [show (47 : Nat) = (47 : UInt8).toNat from rfl]; exact h47), htag]
  have hst : stopL (60 :: (n ++ (F ++ 62 :: behind))) = true := by
    rw [stopL, hbt, List.cons_append, begL, hs.1]
    rfl
  rw [hS, nextL, if_neg (by simp; omega)]
  rw [show ((0 : Int).toNat) = 0 from rfl, List.drop_zero, nextIn, if_pos (by decide), dataL, dataGo, if_neg (by simp), if_neg (by rw [hst]; simp), hmark, if_neg (by intro e; cases e), hlen]
  simp only
  congr 1
  omega
theorem close_back {n : List UInt8} (hn : nameL n = true) (behind : List UInt8) : nextL (closeL n ++ behind) 0 0 [] false = (⟨2, n, [], false, []⟩, ((closeL n).length : Int)) := by
  have hp := name_parts hn
  obtain ⟨b, t, hbt⟩ : ∃ b t, n = b :: t := by
    cases n with
    | nil => exact absurd rfl hp.1
    | cons b t => exact ⟨b, t, rfl⟩
  have hs := small_head (b := b) (by have := hp.2.2.1; rw [hbt] at this; exact this)
  have hct := close_tag hn behind
  have hst := close_stop (n := n) behind
  have hne := close_ne n behind
  have hlen : (closeL n).length = n.length + 3 := by simp [closeL]
  have hd1 : (closeL n ++ behind).drop 1 = 47 :: (n ++ 62 :: behind) := by simp [closeL]
  have hd2 : (closeL n ++ behind).drop 2 = n ++ 62 :: behind := by simp [closeL]
  have hmark : markL false (closeL n ++ behind) = (⟨2, n, [], false, []⟩, 2 + (n.length + 1)) := by
    rw [markL, hd1, if_neg (by rw [show (33 : Nat) = (33 : UInt8).toNat from rfl, headIs_no (by decide)]; simp), if_neg (by rw [show (63 : Nat) = (63 : UInt8).toNat from rfl, headIs_no (by decide)]; simp), if_neg (by simp [headIs]), if_pos (by rw [hd2, hbt]; exact hs.1), hct]
  have hpos : 0 < (closeL n ++ behind).length := by rw [List.length_append]; omega
  rw [nextL, if_neg (by omega)]
  rw [show ((0 : Int).toNat) = 0 from rfl, List.drop_zero, nextIn, if_pos (by decide), dataL, dataGo, if_neg (by simpa using hne), if_neg (by rw [hst]; simp), hmark, if_neg (by intro e; cases e), hlen]
  simp only
  congr 1
  omega

end Go.Proofs.YthfkldheflmlmaaDoor
