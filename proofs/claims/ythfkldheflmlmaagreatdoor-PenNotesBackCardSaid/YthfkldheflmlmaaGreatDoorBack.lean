/- What is escaped is read back: plain facts. -/
import Derived.Test.YthfkldheflmlmaaGreatDoorEsc
import Derived.Test.YthfkldheflmlmaaGreatDoorRight
namespace Go.Proofs.YthfkldheflmlmaaGreatDoor
open Go.RowKit

theorem at_named (l : List UInt8) (v : Bool) (c : Int) (n : Nat) (h35 : headIs l 35 = false) (h : namL l v = (c, n)) (hn : 0 < n) : atL (38 :: l) v = (bytesL c, 1 + n) := by
  simp only [atL]
  rw [if_neg (by decide), if_neg (by rw [h35]; simp), h, if_pos hn]
theorem at_amp (X : List UInt8) (v : Bool) : atL (ampB ++ X) v = ([38], 5) := by
  have h : namL (97 :: 109 :: 112 :: 59 :: X) v = (38, 4) := by cases v <;> kernel_rfl
  have hb : bytesL 38 = [38] := by decide
  rw [← hb]
  exact at_named _ v _ _ rfl h (by decide)
theorem at_lt (X : List UInt8) (v : Bool) : atL (ltB ++ X) v = ([60], 4) := by
  have h : namL (108 :: 116 :: 59 :: X) v = (60, 3) := by cases v <;> kernel_rfl
  have hb : bytesL 60 = [60] := by decide
  rw [← hb]
  exact at_named _ v _ _ rfl h (by decide)
theorem at_gt (X : List UInt8) (v : Bool) : atL (gtB ++ X) v = ([62], 4) := by
  have h : namL (103 :: 116 :: 59 :: X) v = (62, 3) := by cases v <;> kernel_rfl
  have hb : bytesL 62 = [62] := by decide
  rw [← hb]
  exact at_named _ v _ _ rfl h (by decide)
theorem at_quot (X : List UInt8) (v : Bool) : atL (quotB ++ X) v = ([34], 6) := by
  have h : namL (113 :: 117 :: 111 :: 116 :: 59 :: X) v = (34, 5) := by cases v <;> kernel_rfl
  have hb : bytesL 34 = [34] := by decide
  rw [← hb]
  exact at_named _ v _ _ rfl h (by decide)
theorem at_nbsp (X : List UInt8) (v : Bool) : atL (nbspB ++ X) v = ([194, 160], 6) := by
  have h : namL (110 :: 98 :: 115 :: 112 :: 59 :: X) v = (160, 5) := by cases v <;> kernel_rfl
  have hb : bytesL 160 = [194, 160] := by decide
  rw [← hb]
  exact at_named _ v _ _ rfl h (by decide)
theorem escB_high (v : Bool) (b : UInt8) (l : List UInt8) (h : 128 ≤ b.toNat) (h2 : ¬ (b = 194 ∧ ∃ l', l = 160 :: l')) : escB v (b :: l) = b :: escB v l := by
  have h1 : escOne v b = [b] := by
    have : ∀ c : UInt8, c.toNat < 128 → b ≠ c := fun c hc e => by rw [e] at h; omega
    rw [escOne, if_neg (this 38 (by decide)), if_neg (this 60 (by decide)), if_neg (this 62 (by decide)), if_neg (fun e => this 34 (by decide) e.1)]
  cases l with
  | nil => simp [escB, h1]
  | cons b' l => rw [escB, if_neg (fun e => h2 ⟨e.1, l, by rw [e.2]⟩), h1]; rfl
theorem escB_low (v : Bool) (b : UInt8) (l : List UInt8) (h : b.toNat < 128) : escB v (b :: l) = escOne v b ++ escB v l := by
  cases l with
  | nil => rw [escB, escB, List.append_nil]
  | cons b' l => rw [escB, if_neg (fun e => by rw [e.1] at h; revert h; decide)]
theorem first_low (b : UInt8) (t : List UInt8) (h : b.toNat < 128) : firstI (mkS (b :: t)) = ((b.toNat : Int), 1) ∧ bytesL (b.toNat : Int) = [b] := by
  have hlong : longI (b.toNat : Int) = 1 := by rw [longI]; split <;> omega
  have h0 : bI (mkS (b :: t)) 0 = (b.toNat : Int) := by rw [bI_mk]; rfl
  have hz : (mkS (b :: t)).size = t.length + 1 := by rw [size_mkS]; rfl
  have hi : isI (b.toNat : Int) = true := by simp [isI]; omega
  refine ⟨?_, ?_⟩
  · unfold firstI
    rw [if_neg (by omega), h0, hlong]
    simp only
    rw [if_neg (by omega)]
    have e : (1 : Int).toNat - 1 = 0 := rfl
    rw [e]
    have e1 : headI 1 = 0 := by decide
    have e2 : leastI 1 = 0 := by decide
    simp [contsI, accI, h0, e1, e2, hi]
    omega
  · rw [bytesL, if_pos hi, charL, if_pos (by omega)]
    simp [byteL]
theorem at_head (l : List UInt8) (v : Bool) (c : Int) (n : Nat) (hl : l ≠ []) (h38 : headIs l 38 = false) (h : firstI (mkS l) = (c, (n : Int))) : atL l v = (bytesL c, n) := by
  rw [atL_clean l v hl h38, h]
  rfl
theorem head_high (b : UInt8) (l : List UInt8) (h : 128 ≤ b.toNat) : headIs (b :: l) 38 = false := by simp [headIs]; omega
/-- What is escaped is read back, if it is right. -/
theorem all_esc (v : Bool) : ∀ (n : Nat) (s : List UInt8), s.length ≤ n → rightL s = true → allL (escB v s) v = s
  | 0, s, hn, _ => by
    have : s = [] := List.length_eq_zero_iff.mp (by omega)
    rw [this]; rfl
  | n + 1, s, hn, hr => by
    by_cases hs : s = []
    · rw [hs]; rfl
    · rw [rightL_step s hs] at hr
      cases hst : strangeB s with
      | true => rw [hst, if_pos rfl] at hr; cases hr
      | false =>
        rw [hst, if_neg (by simp)] at hr
        rcases char_ok s hs hst with ⟨b, t, rfl, hb, hf, hbs⟩ | ⟨b, b1, t, rfl, hb1, hb2, hc1, hc2, hf, hbs, hfr⟩ | ⟨b, b1, b2, t, rfl, hb, hc1, hc2, hc3, hc4, c, hf, hbs, hfr⟩ | ⟨b, b1, b2, b3, t, rfl, hb, hc1, hc2, hc3, hc4, hc5, hc6, c, hf, hbs, hfr⟩
        · rw [hf] at hr
          have ih := all_esc v n t (by simp at hn; omega) hr
          rw [escB_low v b t hb]
          have hne : ∀ x : List UInt8, escOne v b = x → x ≠ [] → allL (escOne v b ++ escB v t) v = (atL (escOne v b ++ escB v t) v).1 ++ allL ((escOne v b ++ escB v t).drop (atL (escOne v b ++ escB v t) v).2) v := fun x hx hx2 => allL_step _ v (by rw [hx]; simp [hx2])
          by_cases e1 : b = 38
          · have ho : escOne v b = ampB := by rw [escOne, if_pos e1]
            rw [hne _ ho (by decide), ho, at_amp, e1]
            simpa [ampB] using ih
          · by_cases e2 : b = 60
            · have ho : escOne v b = ltB := by rw [escOne, if_neg e1, if_pos e2]
              rw [hne _ ho (by decide), ho, at_lt, e2]
              simpa [ltB] using ih
            · by_cases e3 : b = 62
              · have ho : escOne v b = gtB := by rw [escOne, if_neg e1, if_neg e2, if_pos e3]
                rw [hne _ ho (by decide), ho, at_gt, e3]
                simpa [gtB] using ih
              · by_cases e4 : b = 34 ∧ v = true
                · have ho : escOne v b = quotB := by rw [escOne, if_neg e1, if_neg e2, if_neg e3, if_pos e4]
                  rw [hne _ ho (by decide), ho, at_quot, e4.1]
                  simpa [quotB] using ih
                · have ho : escOne v b = [b] := by rw [escOne, if_neg e1, if_neg e2, if_neg e3, if_neg e4]
                  rw [hne _ ho (by simp), ho]
                  have h38 : headIs ([b] ++ escB v t) 38 = false := by
                    simp only [headIs, List.cons_append]
                    simpa using fun e : b.toNat = 38 => e1 (UInt8.toNat.inj (by simpa using e))
                  rw [at_head _ v _ 1 (by simp) h38 (first_low b _ hb).1, hbs]
                  simpa using ih
        · rw [hf] at hr
          have ih := all_esc v n t (by simp at hn; omega) hr
          by_cases h2 : b = 194 ∧ b1 = 160
          · rw [h2.1, h2.2, escB, if_pos ⟨rfl, rfl⟩, allL_step _ v (by simp [nbspB]), at_nbsp]
            simpa [nbspB] using ih
          · have he : escB v (b :: b1 :: t) = b :: b1 :: escB v t := by
              rw [escB_high v b _ (by omega) (fun e => h2 ⟨e.1, by obtain ⟨_, l', hl'⟩ := e; cases hl'; rfl⟩), escB_high v b1 t hc1 (fun e => by rw [e.1] at hc2; revert hc2; decide)]
            rw [he, allL_step _ v (by simp), at_head _ v _ 2 (by simp) (head_high _ _ (by omega)) (hfr _), hbs]
            simpa using ih
        · rw [hf] at hr
          have ih := all_esc v n t (by simp at hn; omega) hr
          have he : escB v (b :: b1 :: b2 :: t) = b :: b1 :: b2 :: escB v t := by
            rw [escB_high v b _ (by omega) (fun e => by rw [e.1] at hb; revert hb; decide), escB_high v b1 _ hc1 (fun e => by rw [e.1] at hc2; revert hc2; decide), escB_high v b2 t hc3 (fun e => by rw [e.1] at hc4; revert hc4; decide)]
          rw [he, allL_step _ v (by simp), at_head _ v _ 3 (by simp) (head_high _ _ (by omega)) (hfr _), hbs]
          simpa using ih
        · rw [hf] at hr
          have ih := all_esc v n t (by simp at hn; omega) hr
          have he : escB v (b :: b1 :: b2 :: b3 :: t) = b :: b1 :: b2 :: b3 :: escB v t := by
            rw [escB_high v b _ (by omega) (fun e => by rw [e.1] at hb; revert hb; decide), escB_high v b1 _ hc1 (fun e => by rw [e.1] at hc2; revert hc2; decide), escB_high v b2 _ hc3 (fun e => by rw [e.1] at hc4; revert hc4; decide), escB_high v b3 t hc5 (fun e => by rw [e.1] at hc6; revert hc6; decide)]
          rw [he, allL_step _ v (by simp), at_head _ v _ 4 (by simp) (head_high _ _ (by omega)) (hfr _), hbs]
          simpa using ih

end Go.Proofs.YthfkldheflmlmaaGreatDoor
