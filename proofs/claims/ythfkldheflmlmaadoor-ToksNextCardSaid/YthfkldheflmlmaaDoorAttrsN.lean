/- Plain: a token has no more attributes than its text has bytes, and one. -/
import Derived.Test.YthfkldheflmlmaaDoorAllL
namespace Go.Proofs.YthfkldheflmlmaaDoor
open Go.RowKit

theorem tagGo_attrs : ∀ (f : Nat) (ats : List AttrT) (l : List UInt8) (p : Nat) (x : List AttrT × Bool × Nat), tagGo f ats l p = some x → x.1.length ≤ ats.length + f
  | 0, ats, l, p, x, h => by cases h
  | f + 1, ats, l, p, x, h => by
    rw [tagGo] at h
    split at h
    · cases h
    split at h
    · cases h; simp
    split at h
    · cases h; simp
    split at h
    · have := tagGo_attrs f _ _ _ _ h; omega
    split at h
    · have := tagGo_attrs f _ _ _ _ h
      have h2 := addL_len ats (attrL (l.drop (spN l))).1
      omega
    · cases h
theorem tagL_attrs (kind : Int) (l : List UInt8) : (tagL kind l).1.attrs.length ≤ l.length + 1 := by
  rw [tagL]
  cases hg : tagGo (l.length + 1) [] (l.drop (untN nameStops l)) (untN nameStops l) with
  | none => simp [tagRes, zeroTok]
  | some x =>
    have := tagGo_attrs _ _ _ _ _ hg
    obtain ⟨a, b, c⟩ := x
    simp only [tagRes]
    split
    · simp
    · simpa using this
theorem noteL_attrs (l : List UInt8) : (noteL l).1.attrs = [] := by
  rw [noteL]
  repeat' split
  all_goals rfl
theorem bangL_attrs (cd : Bool) (l : List UInt8) : (bangL cd l).1.attrs = [] := by
  rw [bangL]
  split
  · exact noteL_attrs _
  split
  · rfl
  split
  · simp only
    split <;> rfl
  · rfl
theorem markL_attrs (cd : Bool) (l : List UInt8) : (markL cd l).1.attrs.length ≤ l.length + 1 := by
  rw [markL]
  split
  · rw [bangL_attrs]; simp
  split
  · simp [oddL, noteT]
  split
  · have := tagL_attrs 1 (l.drop 1); rw [List.length_drop] at this; simp only; omega
  split
  · have := tagL_attrs 2 (l.drop 2); rw [List.length_drop] at this; simp only; omega
  split
  · simp [zeroTok]
  · simp [oddL, noteT]
theorem dataGo_attrs (cd : Bool) : ∀ (f : Nat) (l : List UInt8) (p : Nat), (dataGo cd f l p).1.attrs.length ≤ l.length + 1
  | 0, l, p => by simp [dataGo, zeroTok]
  | f + 1, l, p => by
    rw [dataGo]
    split
    · simp [zeroTok]
    split
    · simp [charsT]
    split
    · have := dataGo_attrs cd f (l.drop (markL cd l).2) (p + (markL cd l).2); rw [List.length_drop] at this; omega
    · exact markL_attrs cd l
theorem nextIn_attrs (l : List UInt8) (mk : Int) (last : List UInt8) (cd : Bool) : (nextIn l mk last cd).1.attrs.length ≤ l.length + 1 := by
  rw [nextIn]
  split
  · exact dataGo_attrs cd _ _ _
  split
  · have := tagL_attrs 2 (l.drop 2); rw [List.length_drop] at this; simp only; omega
  · simp [charsT]
theorem nextL_attrs (l : List UInt8) (p mk : Int) (last : List UInt8) (cd : Bool) : (nextL l p mk last cd).1.attrs.length ≤ l.length + 1 := by
  rw [nextL]
  split
  · simp [zeroTok]
  · have := nextIn_attrs (l.drop p.toNat) mk last cd; rw [List.length_drop] at this; simp only; omega
theorem toksGo_attrs (s : List UInt8) : ∀ (f p : Nat), ∀ t ∈ toksGo s f p, t.attrs.length ≤ s.length + 1
  | 0, p, t, h => by cases h
  | f + 1, p, t, h => by
    rw [toksGo] at h
    have hn := nextIn_attrs (s.drop p) 0 [] false
    rw [List.length_drop] at hn
    split at h
    · cases h
    split at h
    · exact toksGo_attrs s f _ t h
    · rcases List.mem_cons.1 h with rfl | h
      · omega
      · exact toksGo_attrs s f _ t h

end Go.Proofs.YthfkldheflmlmaaDoor
