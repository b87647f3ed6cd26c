/- Plain: a page matched with itself; the lining up of a, b, c with b, x, c. -/
import Derived.Test.YtdlenbkkcpcbmaaPagesL
namespace Go.Proofs.Ytdlenbkkcpcbmaa

def lineA : List (List UInt8) := [[97], [98], [99]]
def lineB : List (List UInt8) := [[98], [120], [99]]
theorem line_abc : lineI lineA lineB 0 0 = [⟨1, 0, true⟩, ⟨2, 2, true⟩] := by simp [lineI, cnt, lineA, lineB]
theorem lists_self (s : Nat → Nat → Bool) (la : Nat) : ∀ (n i : Nat), i + n = la → listsGo s la la ((List.range' i n).map fun k => ⟨k, k, true⟩) i i = (List.range' i n).map fun k => ⟨k, k, true⟩ := by
  intro n
  induction n with
  | zero => intro i h; exact gap_out (by omega)
  | succ n ih =>
    intro i h
    rw [List.range'_succ, List.map_cons, listsGo, gap_out (Nat.le_refl _), List.nil_append, ih (i + 1) (by omega)]
theorem lists_is_self (a : List NodeT) : listsL a a = (List.range a.length).map fun k => ⟨k, k, true⟩ := by
  rw [listsL, line_self a _ 0 (Nat.le_refl _), Nat.sub_zero, lists_self _ _ _ 0 (by omega), List.range_eq_range']
theorem runP_add (m : Nat) : ∀ (n i j : Nat), runP i j (m + n) = runP i j m ++ runP (i + m) (j + m) n := by
  induction m with
  | zero => intro n i j; simp [runP]
  | succ m ih =>
    intro n i j
    rw [show m + 1 + n = (m + n) + 1 by omega, runP, runP, ih, List.cons_append, show i + 1 + m = i + (m + 1) by omega, show j + 1 + m = j + (m + 1) by omega]
theorem below_self (a : List NodeT) (f : Nat) (rec_ : List NodeT → List NodeT → Nat → Nat → List PairT) : ∀ n, n ≤ a.length → ((List.range n).map fun k => (⟨k, k, true⟩ : PairT)).flatMap (belowP rec_ a a f f) = runP f f (countL (a.take n)) := by
  intro n
  induction n with
  | zero => intro _; rfl
  | succ n ih =>
    intro h
    rw [List.range_succ, List.map_append, List.flatMap_append, ih (by omega), take_step a n (by omega), runP_add]
    congr 1
    rw [List.map_cons, List.map_nil, List.flatMap_cons, List.flatMap_nil, List.append_nil, belowP, if_pos rfl, Nat.add_comm 1, runP]
theorem pages_self (a : List NodeT) : pagesL a a = runP 0 0 (countL a) := by
  rw [pagesL]
  cases h : countL a with
  | zero => rfl
  | succ N => rw [pagesF, lists_is_self, below_self a 0 _ a.length (Nat.le_refl _), List.take_length, h]
theorem runP_at (n : Nat) : ∀ (i j k : Nat), k < n → (runP i j n)[k]? = some ⟨i + k, j + k, true⟩ := by
  induction n with
  | zero => intro i j k h; omega
  | succ n ih =>
    intro i j k h
    cases k with
    | zero => rfl
    | succ k => rw [runP, List.getElem?_cons_succ, ih (i + 1) (j + 1) k (by omega), show i + 1 + k = i + (k + 1) by omega, show j + 1 + k = j + (k + 1) by omega]

end Go.Proofs.Ytdlenbkkcpcbmaa
