/- How many nodes there are (rectoref08.Count), and whether nodes are the same (rectoplain.Node, Nodes): contracts. -/
import Derived.Test.YtdlenbkkcpcbmaaNode
namespace Go.Proofs.Ytdlenbkkcpcbmaa
open Go.RowKit Go.Lib

theorem add_six (ad : Addr) (j f : Nat) (hf : 0 < f) : ad.add (j * 6 + f) = ⟨(ad.add (j * 6)).block, (ad.add (j * 6)).off + f, none⟩ := by
  unfold Addr.add
  by_cases h : j = 0
  · subst h; simp; omega
  · rw [if_neg (by omega), if_neg (by omega)]
    simp [Nat.add_assoc]
/-- A node's value, whose rows lie in the world. -/
structure NodeV (w : World) (n : NodeT) (A K : Option Addr) : Prop where
  kind64 : I64 n.kind
  space64 : I64 n.space
  attrs : AttrsAt w A n.attrs
  kids : NodesIn w K 0 n.kids
def nodeVal (n : NodeT) (A : Option Addr) (c : Nat) (K : Option Addr) (d : Nat) : Array Value := #[.int .i64 n.kind, .int .i64 n.space, .string (mkS n.name), .slice A n.attrs.length c, .string (mkS n.text), .slice K n.kids.length d]
theorem NodeV.below {w w' : World} {n : NodeT} {A K : Option Addr} (h : NodeV w n A K) (hb : Below w.heap.size w w') : NodeV w' n A K := ⟨h.kind64, h.space64, h.attrs.below hb, NodesIn.below hb h.kids⟩
theorem NodesIn.at_ {w : World} {K : Option Addr} {l : List NodeT} (h : NodesIn w K 0 l) {i : Nat} {n : NodeT} (hi : l[i]? = some n) :
    ∃ ad A c K' d, K = some ad ∧ NodeV w n A K' ∧ w.cell? (ad.add (i * 6)) = some (.int .i64 n.kind) ∧ w.cell? ⟨(ad.add (i * 6)).block, (ad.add (i * 6)).off + 1, none⟩ = some (.int .i64 n.space) ∧
      w.cell? ⟨(ad.add (i * 6)).block, (ad.add (i * 6)).off + 2, none⟩ = some (.string (mkS n.name)) ∧ w.cell? ⟨(ad.add (i * 6)).block, (ad.add (i * 6)).off + 3, none⟩ = some (.slice A n.attrs.length c) ∧
      w.cell? ⟨(ad.add (i * 6)).block, (ad.add (i * 6)).off + 4, none⟩ = some (.string (mkS n.text)) ∧ w.cell? ⟨(ad.add (i * 6)).block, (ad.add (i * 6)).off + 5, none⟩ = some (.slice K' n.kids.length d) := by
  obtain ⟨ad, e, hn⟩ := NodesIn.get h i n hi
  rw [Nat.zero_add] at hn
  obtain ⟨k, s, nm, ats, t, ks⟩ := n
  obtain ⟨hr, h0, h1, h2, ⟨A, c, h3, ha⟩, h4, K', d, h5, hk⟩ := hn
  simp only [add_six ad i 1 (by decide), add_six ad i 2 (by decide), add_six ad i 3 (by decide), add_six ad i 4 (by decide), add_six ad i 5 (by decide), Nat.add_zero] at h0 h1 h2 h3 h4 h5
  exact ⟨ad, A, c, K', d, e, ⟨hr.1, hr.2, ha, hk⟩, h0, h1, h2, h3, h4, h5⟩
mutual
def NodeT.count : NodeT → Nat
  | .mk _ _ _ _ _ ks => 1 + countL ks
def countL : List NodeT → Nat
  | [] => 0
  | n :: l => n.count + countL l
end
theorem count_kids (n : NodeT) : n.count = 1 + countL n.kids := by cases n; rw [NodeT.count]; rfl
theorem countL_append (a b : List NodeT) : countL (a ++ b) = countL a + countL b := by
  induction a with
  | nil => simp [countL]
  | cons n a ih => rw [List.cons_append, countL, countL, ih, Nat.add_assoc]
theorem countL_take (l : List NodeT) (i : Nat) (n : NodeT) (h : l[i]? = some n) : countL (l.take (i + 1)) = countL (l.take i) + (1 + countL n.kids) := by
  have hl := (List.getElem?_eq_some_iff.1 h)
  obtain ⟨h1, h2⟩ := hl
  rw [List.take_succ_eq_append_getElem h1, countL_append, h2, countL, countL, count_kids]; rfl
theorem countL_take_le (l : List NodeT) (i : Nat) : countL (l.take i) ≤ countL l := by
  conv => rhs; rw [← List.take_append_drop i l, countL_append]
  omega
theorem count_mem (l : List NodeT) (i : Nat) (n : NodeT) (h : l[i]? = some n) : 1 + countL n.kids ≤ countL l := by
  have h1 := countL_take l i n h
  have h2 := countL_take_le l (i + 1)
  omega
theorem len_count (l : List NodeT) : l.length ≤ countL l := by
  induction l with
  | nil => simp [countL]
  | cons n l ih => rw [countL, count_kids, List.length_cons]; omega
set_option maxRecDepth 100000 in
set_option maxHeartbeats 2000000 in
theorem rcount_calls : ∀ (N : Nat) (l : List NodeT), countL l ≤ N → countL l ≤ 1000000 → ∀ (w : World) (K : Option Addr) (c : Nat), NodesIn w K 0 l →
    Calls Try.prog 9 #[.slice K l.length c] w fun e w' => e = .returned (.int .i64 (countL l : Nat)) ∧ Below w.heap.size w w' := by
  intro N
  induction N with
  | zero =>
    intro l hN hm w K c hl
    have hnil : l = [] := by
      cases l with
      | nil => rfl
      | cons n l => rw [countL, count_kids] at hN; omega
    subst hnil
    clear hN hm
    go_enter Try.func9, Try.ntmps9
    go_wp2
    go_loopw [3, 8] (fun a i wr => a = .int .i64 0 ∧ i = .int .i64 0 ∧ w = wr) (fun _ i _ => 0)
    case atStart => exact ⟨rfl, rfl, rfl⟩
    case round =>
      obtain ⟨rfl, rfl, rfl⟩ := hrel
      go_wp2
      go_ret
      exact ⟨rfl, Below.refl _ _⟩
  | succ N ih =>
    intro l hN hm w K c hl
    have hz : l.length ≤ 1000000 := Nat.le_trans (len_count l) hm
    have IH := Lib.hid ih
    have HL := Lib.hid hl
    clear ih hl
    go_enter Try.func9, Try.ntmps9
    go_wp2
    go_loopw [3, 8] (fun a i wr => ∃ k : Nat, k ≤ l.length ∧ i = .int .i64 k ∧ a = .int .i64 (countL (l.take k) : Nat) ∧ Below w.heap.size w wr) (fun _ i _ => l.length - (RowKit.intOf i).toNat)
    case atStart => exact ⟨0, by omega, rfl, by simp [countL], Below.refl _ _⟩
    case round =>
      obtain ⟨k, hk, rfl, rfl, hB⟩ := hrel
      by_cases hlt : k < l.length
      · obtain ⟨n, hn⟩ : ∃ n, l[k]? = some n := ⟨_, List.getElem?_eq_getElem hlt⟩
        have hc1 := countL_take l k n hn
        have hc2 := countL_take_le l (k + 1)
        obtain ⟨ad, A, c', K', d, rfl, hv, d0, d1, d2, d3, d4, d5⟩ := (NodesIn.below hB HL.out).at_ hn
        have CK := Lib.hid (fun W h => IH.out n.kids (by omega) (by omega) W K' d h)
        have HV := Lib.hid hv
        have HC := Lib.hid hc1
        have hb1 : countL (l.take k) + (1 + countL n.kids) ≤ 1000000 := by omega
        clear hn hc1 hc2 hv
        generalize countL (l.take k) = s1 at *
        go_wp2_with (go_at_call 9; (with_reducible refine (CK.out _ (HV.out.below ((Below.refl _ _).alloc (Nat.le_refl _) _)).kids).mono ?_); rintro e w1 ⟨rfl, hb⟩)
        go_roundw
        case rel => exact ⟨k + 1, by omega, by go_num, by rw [HC.out]; go_num, below_then (hB.alloc hB.size _) (hB.alloc hB.size _).size hb⟩
        case measure => simp [RowKit.intOf]; omega
      · obtain rfl : k = l.length := by omega
        rw [List.take_length]
        clear hlt
        go_wp2
        go_ret
        exact ⟨rfl, hB⟩

end Go.Proofs.Ytdlenbkkcpcbmaa
