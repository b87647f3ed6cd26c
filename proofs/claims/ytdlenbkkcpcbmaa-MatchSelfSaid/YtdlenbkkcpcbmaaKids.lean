/- The numbers of a node's kids (match.kids): its contract. -/
import Derived.Test.YtdlenbkkcpcbmaaAlike
namespace Go.Proofs.Ytdlenbkkcpcbmaa
open Go.RowKit Go.Lib Go.Sort Go.BigFrame

def kidsGo (p : Int) : List ItemT → Nat → List Nat
  | [], _ => []
  | x :: l, i => if x.parent = p then i :: kidsGo p l (i + 1) else kidsGo p l (i + 1)
theorem kidsGo_append (p : Int) (b : List ItemT) : ∀ (a : List ItemT) (i : Nat), kidsGo p (a ++ b) i = kidsGo p a i ++ kidsGo p b (i + a.length)
  | [], i => by simp [kidsGo]
  | x :: a, i => by
    rw [List.cons_append, kidsGo, kidsGo, kidsGo_append p b a, List.length_cons, show i + 1 + a.length = i + (a.length + 1) by omega]
    split <;> simp
theorem kidsGo_len (p : Int) : ∀ (a : List ItemT) (i : Nat), (kidsGo p a i).length ≤ a.length
  | [], i => by simp [kidsGo]
  | x :: a, i => by
    rw [kidsGo]
    have := kidsGo_len p a (i + 1)
    split <;> simp <;> omega
theorem kidsGo_take (p : Int) (l : List ItemT) (k : Nat) (x : ItemT) (h : l[k]? = some x) : kidsGo p (l.take (k + 1)) 0 = kidsGo p (l.take k) 0 ++ if x.parent = p then [k] else [] := by
  obtain ⟨h1, h2⟩ := List.getElem?_eq_some_iff.1 h
  rw [List.take_succ_eq_append_getElem h1, kidsGo_append, h2, kidsGo, List.length_take, show 0 + min k l.length = k by omega, kidsGo]
def intCells (l : List Nat) : List Value := l.map fun n => .int .i64 (n : Nat)
theorem intCells_len (l : List Nat) : (intCells l).length = l.length := List.length_map _
/-- A slice of numbers that is read. -/
def IntsAt (w : World) (A : Option Addr) (l : List Nat) : Prop := 0 < l.length → ∃ g, A = some ⟨g, 0, none⟩ ∧ ∀ j n, l[j]? = some n → w.cell? ⟨g, j, none⟩ = some (.int .i64 (n : Nat))
theorem IntsAt.below {w w' : World} {A : Option Addr} {l : List Nat} (h : IntsAt w A l) (hb : Below w.heap.size w w') : IntsAt w' A l := fun hl => by
  obtain ⟨ad, e, hc⟩ := h hl
  exact ⟨ad, e, fun j u hu => (hb.cell (World.block_lt_of_cell? w _ (hc j u hu))).trans (hc j u hu)⟩
theorem ints_of_own {w : World} {B n c : Nat} {A : Option Addr} {l : List Nat} (hn : l.length = n) (h : w.ownsRow B 3 1 (.slice A n c) n (intCells l)) : IntsAt w A l := fun hp => by
  obtain ⟨g, cap, e, -⟩ := own_form h (by omega)
  injection e with e1 e2 e3
  subst e1 e3
  exact ⟨g, rfl, fun j u hu => (own_cell h j _ (by simp [intCells, hu])).1⟩
set_option maxRecDepth 100000 in
set_option maxHeartbeats 4000000 in
theorem kids_calls (l : List ItemT) (hz : l.length ≤ 100000) (p : Int) (w : World) (A : Option Addr) (c : Nat) (hl : ItemsAt w A l) :
    Calls Try.prog 33 #[.slice A l.length c, .int .i64 p] w fun e w' => ∃ A' c', e = .returned (.slice A' (kidsGo p l 0).length c') ∧ IntsAt w' A' (kidsGo p l 0) ∧ (∀ g, A' = some ⟨g, 0, none⟩ → w.heap.size ≤ g) ∧ Below w.heap.size w w' := by
  obtain ⟨ip, hi, hz0, hz1, hz2⟩ := info_parts infoInt
  have HL := Lib.hid hl
  clear hl
  go_enter Try.func33, Try.ntmps33
  go_wp2
  go_loopw [5, 10] (fun v i wr => ∃ k : Nat, k ≤ l.length ∧ i = .int .i64 k ∧ Below w.heap.size w wr ∧ Hid (∃ A c', v = .slice A (kidsGo p (l.take k) 0).length c' ∧ wr.ownsRow w.heap.size 3 1 v (kidsGo p (l.take k) 0).length (intCells (kidsGo p (l.take k) 0)))) (fun _ i _ => l.length - (RowKit.intOf i).toNat)
  case atStart => exact ⟨0, by omega, rfl, Below.refl _ _, Lib.hid ⟨none, 0, by simp [kidsGo], by simpa [intCells, kidsGo] using zero_owns w w.heap.size 3 1⟩⟩
  case round =>
    obtain ⟨k, hk, rfl, hB, HV⟩ := hrel
    obtain ⟨A0, c0, rfl, hown⟩ := HV.out
    by_cases hlt : k < l.length
    · obtain ⟨x, hn⟩ : ∃ x, l[k]? = some x := ⟨_, List.getElem?_eq_getElem hlt⟩
      have hst := kidsGo_take p l k x hn
      have hyl := kidsGo_len p (l.take k) 0
      have hyl2 : (l.take k).length ≤ k := List.length_take_le _ _
      obtain ⟨g, rfl, d0, d1, d2, d3, d4⟩ := (ItemsAt.below HL.out hB).at_ hn
      have hadd := add0 g (k * 5)
      obtain ⟨Y, hY⟩ : ∃ Y, kidsGo p (l.take k) 0 = Y := ⟨_, rfl⟩
      rw [hY] at hst hyl hown
      have HST := Lib.hid hst
      have HB := Lib.hid hB
      have HB1 := Lib.hid (hB.alloc hB.size (.cells #[.int .i64 x.me, .int .i64 x.parent, .int .i64 x.place, .int .i64 x.depth, .int .i64 x.size] 49))
      have HOW := Lib.hid (hown.alloc (.cells #[.int .i64 x.me, .int .i64 x.parent, .int .i64 x.place, .int .i64 x.depth, .int .i64 x.size] 49))
      have hbz := hB.size
      have hsl := intCells_len Y
      rw [hY]
      clear hn hst hown HV hB hY
      by_cases hp : x.parent = p
      · have hpq : (x.parent == p) = true := beq_iff_eq.2 hp
        have HS2 : Hid (kidsGo p (l.take (k + 1)) 0 = Y ++ [k]) := Lib.hid (by rw [HST.out, if_pos hp])
        clear hp HST
        go_upto_region 7 with (at_builtin; refine wpList_append_own _ rfl _ _ 38 rfl w.heap.size 3 ip _ 1 8 Try.underlying38 hi hz0 hz1 hz2 rfl (by decide) _ _ _ rfl (HOW.out.alloc _) ⟨wr.heap.size + 1, 0, none⟩ 1 1 [.int .i64 (k : Nat)] rfl rfl ?a1 ?a2 ?a3 ?a4 ?a5 ?_; (case a1 => exact World.news_of_block (heap_alloc_at _ (by simp))); (case a2 => simp [Value.oneCell']); (case a3 => unfold maxLen; omega); (case a4 => omega); (case a5 => simp; omega); intro v' w3 hown3 hg3 _)
        obtain ⟨A3, c3, hv3⟩ := own_val hown3
        have hB3 : Below w.heap.size w w3 := (HB1.out.alloc HB1.out.size _).grown hg3 (by simp; omega) (fun j hj => own_base HOW.out hj)
        have HV3 : Hid (∃ A c', v' = .slice A (kidsGo p (l.take (k + 1)) 0).length c' ∧ w3.ownsRow w.heap.size 3 1 v' (kidsGo p (l.take (k + 1)) 0).length (intCells (kidsGo p (l.take (k + 1)) 0))) := Lib.hid ⟨A3, c3, by rw [HS2.out, List.length_append]; exact hv3, by rw [HS2.out, List.length_append]; simpa [intCells] using hown3⟩
        clear hv3 hown3 hg3 HOW HB1 HB HS2 d0 d1 d2 d3 d4
        go_wp2
        go_roundw
        case rel => exact ⟨k + 1, by omega, by go_num, hB3, HV3⟩
        case measure => simp [RowKit.intOf]; omega
      · have hpq : (x.parent == p) = false := beq_eq_false_iff_ne.2 hp
        have HS2 : Hid (kidsGo p (l.take (k + 1)) 0 = Y) := Lib.hid (by rw [HST.out, if_neg hp, List.append_nil])
        clear hp HST
        go_wp2
        go_roundw
        case rel => exact ⟨k + 1, by omega, by go_num, HB1.out, Lib.hid ⟨A0, c0, by rw [HS2.out], by rw [HS2.out]; exact HOW.out⟩⟩
        case measure => simp [RowKit.intOf]; omega
    · obtain rfl : k = l.length := by omega
      rw [List.take_length] at hown ⊢
      have HS := Lib.hid (ints_of_own rfl hown)
      have HFR : Hid (∀ g, A0 = some ⟨g, 0, none⟩ → w.heap.size ≤ g) := Lib.hid (fun g e => by subst e; exact own_base hown rfl)
      clear hlt hown HV
      go_wp2
      go_ret
      exact ⟨A0, c0, rfl, HS.out, HFR.out, hB⟩

end Go.Proofs.Ytdlenbkkcpcbmaa
