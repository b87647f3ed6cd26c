/- pen.twice: contract. -/
import Derived.Test.YthfkldheflmlmaaGreatDoorPenC
import Derived.Test.YthfkldheflmlmaaGreatDoorTagW
namespace Go.Proofs.YthfkldheflmlmaaGreatDoor
open Go.RowKit

/-- Have no two attributes one name? -/
def apartL (l : List AttrT) : Prop := ∀ i, i < l.length → ∀ k, k < i → ((l.getD i ([], [])).1 == (l.getD k ([], [])).1) = false
set_option maxRecDepth 100000 in
set_option maxHeartbeats 2000000 in
theorem twice_calls (w : World) (A : Option Addr) (c : Nat) (l : List AttrT) (hl : AttrsAt w A l) (hz : l.length ≤ 1000000) :
    Calls Tryz.prog 34 #[.slice A l.length c] w fun e w' => ∃ b, e = .returned (.bool b) ∧ (b = false ↔ apartL l) ∧ Below w.heap.size w w' := by
  have HLL := Lib.hid hl
  clear hl
  go_enter Tryz.func34, Tryz.ntmps34
  go_wp2
  go_loopw [7] (fun i wr => ∃ k : Nat, k ≤ l.length ∧ i = .int .i64 k ∧ Below w.heap.size w wr ∧ Hid (∀ i, i < k → ∀ j, j < i → ((l.getD i ([], [])).1 == (l.getD j ([], [])).1) = false)) (fun i _ => l.length - (intOf i).toNat)
  case atStart => exact ⟨0, by omega, rfl, Below.refl _ _, Lib.hid (fun j hj => by omega)⟩
  case round =>
    obtain ⟨k, hk, rfl, hb, HN⟩ := hrel
    rename World => wo
    by_cases hlt : k < l.length
    · go_wp2_with fail
      go_loopw [11] (fun i wr => ∃ m : Nat, m ≤ k ∧ i = .int .i64 m ∧ Below wo.heap.size wo wr ∧ Hid (∀ j, j < m → ((l.getD k ([], [])).1 == (l.getD j ([], [])).1) = false)) (fun i _ => k - (intOf i).toNat)
      case atStart => exact ⟨0, by omega, rfl, Below.refl _ _, Lib.hid (fun j hj => by omega)⟩
      case round =>
        obtain ⟨m, hm, rfl, hb2, HM⟩ := hrel
        by_cases hlm : m < k
        · have hb3 := below_then hb hb.size hb2
          obtain ⟨ad, rfl, c0, c1⟩ := (HLL.out.below hb3).at_ hlt
          obtain ⟨ad2, e2, d0, d1⟩ := (HLL.out.below hb3).at_ (show m < l.length by omega)
          cases e2
          obtain ⟨e, he⟩ : ∃ e, ((l.getD k ([], [])).1 == (l.getD m ([], [])).1) = e := ⟨_, rfl⟩
          have hx : ((mkS (l.getD k ([], [])).1).toList == (mkS (l.getD m ([], [])).1).toList) = e := by rw [ByteArray.toList_eq, ByteArray.toList_eq, of_mkS, of_mkS]; exact he
          have HE := Lib.hid he
          generalize mkS (l.getD k ([], [])).1 = x at c0 hx
          generalize mkS (l.getD m ([], [])).1 = y at d0 hx
          have i1 : (k : Int) < (l.length : Int) := by omega
          have i2 : (m : Int) < (l.length : Int) := by omega
          clear c1 d1 he
          cases e with
          | true =>
            go_wp2_with fail
            go_quiet (fail)
            go_wp2
            go_ret
            refine ⟨true, rfl, ⟨(fun h => by cases h), fun h => ?_⟩, below_drewN hb3 _⟩
            have := h k hlt m hlm
            rw [HE.out] at this
            cases this
          | false =>
            go_wp2_with fail
            go_quiet (fail)
            go_wp2
            go_roundw
            case rel =>
              refine ⟨m + 1, by omega, by go_num, below_drewN hb2 _, Lib.hid (fun j hj => ?_)⟩
              by_cases ej : j = m
              · subst ej; exact HE.out
              · exact HM.out j (by omega)
            case measure => simp [intOf]; omega
        · have hb3 := below_then hb hb.size hb2
          go_wp2_with fail
          go_roundw
          case rel =>
            refine ⟨k + 1, by omega, by go_num, hb3, Lib.hid (fun i hi j hj => ?_)⟩
            by_cases ei : i = k
            · subst ei; exact HM.out j (by omega)
            · exact HN.out i (by omega) j hj
          case measure => simp [intOf]; omega
    · go_wp2_with fail
      go_ret
      exact ⟨false, rfl, ⟨fun _ i hi => HN.out i (by omega), fun _ => rfl⟩, hb⟩

end Go.Proofs.YthfkldheflmlmaaGreatDoor
