/- The pairs in a gap (match.gap.alike), the numbers of a node's kids (match.kids): contracts. -/
import Derived.Test.YtdlenbkkcpcbmaaLine
import Derived.Test.YtdlenbkkcpcbmaaRegF
namespace Go.Proofs.Ytdlenbkkcpcbmaa
open Go.RowKit Go.Lib Go.Sort Go.BigFrame

def sameS (a b : List (List UInt8)) (i j : Nat) : Bool := decide (a[i]? = b[j]?)
def gapV (i j toA toB : Nat) : Array Value := #[.int .i64 (i : Nat), .int .i64 (j : Nat), .int .i64 (toA : Nat), .int .i64 (toB : Nat)]
theorem gap_len (s : Nat → Nat → Bool) (toA toB : Nat) : ∀ (N i j : Nat), toA - i ≤ N → (gapI s i toA j toB).length ≤ toA - i := by
  intro N
  induction N with
  | zero => intro i j h; rw [gap_out (by omega)]; simp
  | succ N ih =>
    intro i j h
    by_cases hi : i < toA
    · rw [gap_in hi]
      split
      · rename_i k _
        have := ih (i + 1) (k + 1) (by omega)
        rw [List.length_cons]; omega
      · have := ih (i + 1) j (by omega); omega
    · rw [gap_out (by omega)]; simp
set_option maxRecDepth 100000 in
set_option maxHeartbeats 8000000 in
theorem alike_calls (a b : List (List UInt8)) (hza : a.length ≤ 1000) (hzb : b.length ≤ 1000) (i0 j0 toA toB : Nat) (hA : toA ≤ a.length) (hB : toB ≤ b.length) (hi0 : i0 ≤ 1001) (hj0 : j0 ≤ 1001) (w : World) (A A' : Option Addr) (c c' : Nat) (ha : StrsAt w A a) (hb : StrsAt w A' b) :
    Calls Try.prog 45 #[.agg (gapV i0 j0 toA toB), .slice A a.length c, .slice A' b.length c'] w fun e w' => ∃ v, e = .returned v ∧ PairRow w' (w.heap.size + 1) v (gapI (sameS a b) i0 toA j0 toB) ∧ Below w.heap.size w w' := by
  have hll := gap_len (sameS a b) toA toB _ i0 j0 (Nat.le_refl _)
  obtain ⟨ip, hi, hz0, hz1, hz2⟩ := info_parts infoP
  have HA := Lib.hid ha
  have HB := Lib.hid hb
  have hbox := blk_new w (gapV i0 j0 toA toB) 87
  have hB0 := (Below.refl w.heap.size w).alloc (Nat.le_refl _) (.cells (gapV i0 j0 toA toB) 87)
  have hz : (w.alloc (.cells (gapV i0 j0 toA toB) 87)).heap.size = w.heap.size + 1 := by simp
  clear ha hb
  unfold gapV at hbox hB0 hz ⊢
  go_enter Try.func45, Try.ntmps45
  go_upto_region 1 with fail
  generalize w.alloc (.cells #[.int .i64 (i0 : Nat), .int .i64 (j0 : Nat), .int .i64 (toA : Nat), .int .i64 (toB : Nat)] 87) = w1 at *
  have b0 := blk_cell hbox 0
  have b1 := blk_cell hbox 1
  replace b0 : w1.cell? ⟨w.heap.size, 0, none⟩ = some (.int .i64 (i0 : Nat)) := b0
  replace b1 : w1.cell? ⟨w.heap.size, 1, none⟩ = some (.int .i64 (j0 : Nat)) := b1
  have HBOX := Lib.hid hbox
  have HB0 := Lib.hid hB0
  have HZ := Lib.hid hz
  clear hbox hB0 hz
  go_wp2
  go_step3
  go_wp2
  go_step3
  go_wp2
  clear b0 b1
  go_loopw [7, 8, 9] (fun v fr x wr => ∃ i j : Nat, i ≤ 1001 ∧ j ≤ 1001 ∧ x = .int .i64 i ∧ fr = .int .i64 j ∧ Below w.heap.size w wr ∧ Hid (wr.heap[w.heap.size]? = some (.cells #[.int .i64 (i0 : Nat), .int .i64 (j0 : Nat), .int .i64 (toA : Nat), .int .i64 (toB : Nat)] 87 (0, 0))) ∧ Hid (∃ l, PairRow wr (w.heap.size + 1) v l ∧ gapI (sameS a b) i0 toA j0 toB = l ++ gapI (sameS a b) i toA j toB)) (fun _ _ x _ => toA - (RowKit.intOf x).toNat)
  case atStart => exact ⟨i0, j0, hi0, hj0, rfl, rfl, HB0.out, HBOX, Lib.hid ⟨[], PairRow.nil _ _, rfl⟩⟩
  case round =>
    clear HBOX HB0 HZ w1
    obtain ⟨i, j, hib, hjb, rfl, rfl, hBr, HBX, HL⟩ := hrel
    have hbox := HBX.out
    have b2 := blk_cell hbox 2
    have b3 := blk_cell hbox 3
    replace b2 : wr.cell? ⟨w.heap.size, 2, none⟩ = some (.int .i64 (toA : Nat)) := b2
    replace b3 : wr.cell? ⟨w.heap.size, 3, none⟩ = some (.int .i64 (toB : Nat)) := b3
    have hX := blk_lt hbox
    clear hbox
    by_cases h1 : i < toA
    · obtain ⟨l, hrow, hgap⟩ := HL.out
      obtain ⟨A0, c0, hv0⟩ := hrow.val
      subst hv0
      rw [gap_in h1] at hgap
      have hlen : l.length ≤ 1000 := by have h := congrArg List.length hgap; rw [List.length_append] at h; omega
      have HGP := Lib.hid hgap
      have HRW := Lib.hid hrow
      have HBR := Lib.hid hBr
      have hlt1 : (i : Int) < (toA : Int) := by omega
      clear hrow hgap HL hBr
      go_upto_region 7 with fail
      go_loopw [7, 8, 10] (fun v fr y wz => ∃ j' : Nat, j' ≤ 1001 ∧ v = .slice A0 l.length c0 ∧ fr = .int .i64 j ∧ y = .int .i64 j' ∧ (∃ n, wz = wr.drewN n) ∧ Hid (firstJ (sameS a b i) j toB = firstJ (sameS a b i) j' toB)) (fun _ _ y _ => toB - (RowKit.intOf y).toNat)
      case atStart => exact ⟨j, hjb, rfl, rfl, rfl, ⟨0, rfl⟩, Lib.hid rfl⟩
      case round =>
        obtain ⟨j', hj', rfl, rfl, rfl, ⟨n, rfl⟩, HF⟩ := hrel
        by_cases h2 : j' < toB
        · obtain ⟨x, hxa⟩ : ∃ x, a[i]? = some x := ⟨_, List.getElem?_eq_getElem (by omega)⟩
          obtain ⟨y, hyb⟩ : ∃ y, b[j']? = some y := ⟨_, List.getElem?_eq_getElem (by omega)⟩
          have hfj := HF.out
          rw [first_in h2] at hfj
          have hs : sameS a b i j' = (x == y) := by
            unfold sameS; rw [hxa, hyb]
            cases e : x == y with
            | true => rw [eq_of_beq e]; simp
            | false => exact decide_eq_false (fun he => by rw [Option.some.inj he] at e; simp at e)
          rw [hs] at hfj
          obtain ⟨ga, rfl, hca⟩ := HA.out (by omega)
          obtain ⟨gb, rfl, hcb⟩ := HB.out (by omega)
          have sa := hca i x hxa
          have sb := hcb j' y hyb
          have s1 : wr.cell? ⟨ga, i, none⟩ = some (.string (mkS x)) := (HBR.out.cell (World.block_lt_of_cell? w _ sa)).trans sa
          have s2 : wr.cell? ⟨gb, j', none⟩ = some (.string (mkS y)) := (HBR.out.cell (World.block_lt_of_cell? w _ sb)).trans sb
          have a7 := add0 ga i
          have a8 := add0 gb j'
          have hq : ((mkS x).toList == (mkS y).toList) = (x == y) := by rw [ByteArray.toList_eq, ByteArray.toList_eq, of_mkS, of_mkS]
          have i5 : (i : Int) < (a.length : Int) := by omega
          have i6 : (j' : Int) < (b.length : Int) := by omega
          have i7 : (j' : Int) < (toB : Int) := by omega
          have hbz := HBR.out.size
          clear hxa hyb hca hcb sa sb hs HF
          cases e : x == y with
          | true =>
            rw [e] at hq hfj
            rw [if_pos rfl] at hfj
            have HG2 : Hid (gapI (sameS a b) i0 toA j0 toB = (l ++ [⟨i, j', false⟩]) ++ gapI (sameS a b) (i + 1) toA (j' + 1) toB) := Lib.hid (by rw [HGP.out, hfj]; simp)
            clear e hfj HGP
            go_upto_region 9 with fail
            go_quiet (fail)
            go_upto_region 11 with (at_builtin; refine wpList_append_own _ rfl _ _ 25 rfl (w.heap.size + 1) 28 ip _ 3 24 Try.underlying25 hi hz0 hz1 hz2 rfl (by decide) _ _ _ rfl ((HRW.out.below (below_drewN (Below.refl _ _) _)).alloc _) ⟨wr.heap.size, 0, none⟩ 1 1 (PairT.vals ⟨i, j', false⟩) rfl rfl ?a1 ?a2 ?a3 ?a4 ?a5 ?_; (case a1 => exact World.news_of_block (heap_alloc_new _ _)); (case a2 => simp [PairT.vals, Value.oneCell']); (case a3 => unfold maxLen; omega); (case a4 => omega); (case a5 => simp; omega); intro v' w3 hown3 hg3 _)
            have hB3 : Below w.heap.size w w3 := ((below_drewN HBR.out _).alloc (by simpa using hbz) _).grown hg3 (by simp; omega) (fun k hk => by have := own_base HRW.out hk; omega)
            have hX3 : w3.heap[w.heap.size]? = _ := (hg3.block w.heap.size (by simp; omega) (own_farB HRW.out (Nat.lt_succ_self _))).trans (blk_alloc (blk_drewN HBX.out _) _)
            have HX3 := Lib.hid hX3
            have HL3 : Hid (∃ l, PairRow w3 (w.heap.size + 1) v' l ∧ gapI (sameS a b) i0 toA j0 toB = l ++ gapI (sameS a b) (i + 1) toA (j' + 1) toB) := Lib.hid ⟨_, PairRow.snoc hown3, HG2.out⟩
            clear hown3 hg3 hX3 HRW HBR HBX HG2 b2 b3 s1 s2
            go_wp2
            go_roundw
            case rel => exact ⟨i + 1, j' + 1, by omega, by omega, by go_num, by go_num, hB3, HX3, HL3⟩
            case measure => simp [RowKit.intOf]; omega
          | false =>
            rw [e] at hq hfj
            rw [if_neg (by decide)] at hfj
            have HF2 := Lib.hid hfj
            clear e hfj
            go_upto_region 9 with fail
            go_quiet (fail)
            go_wp2
            go_roundw
            case rel => exact ⟨j' + 1, by omega, rfl, rfl, by go_num, ⟨_, rfl⟩, HF2⟩
            case measure => simp [RowKit.intOf]; omega
        · have hfj := HF.out
          rw [first_out (j := j') (by omega)] at hfj
          have HG2 : Hid (gapI (sameS a b) i0 toA j0 toB = l ++ gapI (sameS a b) (i + 1) toA j toB) := Lib.hid (by rw [HGP.out, hfj])
          have i7 : ¬ (j' : Int) < (toB : Int) := by omega
          clear hfj HF HGP
          go_wp2
          go_roundw
          case rel => exact ⟨i + 1, j, by omega, by omega, by go_num, rfl, below_drewN HBR.out _, Lib.hid (blk_drewN HBX.out _), Lib.hid ⟨l, HRW.out.below (below_drewN (Below.refl _ _) _), HG2.out⟩⟩
          case measure => simp [RowKit.intOf]; omega
    · obtain ⟨l, hrow, hgap⟩ := HL.out
      rw [gap_out (i := i) (by omega), List.append_nil] at hgap
      have HF := Lib.hid (hgap ▸ hrow)
      have i7 : ¬ (i : Int) < (toA : Int) := by omega
      clear HL hrow hgap HBX
      go_wp2
      go_ret
      exact ⟨_, rfl, HF.out, hBr⟩

end Go.Proofs.Ytdlenbkkcpcbmaa
