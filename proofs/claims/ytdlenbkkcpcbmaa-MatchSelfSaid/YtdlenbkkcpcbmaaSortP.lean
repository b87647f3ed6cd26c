/- Pairs that rise are not moved by the sort (slices.SortFunc in match.Pages): its contract. -/
import Derived.Test.YtdlenbkkcpcbmaaSrt
import Derived.Test.YtdlenbkkcpcbmaaLine
import Derived.Shelf.SlSortCmp.NoneTotal
namespace Go.Proofs.Ytdlenbkkcpcbmaa
open Go.RowKit Go.Lib Go.Sort Go.BigFrame Go.Shelf

def cmpP (x y : PairT) : Int := Lib.compareInt (x.a : Nat) (y.a : Nat)
theorem ltP (x y : PairT) : ltOf cmpP x y = decide (x.a < y.a) := by
  unfold ltOf cmpP Lib.compareInt
  by_cases h1 : (x.a : Int) < (y.a : Int)
  · simp [h1]; omega
  · by_cases h2 : (x.a : Int) > (y.a : Int)
    · simp [h1, h2]; omega
    · simp [h1, h2]; omega
theorem swoP : SWO (ltOf cmpP) where
  irrefl x := by rw [ltP]; simp
  trans x y z h1 h2 := by rw [ltP] at *; simp at *; omega
  ntrans x y z h1 h2 := by rw [ltP] at *; simp at *; omega
theorem vals_len (p : PairT) : p.vals.length = 3 := rfl
theorem vals_one (p : PairT) : ∀ v ∈ p.vals, v.oneCell' = true := by
  intro v hv
  simp only [PairT.vals, List.mem_cons, List.not_mem_nil, or_false] at hv
  rcases hv with rfl | rfl | rfl <;> rfl
set_option maxRecDepth 100000 in
set_option maxHeartbeats 1000000 in
theorem closureP (x y : PairT) (W : World) : Calls Try.prog 22 #[.agg x.vals.toArray, .agg y.vals.toArray] W fun e w' => e = .returned (.int .i64 (cmpP x y)) ∧ ∃ q os', w' = grow (W.drewN q) os' := by
  have hcon := fun W' => AnyG.cmp_Compare_int Try.cmpInt (x.a : Nat) (y.a : Nat) W'
  change ∀ W', Calls Try.prog 23 _ _ _ at hcon
  unfold cmpP PairT.vals
  generalize Lib.compareInt (x.a : Nat) (y.a : Nat) = r at hcon ⊢
  go_enter Try.func22, Try.ntmps22
  go_wp2_with (go_at_call 23; refine (hcon _).mono ?_; rintro e w' ⟨rfl, rfl⟩)
  go_ret
  exact ⟨rfl, 0, _, by rw [alloc_eq_grow, alloc_eq_grow, grow_grow]; rfl⟩
theorem cmpLaysP (blk off size : Nat) (w : World) : CmpLays Try.prog 22 #[] PairT.vals 3 cmpP blk off size w :=
  fun _ _ _ _ x y => closureP x y _
theorem sorted_same (d d' : Array PairT) (hd : d.toList.Pairwise fun x y => x.a < y.a) (hp : PermIn 0 d.size d d') (hs : SortedIn (ltOf cmpP) 0 d.size d') : d' = d := by
  obtain ⟨h1, -, h2⟩ := hp
  have e1 : d'.extract 0 d.size = d' := by rw [← h1]; simp
  have e2 : d.extract 0 d.size = d := by simp
  rw [e1, e2] at h2
  apply Array.ext'
  refine List.Perm.eq_of_pairwise (le := fun x y : PairT => x.a ≤ y.a) ?_ ?_ (hd.imp (fun h => Nat.le_of_lt h)) h2
  · intro x y hx hy hxy hyx
    have hx' : x ∈ d.toList := h2.subset hx
    obtain ⟨i, hi, rfl⟩ := List.mem_iff_getElem.1 hx'
    obtain ⟨j, hj, rfl⟩ := List.mem_iff_getElem.1 hy
    rcases Nat.lt_trichotomy i j with h | h | h
    · have := List.pairwise_iff_getElem.1 hd i j hi hj h; omega
    · subst h; rfl
    · have := List.pairwise_iff_getElem.1 hd j i hj hi h; omega
  · refine List.pairwise_iff_getElem.2 fun i j hi hj hij => ?_
    have hi' : i < d'.size := by simpa using hi
    have hj' : j < d'.size := by simpa using hj
    have := hs i j (Nat.zero_le _) hij (by omega)
    rw [ltP] at this
    simp only [decide_eq_false_iff_not, Nat.not_lt] at this
    rw [getElem!_pos d' i hi', getElem!_pos d' j hj'] at this
    simpa using this
set_option maxRecDepth 100000 in
set_option maxHeartbeats 1000000 in
theorem sort_calls (l : List PairT) (hl : l.Pairwise fun x y => x.a < y.a) (hz : l.length ≤ 100000) (w : World) (B : Nat) (v : Value) (h : PairRow w B v l) :
    Calls Try.prog 21 #[v, .func (.func 22) #[] #[]] w fun e w' => e = .returned (.tuple #[]) ∧ Below w.heap.size w w' := by
  rcases h.2 with ⟨rfl, h0⟩ | ⟨g, cap, cur, hv, hb, hg, hle, hc, hcs, htk⟩
  · exact (AnyF.slices_SortFunc_none Try.sortPair none 0 _ w).mono fun e w' ⟨h1, h2⟩ => ⟨h1, by rw [h2]; exact Below.refl _ _⟩
  · have hrow := h
    unfold PairRow at hrow
    subst hv
    have hH : HoldsK PairT.vals 3 w g 0 l.toArray := by
      intro j hj
      have hj' : j < l.length * 3 := by simpa [flatK] using hj
      have hj3 : j / 3 < l.length := by omega
      obtain ⟨p, hp⟩ : ∃ p, l[j / 3]? = some p := ⟨_, List.getElem?_eq_getElem hj3⟩
      have hcell := own_cell hrow (j / 3 * 3 + j % 3) (p.vals[j % 3]'(by rw [vals_len]; omega)) (by rw [pairCells_at l (j / 3) p hp (j % 3) (by omega)]; exact List.getElem?_eq_getElem _)
      rw [show j / 3 * 3 + j % 3 = j by omega] at hcell
      have hfl : (flatK PairT.vals 3 l.toArray)[j]! = p.vals[j % 3]'(by rw [vals_len]; omega) := by
        rw [get_flatK _ _ _ _ (by simpa using hj')]
        have e1 : l.toArray[j / 3]! = p := by
          rw [getElem!_pos _ _ (by simpa using hj3)]
          have := (List.getElem?_eq_some_iff.1 hp).2
          simpa using this
        rw [e1, getElem!_pos]
      rw [Nat.zero_add, hfl]
      exact hcell
    have eg : ∀ args w, (callFunc 22 args).run Try.prog w = .ok (.enter 22 args) w := enters_of Try.func22 (by kernel_rfl) rfl
    have hcon := AnyQ.slices_SortFunc Try.sortPair 3 Try.isAgg28 Try.sizeOf28 PairT.vals vals_len vals_one cmpP swoP 22 #[] g 0 cap l.toArray w eg (cmpLaysP g 0 l.toArray.size w) hH (blk_lt hg) (by simp; omega)
    change Calls Try.prog 21 _ _ _ at hcon
    rw [List.size_toArray] at hcon
    refine hcon.mono ?_
    rintro e w' ⟨h1, d', n, os, hp, hs, rfl⟩
    refine ⟨h1, ?_⟩
    have hd : d' = l.toArray := sorted_same l.toArray d' (by simpa using hl) (by simpa using hp) (by simpa using hs)
    subst hd
    unfold sortWorldK
    rw [putRowK_self _ _ _ _ _ _ (holdsK_ahead _ _ _ _ _ _ _ hH)]
    exact ⟨rfl, rfl, rfl, by simp [grow], fun k hk => by simp [grow, Array.getElem?_append, hk]⟩

end Go.Proofs.Ytdlenbkkcpcbmaa
