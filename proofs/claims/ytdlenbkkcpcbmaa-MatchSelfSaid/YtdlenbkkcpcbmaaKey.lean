/- A node's key (keys.Key): its contract. -/
import Derived.Test.YtdlenbkkcpcbmaaKeyL
import Derived.Test.YtdlenbkkcpcbmaaMBld
import Derived.Test.YtdlenbkkcpcbmaaRegT
namespace Go.Proofs.Ytdlenbkkcpcbmaa
open Go.RowKit Go.Lib Go.Sort Go.BigFrame

theorem app_mkS (a b : List UInt8) : mkS a ++ mkS b = mkS (a ++ b) := mkS_snoc a (mkS b) b (of_mkS b)
theorem attrsKey_append (a b : List AttrT) : attrsKey (a ++ b) = attrsKey a ++ attrsKey b := by
  induction a with
  | nil => rfl
  | cons x a ih => simp only [List.cons_append, attrsKey, ih, List.append_assoc]
theorem keysL_append (a b : List NodeT) : keysL (a ++ b) = keysL a ++ keysL b := by
  induction a with
  | nil => simp [keysL]
  | cons x a ih => rw [List.cons_append, keysL, keysL, ih, List.append_assoc]
theorem attrsKey_take (l : List AttrT) (j : Nat) (h : j < l.length) : attrsKey (l.take (j + 1)) = attrsKey (l.take j) ++ (textL (l.getD j ([], [])).1 ++ textL (l.getD j ([], [])).2) := by
  rw [List.take_succ_eq_append_getElem h, attrsKey_append, List.getD, List.getElem?_eq_getElem h]
  simp [attrsKey]
theorem keysL_take (l : List NodeT) (j : Nat) (n : NodeT) (h : l[j]? = some n) : keysL (l.take (j + 1)) = keysL (l.take j) ++ keyN n := by
  obtain ⟨h1, h2⟩ := List.getElem?_eq_some_iff.1 h
  rw [List.take_succ_eq_append_getElem h1, keysL_append, h2]
  simp [keysL]
theorem textL_len (l : List UInt8) : (textL l).length ≤ 22 + l.length := by
  rw [textL, List.length_append]
  have := digL_len (l.length : Int)
  omega
theorem attrsKey_len : ∀ l : List AttrT, (∀ x ∈ l, x.1.length ≤ 100 ∧ x.2.length ≤ 2000) → (attrsKey l).length ≤ 2200 * l.length
  | [], _ => by simp [attrsKey]
  | x :: l, h => by
    have h1 := h x (.head _)
    have h2 := attrsKey_len l (fun y hy => h y (.tail _ hy))
    have h3 := textL_len x.1
    have h4 := textL_len x.2
    rw [attrsKey, List.length_append, List.length_append, List.length_cons]
    omega
mutual
theorem keyN_len : ∀ n : NodeT, n.ok → (keyN n).length ≤ 200000 * n.count
  | .mk k s n a t ks, h => by
    obtain ⟨h1, h2, h3, h4, h5⟩ := h
    have i1 := digL_len k
    have i2 := digL_len s
    have i3 := textL_len n
    have i4 := textL_len t
    have i5 := digL_len (a.length : Int)
    have i6 := attrsKey_len a h4
    have i7 := digL_len (ks.length : Int)
    have i8 := keysL_len ks h5
    rw [keyN, NodeT.count]
    simp only [List.length_append]
    omega
theorem keysL_len : ∀ l : List NodeT, okL l → (keysL l).length ≤ 200000 * countL l
  | [], _ => by simp [keysL]
  | n :: l, h => by
    have h1 := keyN_len n h.1
    have h2 := keysL_len l h.2
    rw [keysL, countL, List.length_append]
    omega
end
theorem okL_take : ∀ (l : List NodeT) (j : Nat), okL l → okL (l.take j)
  | [], _, _ => by simp [okL]
  | n :: l, 0, _ => trivial
  | n :: l, j + 1, h => ⟨h.1, okL_take l j h.2⟩
def BoxIn (w : World) (X : Nat) (n : NodeT) (A : Option Addr) (c : Nat) (K : Option Addr) (d : Nat) : Prop := w.heap[X]? = some (.cells (nodeVal n A c K d) 44 (0, 0))
theorem BoxIn.below {w w' : World} {X B : Nat} {n : NodeT} {A K : Option Addr} {c d : Nat} (h : BoxIn w X n A c K d) (hb : Below B w w') (hX : X < B) : BoxIn w' X n A c K d := (hb.block X hX).trans h
theorem BoxIn.cells {w : World} {X : Nat} {n : NodeT} {A K : Option Addr} {c d : Nat} (h : BoxIn w X n A c K d) :
    w.cell? ⟨X, 0, none⟩ = some (.int .i64 n.kind) ∧ w.cell? ⟨X, 1, none⟩ = some (.int .i64 n.space) ∧ w.cell? ⟨X, 2, none⟩ = some (.string (mkS n.name)) ∧ w.cell? ⟨X, 3, none⟩ = some (.slice A n.attrs.length c) ∧
      w.cell? ⟨X, 4, none⟩ = some (.string (mkS n.text)) ∧ w.cell? ⟨X, 5, none⟩ = some (.slice K n.kids.length d) :=
  ⟨blk_cell h 0, blk_cell h 1, blk_cell h 2, blk_cell h 3, blk_cell h 4, blk_cell h 5⟩
/-- The builder's writer, as these walks meet it. -/
theorem write_calls (w : World) (b : Nat) (l m : List UInt8) (x : ByteArray) (hx : x = mkS m) (h : Bld w b b l) (hl : l.length + m.length ≤ 1000000000) :
    Calls Try.prog 58 #[.pointer (some ⟨b, 0, none⟩), .string x] w fun e w' => e = .returned (.tuple #[.int .i64 m.length, .nilIface]) ∧ Bld w' b b (l ++ m) ∧ Below b w w' := by
  subst hx
  refine (writeString_calls w b b l (mkS m) h (by rw [size_mkS]; exact hl) (Nat.le_of_lt h.lt)).mono ?_
  rintro e w' ⟨rfl, h1, h2⟩
  rw [of_mkS] at h1
  exact ⟨by rw [size_mkS], h1, h2⟩
set_option maxRecDepth 100000 in
set_option maxHeartbeats 8000000 in
theorem key_calls : ∀ (N : Nat) (n : NodeT), n.count ≤ N → n.count ≤ 1000 → n.ok → ∀ (w : World) (A K : Option Addr) (c d : Nat), NodeV w n A K →
    Calls Try.prog 43 #[.agg (nodeVal n A c K d)] w fun e w' => e = .returned (.string (mkS (keyN n))) ∧ Below w.heap.size w w' := by
  intro N
  induction N with
  | zero => intro n h; rw [count_kids] at h; omega
  | succ N ih =>
    intro n hN hm hok w A K c d hv
    have hcn := count_kids n
    obtain ⟨o1, o2, o3, o4, o5⟩ := hok.parts
    have hlen := keyN_len n hok
    have hkz : n.kids.length ≤ 1000 := by have := len_count n.kids; omega
    obtain ⟨S0, hS0⟩ : ∃ S0, S0 = digL n.kind ++ (digL n.space ++ (textL n.name ++ (textL n.text ++ digL n.attrs.length))) := ⟨_, rfl⟩
    have hkey : keyN n = S0 ++ (attrsKey n.attrs ++ (digL n.kids.length ++ keysL n.kids)) := by
      rw [hS0]; cases n; rw [keyN]; simp only [List.append_assoc]; rfl
    have hl0 : S0.length ≤ 200000000 := by
      rw [hkey, List.length_append] at hlen; omega
    have hla : ∀ j, (attrsKey (n.attrs.take j)).length ≤ 200000 := fun j => by
      have := attrsKey_len (n.attrs.take j) (fun x hx => o4 x (List.mem_of_mem_take hx))
      have h2 : (n.attrs.take j).length ≤ 40 := Nat.le_trans (List.length_take_le' _ _) o2
      omega
    have hlk : ∀ j, (keysL (n.kids.take j)).length ≤ 200000000 := fun j => by
      have := keysL_len (n.kids.take j) (okL_take _ _ o5)
      have h2 := countL_take_le n.kids j
      omega
    have IH := Lib.hid ih
    have HV := Lib.hid hv
    have HO5 := Lib.hid o5
    have HO4 := Lib.hid o4
    have HKEY := Lib.hid hkey
    have HLA := Lib.hid hla
    have HLK := Lib.hid hlk
    have l1 := digL_len n.kind
    have l2 := digL_len n.space
    have l3 := textL_len n.name
    have l4 := textL_len n.text
    have l5 := digL_len (n.attrs.length : Int)
    have hkc : countL n.kids ≤ N := by omega
    have hkc2 : countL n.kids ≤ 1000 := by omega
    have D1 := Lib.hid (fun W => digits_calls n.kind hv.kind64 W)
    have D2 := Lib.hid (fun W => digits_calls n.space hv.space64 W)
    have D3 := Lib.hid (fun W => text_calls (mkS n.name) (by rw [size_mkS]; omega) W)
    have D4 := Lib.hid (fun W => text_calls (mkS n.text) (by rw [size_mkS]; omega) W)
    have D5 := Lib.hid (fun W => digits_calls (n.attrs.length : Int) (i64_nat _ (by omega)) W)
    have D6 := Lib.hid (fun W => digits_calls (n.kids.length : Int) (i64_nat _ (by omega)) W)
    simp only [of_mkS] at D3 D4
    have hP := blk_new w (nodeVal n A c K d) 44
    have hX0 : BoxIn ((w.alloc (.cells (nodeVal n A c K d) 44)).alloc (.cells #[.pointer none, .slice none 0 0] 105)) w.heap.size n A c K d := blk_alloc hP _
    have hBd0 : Bld ((w.alloc (.cells (nodeVal n A c K d) 44)).alloc (.cells #[.pointer none, .slice none 0 0] 105)) (w.heap.size + 1) (w.heap.size + 1) [] := by
      have := Bld.new (w.alloc (.cells (nodeVal n A c K d) 44))
      rwa [show (w.alloc (.cells (nodeVal n A c K d) 44)).heap.size = w.heap.size + 1 by simp] at this
    have hB0 : Below w.heap.size w ((w.alloc (.cells (nodeVal n A c K d) 44)).alloc (.cells #[.pointer none, .slice none 0 0] 105)) := ((Below.refl _ _).alloc (Nat.le_refl _) _).alloc (by simp) _
    clear ih hv hcn o4 o5 hok hlen hkey hla hlk hP hN hm
    unfold nodeVal at hX0 hBd0 hB0 ⊢
    go_enter Try.func43, Try.ntmps43
    go_upto_region 2 with fail
    generalize (w.alloc (.cells #[.int .i64 n.kind, .int .i64 n.space, .string (mkS n.name), .slice A n.attrs.length c, .string (mkS n.text), .slice K n.kids.length d] 44)).alloc (.cells #[.pointer none, .slice none 0 0] 105) = w2 at *
    have HB0 := Lib.hid hB0
    have HX0 := Lib.hid hX0
    have HBD := Lib.hid hBd0
    have z1 : (mkS (digL n.kind)).size ≤ 22 := by rw [size_mkS]; exact l1
    have z2 : (mkS (digL n.space)).size ≤ 22 := by rw [size_mkS]; exact l2
    have z3 : (mkS (textL n.name)).size ≤ 200 := by rw [size_mkS]; omega
    have z4 : (mkS (textL n.text)).size ≤ 6000 := by rw [size_mkS]; omega
    have z5 : (mkS (digL (n.attrs.length : Int))).size ≤ 22 := by rw [size_mkS]; exact l5
    obtain ⟨p0, p1, p2, p3, p4, p5⟩ := hX0.cells
    have gp0 := cell_regrown p0
    have gp1 := cell_regrown p1
    have gp2 := cell_regrown p2
    have gp3 := cell_regrown p3
    have gp4 := cell_regrown p4
    have c1 := fun d os => Calls.regrown_of (D1.out (grow (redrawn w2 d) os))
    have c2 := fun d os => Calls.regrown_of (D2.out (grow (redrawn w2 d) os))
    have c3 := fun d os => Calls.regrown_of (D3.out (grow (redrawn w2 d) os))
    have c4 := fun d os => Calls.regrown_of (D4.out (grow (redrawn w2 d) os))
    have c5 := fun d os => Calls.regrown_of (D5.out (grow (redrawn w2 d) os))
    have hcat : mkS (digL n.kind) ++ mkS (digL n.space) ++ mkS (textL n.name) ++ mkS (textL n.text) ++ mkS (digL (n.attrs.length : Int)) = mkS S0 := by
      rw [hS0]; simp only [app_mkS, List.append_assoc]
    clear p0 p1 p2 p3 p4 p5 hX0 hBd0 hB0
    have HCAT := Lib.hid hcat
    clear hcat hS0
    refine region_then 20 (by kernel_rfl) (by kernel_rfl) ?_
    simp only [List.take_succ_cons, List.take_zero, List.drop_succ_cons, List.drop_zero]
    repeat (go_big_quiet_step (first | with_reducible exact c1 _ _ | with_reducible exact c2 _ _ | with_reducible exact c3 _ _ | with_reducible exact c4 _ _ | with_reducible exact c5 _ _))
    refine wpQuiet_nil ?_
    intro w6 hw'
    obtain ⟨⟨dq, osq⟩, hw''⟩ := hw'
    have hb6 := below_regrown w2 dq osq
    rw [← hw''] at hb6
    have hX6 := HX0.out.below hb6 (blk_lt HX0.out)
    have hBd6 := HBD.out.kept hb6
    have hB6 := below_then HB0.out HB0.out.size hb6
    have WC := Lib.hid (write_calls w6 (w.heap.size + 1) [] S0 _ HCAT.out hBd6 (by simp; omega))
    clear hw'' hBd6 c1 c2 c3 c4 c5 gp0 gp1 gp2 gp3 gp4 z1 z2 z3 z4 z5 HX0 HBD HB0
    go_upto_region 3 with (go_at_call 58; (with_reducible refine WC.out.mono ?_); rintro e w7 ⟨rfl, hBd7, hb7⟩)
    have hX7 := hX6.below hb7 (Nat.lt_succ_self _)
    have hB7 := hB6.trans (hb7.mono (Nat.le_succ _))
    have HX7 := Lib.hid hX7
    have HB7 := Lib.hid hB7
    have HBD7 : Hid (Bld w7 (w.heap.size + 1) (w.heap.size + 1) (S0 ++ attrsKey (n.attrs.take 0))) := Lib.hid (by simpa [attrsKey] using hBd7)
    obtain ⟨-, -, -, q3, -, q5⟩ := hX7.cells
    clear hX7 hB7 hBd7 hb7 hX6 hB6 hb6 WC HCAT
    go_wp2
    go_loopw [32] (fun i wr => ∃ j : Nat, j ≤ n.attrs.length ∧ i = .int .i64 j ∧ Below w.heap.size w wr ∧ BoxIn wr w.heap.size n A c K d ∧ Hid (Bld wr (w.heap.size + 1) (w.heap.size + 1) (S0 ++ attrsKey (n.attrs.take j)))) (fun i _ => n.attrs.length - (RowKit.intOf i).toNat)
    case atStart => exact ⟨0, by omega, rfl, HB7.out, HX7.out, HBD7⟩
    case round =>
      clear HX7 HB7 HBD7 q3 q5
      obtain ⟨j, hj, rfl, hBr, hXr, HBR⟩ := hrel
      by_cases hlt : j < n.attrs.length
      · obtain ⟨ad, rfl, d0, d1⟩ := (HV.out.attrs.below hBr).at_ hlt
        have hstep := attrsKey_take n.attrs j hlt
        have hmem : (n.attrs.getD j ([], [])) ∈ n.attrs := by rw [List.getD, List.getElem?_eq_getElem hlt]; exact List.getElem_mem hlt
        have hx1 := HO4.out _ hmem
        obtain ⟨x, hx⟩ : ∃ x, n.attrs.getD j ([], []) = x := ⟨_, rfl⟩
        rw [hx] at d0 d1 hstep hx1
        have HST := Lib.hid hstep
        have ha1 := hBr.alloc hBr.size (.cells #[.string (mkS x.1), .string (mkS x.2)] 74)
        have hXa := blk_alloc hXr (.cells #[.string (mkS x.1), .string (mkS x.2)] 74)
        have hNa := blk_new wr #[.string (mkS x.1), .string (mkS x.2)] 74
        have hBda := HBR.out.kept ((Below.refl _ _).alloc (Nat.le_refl _) (.cells #[.string (mkS x.1), .string (mkS x.2)] 74))
        have hb1 := textL_len x.1
        have hb2 := textL_len x.2
        have T1 := Lib.hid (fun W => text_calls (mkS x.1) (by rw [size_mkS]; omega) W)
        have T2 := Lib.hid (fun W => text_calls (mkS x.2) (by rw [size_mkS]; omega) W)
        simp only [of_mkS] at T1 T2
        have hla := HLA.out j
        clear hmem hx hstep hBr hXr HBR
        go_upto_region 6 with fail
        generalize wr.alloc (.cells #[.string (mkS x.1), .string (mkS x.2)] 74) = w8 at *
        generalize wr.heap.size = Y at *
        have e0 := blk_cell hNa 0
        have e1 := blk_cell hNa 1
        have e0 : w8.cell? ⟨Y, 0, none⟩ = some (.string (mkS x.1)) := e0
        have e1 : w8.cell? ⟨Y, 1, none⟩ = some (.string (mkS x.2)) := e1
        have ge0 := cell_regrown e0
        have ge1 := cell_regrown e1
        have c1 := fun d os => Calls.regrown_of (T1.out (grow (redrawn w8 d) os))
        have c2 := fun d os => Calls.regrown_of (T2.out (grow (redrawn w8 d) os))
        have z1 : (mkS (textL x.1)).size ≤ 3000 := by rw [size_mkS]; omega
        have z2 : (mkS (textL x.2)).size ≤ 3000 := by rw [size_mkS]; omega
        have HA1 := Lib.hid ha1
        have HXA := Lib.hid hXa
        have HBDA := Lib.hid hBda
        clear ha1 hXa hBda hNa e0 e1 d0 d1
        refine region_then 7 (by kernel_rfl) (by kernel_rfl) ?_
        simp only [List.take_succ_cons, List.take_zero, List.drop_succ_cons, List.drop_zero]
        repeat (go_big_quiet_step (first | with_reducible exact c1 _ _ | with_reducible exact c2 _ _))
        refine wpQuiet_nil ?_
        intro w9 hw'
        obtain ⟨⟨dq, osq⟩, hw''⟩ := hw'
        have hb9 := below_regrown w8 dq osq
        rw [← hw''] at hb9
        have hX9 := BoxIn.below HXA.out hb9 (blk_lt HXA.out)
        have hBd9 := HBDA.out.kept hb9
        have hB9 := below_then HA1.out HA1.out.size hb9
        have WC := Lib.hid (write_calls w9 (w.heap.size + 1) (S0 ++ attrsKey (n.attrs.take j)) (textL x.1 ++ textL x.2) _ (app_mkS _ _) hBd9 (by simp only [List.length_append]; omega))
        clear hw'' hBd9 c1 c2 ge0 ge1 z1 z2 HXA HBDA HA1 hb9 hla hb1 hb2 T1 T2 hx1
        go_upto_region 7 with (go_at_call 58; (with_reducible refine WC.out.mono ?_); rintro e w10 ⟨rfl, hBd10, hb10⟩)
        have hX10 := hX9.below hb10 (Nat.lt_succ_self _)
        have hB10 := hB9.trans (hb10.mono (Nat.le_succ _))
        have hBd10 : Hid (Bld w10 (w.heap.size + 1) (w.heap.size + 1) (S0 ++ attrsKey (n.attrs.take (j + 1)))) := Lib.hid (by rw [HST.out, ← List.append_assoc]; exact hBd10)
        clear HST WC hX9 hB9 hb10
        go_wp2
        go_roundw
        case rel => exact ⟨j + 1, by omega, by go_num, hB10, hX10, hBd10⟩
        case measure => simp [RowKit.intOf]; omega
      · obtain rfl : j = n.attrs.length := by omega
        have hBR2 : Hid (Bld wr (w.heap.size + 1) (w.heap.size + 1) (S0 ++ attrsKey n.attrs)) := Lib.hid (by have := HBR.out; rwa [List.take_length] at this)
        have hla := HLA.out n.attrs.length
        rw [List.take_length] at hla
        have l6 := digL_len (n.kids.length : Int)
        obtain ⟨-, -, -, -, -, q5⟩ := hXr.cells
        have HXR := Lib.hid hXr
        have HBr := Lib.hid hBr
        clear HBR hXr hBr hlt hj
        go_upto_region 9 with (first
          | (go_at_call 59; (with_reducible refine (D6.out _).mono ?_); rintro e w8 ⟨rfl, hb8⟩; have hBd8 := hBR2.out.kept hb8; have HX8 := Lib.hid (HXR.out.below hb8 (blk_lt HXR.out)); have HB8 := Lib.hid (below_then HBr.out HBr.out.size hb8); clear hb8)
          | (go_at_call 58; (with_reducible refine (write_calls _ _ _ _ _ rfl hBd8 (by simp only [List.length_append]; omega)).mono ?_); rintro e w9 ⟨rfl, hBd9, hb9⟩))
        have hX9 := HX8.out.below hb9 (Nat.lt_succ_self _)
        have hB9 := HB8.out.trans (hb9.mono (Nat.le_succ _))
        have HX9 := Lib.hid hX9
        have HB9 := Lib.hid hB9
        have HBD9 : Hid (Bld w9 (w.heap.size + 1) (w.heap.size + 1) (S0 ++ attrsKey n.attrs ++ digL n.kids.length ++ keysL (n.kids.take 0))) := Lib.hid (by simpa [keysL] using hBd9)
        obtain ⟨-, -, -, -, -, q5⟩ := hX9.cells
        clear hX9 hB9 hb9 hBd9 hBd8 HX8 HB8 hBR2 HXR HBr
        go_wp2
        go_loopw [53] (fun i wr => ∃ j : Nat, j ≤ n.kids.length ∧ i = .int .i64 j ∧ Below w.heap.size w wr ∧ Hid (Bld wr (w.heap.size + 1) (w.heap.size + 1) (S0 ++ attrsKey n.attrs ++ digL n.kids.length ++ keysL (n.kids.take j)))) (fun i _ => n.kids.length - (RowKit.intOf i).toNat)
        case atStart => exact ⟨0, by omega, rfl, HB9.out, HBD9⟩
        case round =>
          clear HX9 HB9 HBD9 q5
          obtain ⟨j, hj, rfl, hBr, HBR⟩ := hrel
          by_cases hlt : j < n.kids.length
          · obtain ⟨m, hn⟩ : ∃ m, n.kids[j]? = some m := ⟨_, List.getElem?_eq_getElem hlt⟩
            have hstep := keysL_take n.kids j m hn
            have hcm := count_mem n.kids j m hn
            have hcm2 := count_kids m
            have hok2 := okL_mem HO5.out hn
            obtain ⟨ad, A1, c1, K1, d1, rfl, hv1, e0, e1, e2, e3, e4, e5⟩ := (NodesIn.below hBr HV.out.kids).at_ hn
            have HST := Lib.hid hstep
            have hlk := HLK.out j
            have hkl := keyN_len m hok2
            have HV1 := Lib.hid hv1
            have KC := Lib.hid (fun W h => IH.out m (by omega) (by omega) hok2 W A1 K1 c1 d1 h)
            have ha1 := hBr.alloc hBr.size (.cells (nodeVal m A1 c1 K1 d1) 44)
            have hBda := Lib.hid (HBR.out.kept ((Below.refl _ _).alloc (Nat.le_refl _) (.cells (nodeVal m A1 c1 K1 d1) 44)))
            have HA1 := Lib.hid ha1
            clear hn hstep hok2 hv1 ha1 hBr HBR
            unfold nodeVal at KC HA1 hBda
            go_upto_region 13 with (first
              | (go_at_call 43; (with_reducible refine (KC.out _ (HV1.out.below ((Below.refl _ _).alloc (Nat.le_refl _) _))).mono ?_); rintro e w8 ⟨rfl, hb8⟩; have hBd8 := hBda.out.kept hb8; have HB8 := Lib.hid (below_then HA1.out HA1.out.size hb8); clear hb8)
              | (go_at_call 58; (with_reducible refine (write_calls _ _ _ _ _ rfl hBd8 (by simp only [List.length_append]; omega)).mono ?_); rintro e w9 ⟨rfl, hBd9, hb9⟩))
            have hB9 := HB8.out.trans (hb9.mono (Nat.le_succ _))
            have HBD9 : Hid (Bld w9 (w.heap.size + 1) (w.heap.size + 1) (S0 ++ attrsKey n.attrs ++ digL n.kids.length ++ keysL (n.kids.take (j + 1)))) := Lib.hid (by rw [HST.out, ← List.append_assoc]; exact hBd9)
            clear hb9 hBd9 hBd8 HB8 HST KC HV1 HA1 hBda
            go_wp2
            go_roundw
            case rel => exact ⟨j + 1, by omega, by go_num, hB9, HBD9⟩
            case measure => simp [RowKit.intOf]; omega
          · obtain rfl : j = n.kids.length := by omega
            have hbd := HBR.out
            rw [List.take_length] at hbd
            have HBF := Lib.hid (builderString_calls wr (w.heap.size + 1) (w.heap.size + 1) _ hbd (Nat.le_of_lt hbd.lt))
            clear HBR hbd hlt hj
            go_wp2_with (go_at_call 61; (with_reducible refine HBF.out.mono ?_); rintro e w9 ⟨rfl, hb9⟩)
            go_ret
            exact ⟨by rw [HKEY.out]; rfl, hBr.trans (hb9.mono (Nat.le_succ _))⟩

end Go.Proofs.Ytdlenbkkcpcbmaa
