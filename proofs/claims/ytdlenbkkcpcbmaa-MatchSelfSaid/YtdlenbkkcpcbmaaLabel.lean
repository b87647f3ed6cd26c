/- A text behind its length, a node's label (keys.text, keys.Label): contracts. -/
import Derived.Test.YtdlenbkkcpcbmaaDigits
namespace Go.Proofs.Ytdlenbkkcpcbmaa
open Go.RowKit Go.Lib Go.Sort Go.BigFrame

def textL (l : List UInt8) : List UInt8 := digL l.length ++ l
def labelL (n : NodeT) : List UInt8 := digL n.kind ++ digL n.space ++ n.name
theorem digL_len (n : Int) : (digL n).length ≤ 22 := by
  rw [digL]
  split
  · have := decF_len 20 (-n - 1).toNat; rw [List.length_cons, List.length_append, List.length_singleton]; omega
  · have := decF_len 20 n.toNat; rw [List.length_append, List.length_singleton]; omega
theorem i64_nat (n : Nat) (h : n ≤ 1000000) : I64 n := ⟨by omega, by omega⟩
set_option maxRecDepth 100000 in
set_option maxHeartbeats 2000000 in
theorem text_calls (s : ByteArray) (hs : s.size ≤ 1000000) (w : World) :
    Calls Try.prog 60 #[.string s] w fun e w' => e = .returned (.string (mkS (textL s.data.toList))) ∧ Below w.heap.size w w' := by
  have DC := Lib.hid (fun W => digits_calls (s.size : Int) (i64_nat s.size hs) W)
  have hl := digL_len (s.size : Int)
  have hv : textL s.data.toList = digL (s.size : Int) ++ s.data.toList := by rw [textL, len_toL]
  rw [hv]
  clear hv
  generalize digL (s.size : Int) = x at *
  have z1 : (mkS x).size ≤ 22 := by rw [size_mkS]; exact hl
  go_enter Try.func60, Try.ntmps60
  go_wp2_with (go_at_call 59; (with_reducible refine (DC.out _).mono ?_); rintro e w1 ⟨rfl, hb1⟩)
  go_ret
  exact ⟨congrArg (fun y => Ending.returned (Value.string y)) (mkS_snoc x s _ rfl), hb1⟩
set_option maxRecDepth 100000 in
set_option maxHeartbeats 4000000 in
theorem label_calls (w : World) (n : NodeT) (A K : Option Addr) (c d : Nat) (hv : NodeV w n A K) (hn : n.name.length ≤ 1000) :
    Calls Try.prog 44 #[.agg (nodeVal n A c K d)] w fun e w' => e = .returned (.string (mkS (labelL n))) ∧ Below w.heap.size w w' := by
  unfold nodeVal
  have D1 := Lib.hid (fun W => digits_calls n.kind hv.kind64 W)
  have D2 := Lib.hid (fun W => digits_calls n.space hv.space64 W)
  have l1 := digL_len n.kind
  have l2 := digL_len n.space
  have hlv : labelL n = digL n.kind ++ digL n.space ++ n.name := rfl
  rw [hlv]
  have hP := blk_new w #[.int .i64 n.kind, .int .i64 n.space, .string (mkS n.name), .slice A n.attrs.length c, .string (mkS n.text), .slice K n.kids.length d] 44
  have hb0 : Below w.heap.size w (w.alloc (.cells #[.int .i64 n.kind, .int .i64 n.space, .string (mkS n.name), .slice A n.attrs.length c, .string (mkS n.text), .slice K n.kids.length d] 44)) := (Below.refl _ _).alloc (Nat.le_refl _) _
  clear hlv hv
  generalize digL n.kind = x at *
  generalize digL n.space = y at *
  go_enter Try.func44, Try.ntmps44
  go_upto_region 1 with fail
  generalize w.alloc (.cells #[.int .i64 n.kind, .int .i64 n.space, .string (mkS n.name), .slice A n.attrs.length c, .string (mkS n.text), .slice K n.kids.length d] 44) = w0 at *
  have z1 : (mkS x).size ≤ 22 := by rw [size_mkS]; exact l1
  have z2 : (mkS y).size ≤ 22 := by rw [size_mkS]; exact l2
  have z3 : (mkS n.name).size ≤ 1000 := by rw [size_mkS]; exact hn
  have p0 := blk_cell hP 0
  have p1 := blk_cell hP 1
  have p2 := blk_cell hP 2
  have p0 : w0.cell? ⟨w.heap.size, 0, none⟩ = some (.int .i64 n.kind) := p0
  have p1 : w0.cell? ⟨w.heap.size, 1, none⟩ = some (.int .i64 n.space) := p1
  have p2 : w0.cell? ⟨w.heap.size, 2, none⟩ = some (.string (mkS n.name)) := p2
  have gp0 := cell_regrown p0
  have gp1 := cell_regrown p1
  have gp2 := cell_regrown p2
  have c1 := fun d os => Calls.regrown_of (D1.out (grow (redrawn w0 d) os))
  have c2 := fun d os => Calls.regrown_of (D2.out (grow (redrawn w0 d) os))
  clear p0 p1 p2 hP
  refine wp_region_quiet_below (by kernel_rfl) (by kernel_rfl) ?_
  repeat (go_big_quiet_step (first | with_reducible exact c1 _ _ | with_reducible exact c2 _ _))
  refine wpQuiet_nil ?_
  intro w6 hw'
  obtain ⟨⟨dq, osq⟩, hw''⟩ := hw'
  have hb6 := below_regrown w0 dq osq
  rw [← hw''] at hb6
  clear hw''
  go_wp2_with fail
  go_ret
  exact ⟨by
    show Ending.returned (Value.string (mkS x ++ mkS y ++ mkS n.name)) = _
    rw [mkS_snoc x (mkS y) y (of_mkS _), mkS_snoc (x ++ y) (mkS n.name) n.name (of_mkS _)]
    first | done | rfl | rw [List.append_assoc], below_then hb0 hb0.size hb6⟩

end Go.Proofs.Ytdlenbkkcpcbmaa
