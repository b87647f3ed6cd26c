/- Walks of package refs: the names. -/
import Derived.Test.YthfkldheflmlmaaGreatDoorRefs2
namespace Go.Proofs.YthfkldheflmlmaaGreatDoor
open Go.RowKit

def refsTab : List (List UInt8 × Int × Bool) := [([97, 109, 112], 38, true), ([108, 116], 60, true), ([103, 116], 62, true), ([113, 117, 111, 116], 34, true), ([110, 98, 115, 112], 160, true), ([99, 111, 112, 121], 169, true), ([114, 101, 103], 174, true), ([110, 111, 116], 172, true), ([110, 111, 116, 105, 110], 8713, false), ([116, 105, 109, 101, 115], 215, true), ([112, 97, 114, 97], 182, true), ([115, 101, 99, 116], 167, true), ([101, 97, 99, 117, 116, 101], 233, true), ([69, 97, 99, 117, 116, 101], 201, true), ([97, 117, 109, 108], 228, true), ([65, 117, 109, 108], 196, true), ([115, 122, 108, 105, 103], 223, true), ([101, 117, 114, 111], 8364, false), ([104, 101, 108, 108, 105, 112], 8230, false), ([109, 100, 97, 115, 104], 8212, false), ([110, 100, 97, 115, 104], 8211, false), ([97, 108, 112, 104, 97], 945, false), ([98, 101, 116, 97], 946, false), ([114, 97, 114, 114], 8594, false), ([108, 97, 114, 114], 8592, false), ([97, 112, 111, 115], 39, false), ([121, 101, 110], 165, true), ([109, 105, 99, 114, 111], 181, true)]
def refAt (k : Nat) : List UInt8 × Int × Bool := refsTab.getD k ([], 0, false)
def refsCells : Array Value := #[.string ⟨#[97, 109, 112]⟩, .int .i64 38, .bool true, .string ⟨#[108, 116]⟩, .int .i64 60, .bool true, .string ⟨#[103, 116]⟩, .int .i64 62, .bool true, .string ⟨#[113, 117, 111, 116]⟩, .int .i64 34, .bool true, .string ⟨#[110, 98, 115, 112]⟩, .int .i64 160, .bool true, .string ⟨#[99, 111, 112, 121]⟩, .int .i64 169, .bool true, .string ⟨#[114, 101, 103]⟩, .int .i64 174, .bool true, .string ⟨#[110, 111, 116]⟩, .int .i64 172, .bool true, .string ⟨#[110, 111, 116, 105, 110]⟩, .int .i64 8713, .bool false, .string ⟨#[116, 105, 109, 101, 115]⟩, .int .i64 215, .bool true, .string ⟨#[112, 97, 114, 97]⟩, .int .i64 182, .bool true, .string ⟨#[115, 101, 99, 116]⟩, .int .i64 167, .bool true, .string ⟨#[101, 97, 99, 117, 116, 101]⟩, .int .i64 233, .bool true, .string ⟨#[69, 97, 99, 117, 116, 101]⟩, .int .i64 201, .bool true, .string ⟨#[97, 117, 109, 108]⟩, .int .i64 228, .bool true, .string ⟨#[65, 117, 109, 108]⟩, .int .i64 196, .bool true, .string ⟨#[115, 122, 108, 105, 103]⟩, .int .i64 223, .bool true, .string ⟨#[101, 117, 114, 111]⟩, .int .i64 8364, .bool false, .string ⟨#[104, 101, 108, 108, 105, 112]⟩, .int .i64 8230, .bool false, .string ⟨#[109, 100, 97, 115, 104]⟩, .int .i64 8212, .bool false, .string ⟨#[110, 100, 97, 115, 104]⟩, .int .i64 8211, .bool false, .string ⟨#[97, 108, 112, 104, 97]⟩, .int .i64 945, .bool false, .string ⟨#[98, 101, 116, 97]⟩, .int .i64 946, .bool false, .string ⟨#[114, 97, 114, 114]⟩, .int .i64 8594, .bool false, .string ⟨#[108, 97, 114, 114]⟩, .int .i64 8592, .bool false, .string ⟨#[97, 112, 111, 115]⟩, .int .i64 39, .bool false, .string ⟨#[121, 101, 110]⟩, .int .i64 165, .bool true, .string ⟨#[109, 105, 99, 114, 111]⟩, .int .i64 181, .bool true]
theorem ref_index (k : Nat) (hk : k < 28) (w : World) : (Instr.index 127 (.agg refsCells) (.int .i64 k)).run Tryz.prog w = .ok (.agg #[.string (mkS (refAt k).1), .int .i64 (refAt k).2.1, .bool (refAt k).2.2]) w := by
  obtain rfl | rfl | rfl | rfl | rfl | rfl | rfl | rfl | rfl | rfl | rfl | rfl | rfl | rfl | rfl | rfl | rfl | rfl | rfl | rfl | rfl | rfl | rfl | rfl | rfl | rfl | rfl | rfl : k = 0 ∨ k = 1 ∨ k = 2 ∨ k = 3 ∨ k = 4 ∨ k = 5 ∨ k = 6 ∨ k = 7 ∨ k = 8 ∨ k = 9 ∨ k = 10 ∨ k = 11 ∨ k = 12 ∨ k = 13 ∨ k = 14 ∨ k = 15 ∨ k = 16 ∨ k = 17 ∨ k = 18 ∨ k = 19 ∨ k = 20 ∨ k = 21 ∨ k = 22 ∨ k = 23 ∨ k = 24 ∨ k = 25 ∨ k = 26 ∨ k = 27 := by omega
  all_goals kernel_rfl
theorem ref_len (k : Nat) : (refAt k).1.length ≤ 6 := by
  by_cases hk : k < 28
  · have : ∀ k : Fin 28, (refAt k.val).1.length ≤ 6 := by decide +kernel
    exact this ⟨k, hk⟩
  · rw [refAt, List.getD, List.getElem?_eq_none (by show 28 ≤ k; omega)]; exact Nat.zero_le _

/-- Does a list begin with what holds a name that no ; ends? -/
def keptB (l : List UInt8) : Bool := match l with | [] => false | b :: _ => (b.toNat : Int) == 61 || (letterI b.toNat || digitI b.toNat)
def refStep (l : List UInt8) (value : Bool) (acc : Int × Nat) (r : List UInt8 × Int × Bool) : Int × Nat :=
  if Lib.hasPrefix l r.1 = false then acc else
  if headIs (l.drop r.1.length) 59 then (if acc.2 < r.1.length + 1 then (r.2.1, r.1.length + 1) else acc)
  else if (!r.2.2 || (value && keptB (l.drop r.1.length))) = true then acc
  else if acc.2 < r.1.length then (r.2.1, r.1.length) else acc
/-- The character of a reference by a name with which a list begins, and how many bytes it has. -/
def namL (l : List UInt8) (value : Bool) : Int × Nat := refsTab.foldl (refStep l value) (0, 0)
def namTo (l : List UInt8) (value : Bool) (k : Nat) : Int × Nat := (refsTab.take k).foldl (refStep l value) (0, 0)
theorem namTo_succ (l : List UInt8) (value : Bool) (k : Nat) (hk : k < 28) : namTo l value (k + 1) = refStep l value (namTo l value k) (refAt k) := by
  have hl : k < refsTab.length := hk
  rw [namTo, List.take_succ_eq_append_getElem hl, List.foldl_append, refAt, List.getD, List.getElem?_eq_getElem hl]
  rfl
theorem hasPrefix_one (l : List UInt8) (c : UInt8) : Lib.hasPrefix l [c] = headIs l c.toNat := by
  cases l with
  | nil => rfl
  | cons b t =>
    simp only [Lib.hasPrefix, List.isPrefixOf, headIs, Bool.and_true]
    rw [Bool.eq_iff_iff, beq_iff_eq, beq_iff_eq, ← UInt8.toNat_inj]
    exact eq_comm

theorem trimPrefix_drop {l p : List UInt8} (h : Lib.hasPrefix l p = true) : Lib.trimPrefix l p = l.drop p.length := by rw [Lib.trimPrefix, if_pos h]
theorem size_mkS (l : List UInt8) : (mkS l).size = l.length := by show l.toArray.size = l.length; simp
theorem keptB_nil {s : ByteArray} (h : s.size = 0) : keptB s.data.toList = false := by
  rw [← ByteArray.toList_eq, empty_toL h]; rfl
theorem keptB_cons {s : ByteArray} (h : 0 < s.size) : keptB s.data.toList = (bI s 0 == 61 || (letterI (bI s 0) || digitI (bI s 0))) := by
  have hd := drop_uB s 0 h
  rw [List.drop_zero] at hd
  rw [hd]
  rfl

set_option maxRecDepth 100000 in
set_option maxHeartbeats 4000000 in
theorem nam_calls (w : World) (s : ByteArray) (value : Bool) (ht : Glob w 2 refsCells) (hs : s.size ≤ 1000000000) :
    Calls Tryz.prog 86 #[.string s, .bool value] w fun e w' => e = .returned (.tuple #[.int .i64 (namL s.data.toList value).1, .int .i64 (namL s.data.toList value).2]) ∧ Below w.heap.size w w' := by
  obtain ⟨t, fr, hg⟩ := ht
  have HG := Lib.hid hg
  have HX := Lib.hid ref_index
  clear hg
  go_enter Tryz.func86, Tryz.ntmps86
  go_wp2_with (refine wpList_load_row rfl 127 _ rfl 2 rfl t _ fr _ HG.out Tryz.underlying127 rfl (by kernel_rfl) ?_)
  generalize hcs : refsCells = cs at HX
  have HCS := Lib.hid hcs
  clear hcs
  go_loopw [6, 7, 14] (fun c z i wr => ∃ k : Nat, k ≤ 28 ∧ i = .int .i64 k ∧ c = .int .i64 (namTo s.data.toList value k).1 ∧ z = .int .i64 (namTo s.data.toList value k).2 ∧ Below w.heap.size w wr) (fun _ _ i _ => 28 - (intOf i).toNat)
  case atStart => exact ⟨0, by omega, rfl, rfl, rfl, Below.refl _ _⟩
  case round =>
    obtain ⟨k, hk, rfl, rfl, rfl, hb⟩ := hrel
    by_cases hlt : k < 28
    · have hx := HX.out k hlt
      have hst := namTo_succ s.data.toList value k hlt
      have hrl := ref_len k
      generalize hn0 : namTo s.data.toList value (k + 1) = nx at *
      have HN0 := Lib.hid hn0
      clear hn0
      generalize namTo s.data.toList value k = ac at *
      obtain ⟨ac1, ac2⟩ := ac
      generalize refAt k = r at *
      obtain ⟨r1, r2, r3⟩ := r
      have HST := Lib.hid hst
      clear hst
      have CP := Lib.hid (fun w => cutPrefix_calls w s (mkS r1))
      have HP := Lib.hid (fun w t => hasPrefix_calls w t (mkS [59]))
      cases hpf : Lib.hasPrefix s.data.toList r1 with
      | false =>
        have hnx : nx = (ac1, ac2) := by rw [HST.out, refStep, if_pos hpf]
        have HNX := Lib.hid hnx
        have HPF := Lib.hid hpf
        clear hnx hpf
        go_wp2_with (go_at_call 48; refine (CP.out _).mono ?_; rintro e w1 ⟨rfl, rfl⟩; rw [of_mkS, HPF.out])
        go_roundw
        case rel => exact ⟨k + 1, by omega, by go_num, by rw [HN0.out, HNX.out], by rw [HN0.out, HNX.out], hb.alloc hb.size _⟩
        case measure => simp [intOf]; omega
      | true =>
        obtain ⟨rs, hrs⟩ : ∃ rs, rs = mkS (Lib.trimPrefix s.data.toList r1) := ⟨_, rfl⟩
        have hrl2 : rs.data.toList = s.data.toList.drop r1.length := by rw [hrs, of_mkS, trimPrefix_drop hpf]
        have hrz : rs.size ≤ s.size := by rw [← len_toL rs, hrl2, List.length_drop, len_toL]; omega
        have hnx : nx = if headIs rs.data.toList 59 then (if ac2 < r1.length + 1 then (r2, r1.length + 1) else (ac1, ac2))
            else if (!r3 || (value && keptB rs.data.toList)) = true then (ac1, ac2) else if ac2 < r1.length then (r2, r1.length) else (ac1, ac2) := by
          rw [HST.out, refStep, if_neg (by rw [hpf]; simp), hrl2]
        have HNX := Lib.hid hnx
        have HPF := Lib.hid hpf
        have HRS := Lib.hid hrs.symm
        have hn1 := size_mkS r1
        have hbt := bI_at rs
        clear hnx hpf hrs hrl2
        cases h59 : headIs rs.data.toList 59 with
        | true =>
          have H59 := Lib.hid h59
          clear h59
          by_cases hgt : ac2 < r1.length + 1
          · have hq : nx = (r2, r1.length + 1) := by rw [HNX.out, if_pos H59.out, if_pos hgt]
            have HQ := Lib.hid hq
            clear hq
            go_wp2_with (first | (go_at_call 48; refine (CP.out _).mono ?_; rintro e w1 ⟨rfl, rfl⟩; rw [of_mkS, HPF.out, HRS.out]) | (go_at_call 20; refine (HP.out _ _).mono ?_; rintro e w1 ⟨rfl, rfl⟩; rw [of_mkS, hasPrefix_one, show (59 : UInt8).toNat = 59 from rfl, H59.out]))
            go_roundw
            case rel => exact ⟨k + 1, by omega, by go_num, by rw [HN0.out, HQ.out], by rw [HN0.out, HQ.out]; go_num, hb.alloc hb.size _⟩
            case measure => simp [intOf]; omega
          · have hq : nx = (ac1, ac2) := by rw [HNX.out, if_pos H59.out, if_neg hgt]
            have HQ := Lib.hid hq
            clear hq
            go_wp2_with (first | (go_at_call 48; refine (CP.out _).mono ?_; rintro e w1 ⟨rfl, rfl⟩; rw [of_mkS, HPF.out, HRS.out]) | (go_at_call 20; refine (HP.out _ _).mono ?_; rintro e w1 ⟨rfl, rfl⟩; rw [of_mkS, hasPrefix_one, show (59 : UInt8).toNat = 59 from rfl, H59.out]))
            go_roundw
            case rel => exact ⟨k + 1, by omega, by go_num, by rw [HN0.out, HQ.out], by rw [HN0.out, HQ.out], hb.alloc hb.size _⟩
            case measure => simp [intOf]; omega
        | false =>
          have H59 := Lib.hid h59
          clear h59
          go_upto_region 10 with (first | (go_at_call 48; refine (CP.out _).mono ?_; rintro e w1 ⟨rfl, rfl⟩; rw [of_mkS, HPF.out, HRS.out]) | (go_at_call 20; refine (HP.out _ _).mono ?_; rintro e w1 ⟨rfl, rfl⟩; rw [of_mkS, hasPrefix_one, show (59 : UInt8).toNat = 59 from rfl, H59.out]))
          obtain ⟨wo, hwo⟩ : ∃ wo : World, wo = wr.alloc (.cells #[.string (mkS r1), .int .i64 r2, .bool r3] 126) := ⟨_, rfl⟩
          go_cut [57] (fun t wc => t = .bool (!r3 || (value && keptB rs.data.toList)) ∧ wr.alloc (.cells #[.string (mkS r1), .int .i64 r2, .bool r3] 126) = wc)
          case first =>
            clear hwo
            cases r3 with
            | false =>
              go_wp2
              go_meet
              case rel => exact ⟨rfl, rfl⟩
            | true =>
              cases value with
              | false =>
                go_wp2
                go_meet
                case rel => exact ⟨rfl, rfl⟩
              | true =>
                by_cases hz : rs.size = 0
                · have hke := keptB_nil hz
                  have hem := empty_toL hz
                  have HKE := Lib.hid hke
                  clear hke hz
                  go_wp2
                  go_meet
                  case rel => exact ⟨by rw [HKE.out]; rfl, rfl⟩
                · have hem := nonempty_toL (s := rs) (by omega)
                  have HKE := Lib.hid (keptB_cons (s := rs) (by omega))
                  have hr := bI_range rs 0
                  have hz' : 0 < rs.size := by omega
                  clear hz
                  by_cases h61 : bI rs 0 = 61
                  · have h61' : (bI rs 0 == 61) = true := by simp [h61]
                    have HE := Lib.hid h61
                    clear h61
                    go_wp2
                    go_meet
                    case rel => exact ⟨by rw [HKE.out, h61'] <;> rfl, rfl⟩
                  · have h61' : (bI rs 0 == 61) = false := by simp [h61]
                    have LC := Lib.hid (fun w => letter_calls w (bI rs 0))
                    have DC := Lib.hid (fun w => digit_calls w (bI rs 0))
                    cases hlt2 : letterI (bI rs 0) with
                    | true =>
                      have HL := Lib.hid hlt2
                      clear hlt2
                      go_wp2_with (go_at_call 76; refine (LC.out _).mono ?_; rintro e w1 ⟨rfl, rfl⟩; rw [HL.out])
                      go_meet
                      case rel => exact ⟨by rw [HKE.out, h61', HL.out] <;> rfl, rfl⟩
                    | false =>
                      have HL := Lib.hid hlt2
                      clear hlt2
                      go_wp2_with (first | (go_at_call 76; refine (LC.out _).mono ?_; rintro e w1 ⟨rfl, rfl⟩; rw [HL.out]) | (go_at_call 40; refine (DC.out _).mono ?_; rintro e w1 ⟨rfl, rfl⟩))
                      go_meet
                      case rel => exact ⟨by rw [HKE.out, h61', HL.out] <;> simp, rfl⟩
          case rest =>
            obtain ⟨rfl, rfl⟩ := hcut
            clear hwo
            cases hk2 : (!r3 || (value && keptB rs.data.toList)) with
            | true =>
              have hq : nx = (ac1, ac2) := by rw [HNX.out, if_neg (by rw [H59.out]; simp), if_pos hk2]
              have HQ := Lib.hid hq
              clear hq
              go_wp2
              go_roundw
              case rel => exact ⟨k + 1, by omega, by go_num, by rw [HN0.out, HQ.out], by rw [HN0.out, HQ.out], hb.alloc hb.size _⟩
              case measure => simp [intOf]; omega
            | false =>
              by_cases hgt : ac2 < r1.length
              · have hq : nx = (r2, r1.length) := by rw [HNX.out, if_neg (by rw [H59.out]; simp), if_neg (by rw [hk2]; simp), if_pos hgt]
                have HQ := Lib.hid hq
                clear hq
                go_wp2
                go_roundw
                case rel => exact ⟨k + 1, by omega, by go_num, by rw [HN0.out, HQ.out], by rw [HN0.out, HQ.out], hb.alloc hb.size _⟩
                case measure => simp [intOf]; omega
              · have hq : nx = (ac1, ac2) := by rw [HNX.out, if_neg (by rw [H59.out]; simp), if_neg (by rw [hk2]; simp), if_neg hgt]
                have HQ := Lib.hid hq
                clear hq
                go_wp2
                go_roundw
                case rel => exact ⟨k + 1, by omega, by go_num, by rw [HN0.out, HQ.out], by rw [HN0.out, HQ.out], hb.alloc hb.size _⟩
                case measure => simp [intOf]; omega
    · obtain rfl : k = 28 := by omega
      go_wp2
      go_ret2
      exact ⟨rfl, hb⟩

end Go.Proofs.YthfkldheflmlmaaGreatDoor
