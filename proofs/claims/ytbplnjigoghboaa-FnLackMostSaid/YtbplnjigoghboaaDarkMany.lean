/- Contract: the program's DarkMany. -/
import Derived.Test.YtbplnjigoghboaaDark
namespace Go.Proofs.Ytbplnjigoghboaa
open Go.RowKit

theorem inCol2_t {W : Int} {bs : List Bool} {k : Nat} (hk : k < bs.length) (h : bs[k] = true) : inCol W 2 0 bs k = darkB W k := by
  rw [inCol_t hk h]
  unfold darkB
  by_cases hh : ((k : Int) % W + (k : Int) / W) % 2 = 0 <;> simp [hh]
set_option maxHeartbeats 1000000 in
theorem darks_any (W T : Int) (A : Option Addr) (c : Nat) (bs : List Bool) (w : World) (hr : Rd w A (bs.map .bool)) (h1 : 1 ≤ W) (h2 : W ≤ 6) (hn : bs.length ≤ 36) :
    Calls Try.prog 138 #[.agg #[.int .i64 W, .int .i64 T, .slice A bs.length c]] w fun e w' => e = .returned (.int .i64 (cntTo (inCol W 2 0 bs) bs.length)) ∧ Below w.heap.size w w' := by
  have X0 := C3.new w (.int .i64 W) (.int .i64 T) (.slice A bs.length c) 40
  go_enter Try.func138, Try.ntmps138
  go_wp2_with fail
  go_loopw [3, 9] (fun n i wr => ∃ k : Nat, k ≤ bs.length ∧ i = .int .i64 k ∧ n = .int .i64 (cntTo (inCol W 2 0 bs) k) ∧ Below w.heap.size w wr ∧ C3 wr w.heap.size (.int .i64 W) (.int .i64 T) (.slice A bs.length c)) (fun _ i _ => bs.length - (intOf i).toNat)
  case atStart => exact ⟨0, Nat.zero_le _, rfl, rfl, bl_alloc (Below.refl _ _) _, X0⟩
  case round =>
    clear X0
    obtain ⟨k, hk, rfl, rfl, B1, X1⟩ := hrel
    have hd := cntTo_bd (inCol W 2 0 bs) k
    by_cases hlt : k < bs.length
    · obtain ⟨ad, rfl, hc⟩ := (hr.belo B1).atM hlt
      obtain ⟨x0, x1, x2⟩ := id X1
      cases hb : bs[k] with
      | true =>
        have HI := Lib.hid (inCol2_t (W := W) hlt hb)
        rw [hb] at hc
        clear hb
        cases hq : darkB W k with
        | true =>
          have HS := Lib.hid (cnt_t (HI.out.trans hq))
          have HQ := Lib.hid hq
          clear HI hq
          go_wp2_with (go_at_call 171; refine (dark_any _ _ _ _ _ h1 h2 (by omega) (by omega)).mono ?_; rintro e w2 ⟨rfl, b2⟩; rw [HQ.out])
          go_roundw
          case rel => exact ⟨k + 1, by omega, by go_num, by rw [HS.out], bl_go B1 b2, X1.belo b2⟩
          case measure => simp [intOf]; omega
        | false =>
          have HS := Lib.hid (cnt_f (HI.out.trans hq))
          have HQ := Lib.hid hq
          clear HI hq
          go_wp2_with (go_at_call 171; refine (dark_any _ _ _ _ _ h1 h2 (by omega) (by omega)).mono ?_; rintro e w2 ⟨rfl, b2⟩; rw [HQ.out])
          go_roundw
          case rel => exact ⟨k + 1, by omega, by go_num, by rw [HS.out], bl_go B1 b2, X1.belo b2⟩
          case measure => simp [intOf]; omega
      | false =>
        have HS := Lib.hid (cnt_f (inCol_f (W := W) (nu := 2) (re := 0) hlt hb))
        rw [hb] at hc
        clear hb
        go_wp2_with fail
        go_roundw
        case rel => exact ⟨k + 1, by omega, by go_num, by rw [HS.out], B1, X1⟩
        case measure => simp [intOf]; omega
    · obtain rfl : k = bs.length := by omega
      go_wp2
      go_ret
      exact ⟨rfl, B1⟩
/-- how many dark cells, or -1 -/
def darkN (W T : Int) (bs : List Bool) : Int := if validB W T bs = true then cntTo (inCol W 2 0 bs) bs.length else -1
set_option maxHeartbeats 1000000 in
theorem iDarkMany_any (W T : Int) (A : Option Addr) (c : Nat) (bs : List Bool) (w : World) (hr : Rd w A (bs.map .bool)) (hn : bs.length ≤ maxLen) :
    Calls Try.prog 65 #[.agg #[.int .i64 W, .int .i64 T, .slice A bs.length c]] w fun e w' => e = .returned (.int .i64 (darkN W T bs)) ∧ Below w.heap.size w w' := by
  have X0 := C3.new w (.int .i64 W) (.int .i64 T) (.slice A bs.length c) 40
  cases hv : validB W T bs with
  | true =>
    obtain ⟨h1, h2, h3, h4, h5, -⟩ := valid_len hv
    rw [show darkN W T bs = cntTo (inCol W 2 0 bs) bs.length by unfold darkN; rw [if_pos hv]]
    have HV := Lib.hid hv
    clear hv
    go_enter Try.func65, Try.ntmps65
    go_wp2_with fail
    refine (iRegionValid_any _ _ _ _ _ _ (hr.alloc _) hn).mono ?_
    rintro e w1 ⟨rfl, b1⟩
    rw [HV.out]
    have B1 := bl_go (bl_alloc (Below.refl w.heap.size w) _) b1
    obtain ⟨x0, x1, x2⟩ := X0.belo b1
    go_wp2_with fail
    refine (darks_any _ _ _ _ _ _ (hr.belo B1) h1 h2 h5).mono ?_
    rintro e w2 ⟨rfl, b2⟩
    go_wp2
    go_ret
    exact ⟨rfl, bl_go B1 b2⟩
  | false =>
    rw [show darkN W T bs = -1 by unfold darkN; rw [hv]; rfl]
    have HV := Lib.hid hv
    clear hv
    go_enter Try.func65, Try.ntmps65
    go_wp2_with fail
    refine (iRegionValid_any _ _ _ _ _ _ (hr.alloc _) hn).mono ?_
    rintro e w1 ⟨rfl, b1⟩
    rw [HV.out]
    have B1 := bl_go (bl_alloc (Below.refl w.heap.size w) _) b1
    go_wp2
    go_ret
    exact ⟨rfl, B1⟩
end Go.Proofs.Ytbplnjigoghboaa
