
/- Contracts: StepTo, the program's and the reference's. -/
import Derived.Test.YtafmpgikdhlknaaGreatStep
namespace Go.Proofs.YtafmpgikdhlknaaGreat
open Go.RowKit

/-- a step, asked for from outside -/
def stepTo (W T : Int) (bs : List Bool) (c d : Int) : Int := if validB W T bs = true ∧ 0 ≤ c ∧ c < bs.length then stepZ W T c d else -1
theorem stepTo_in {W T c d : Int} {bs : List Bool} (hv : validB W T bs = true) (c0 : 0 ≤ c) (c1 : c < bs.length) : stepTo W T bs c d = stepZ W T c d := by unfold stepTo; rw [if_pos ⟨hv, c0, c1⟩]
set_option maxHeartbeats 1000000 in
theorem sStepTo_any (W T : Int) (A : Option Addr) (n : Nat) (bs : List Bool) (c d : Int) (w : World) (hr : Rd w A (bs.map .bool)) (hn : bs.length ≤ maxLen) :
    Calls Tryz.prog 141 #[.agg #[.int .i64 W, .int .i64 T, .slice A bs.length n], .int .i64 c, .int .i64 d] w fun e w' => e = .returned (.int .i64 (stepTo W T bs c d)) ∧ Below w.heap.size w w' := by
  have X0 := C3.new w (.int .i64 W) (.int .i64 T) (.slice A bs.length n) 25
  cases hv : validB W T bs with
  | true =>
    obtain ⟨h1, h2, h3, h4, h5, h6⟩ := valid_len hv
    by_cases hc : 0 ≤ c ∧ c < bs.length
    · obtain ⟨c0, c1⟩ := hc
      have HF := Lib.hid (stepTo_in (d := d) hv c0 c1)
      have CL := Lib.hid (show c < W * T by omega)
      clear h6
      by_cases hd : 1 ≤ d ∧ d ≤ 4
      · obtain ⟨d0, d1⟩ := hd
        go_enter Tryz.func141, Tryz.ntmps141
        go_wp2_with fail
        refine (sRegionValid_any _ _ _ _ _ _ (hr.alloc _) hn).mono ?_
        rintro e w1 ⟨rfl, b1⟩
        rw [hv]
        have B1 := bl_go (bl_alloc (Below.refl w.heap.size w) _) b1
        obtain ⟨x0, x1, x2⟩ := X0.belo b1
        go_wp2_with (go_at_call 71; refine (l1in_t _ _ _ _ (by omega) (by omega)).mono ?_; rintro e w' ⟨rfl, rfl⟩)
        refine (l2step_any W T _ c d _ h1 h2 h3 h4 c0 CL.out).mono ?_
        rintro e w3 ⟨rfl, b3⟩
        go_wp2
        go_ret
        exact ⟨ret_i HF.out.symm, bl_go B1 b3⟩
      · have HZ := Lib.hid (show -1 = stepTo W T bs c d by rw [HF.out, step0 (by omega)])
        clear HF
        go_enter Tryz.func141, Tryz.ntmps141
        go_wp2_with fail
        refine (sRegionValid_any _ _ _ _ _ _ (hr.alloc _) hn).mono ?_
        rintro e w1 ⟨rfl, b1⟩
        rw [hv]
        have B1 := bl_go (bl_alloc (Below.refl w.heap.size w) _) b1
        obtain ⟨x0, x1, x2⟩ := X0.belo b1
        go_wp2_with (first | (go_at_call 71; refine (l1in_t _ _ _ _ (by omega) (by omega)).mono ?_; rintro e w' ⟨rfl, rfl⟩) | (go_at_call 71; refine (l1in_f _ _ _ _ (by omega)).mono ?_; rintro e w' ⟨rfl, rfl⟩))
        go_ret
        exact ⟨ret_i HZ.out, B1⟩
    · have HF := Lib.hid (show stepTo W T bs c d = -1 by unfold stepTo; rw [if_neg (fun h => hc h.2)])
      clear h6
      go_enter Tryz.func141, Tryz.ntmps141
      go_wp2_with fail
      refine (sRegionValid_any _ _ _ _ _ _ (hr.alloc _) hn).mono ?_
      rintro e w1 ⟨rfl, b1⟩
      rw [hv]
      have B1 := bl_go (bl_alloc (Below.refl w.heap.size w) _) b1
      obtain ⟨x0, x1, x2⟩ := X0.belo b1
      go_wp2_with (go_at_call 71; refine (l1in_f _ _ _ _ (by omega)).mono ?_; rintro e w' ⟨rfl, rfl⟩)
      go_ret
      exact ⟨ret_i HF.out.symm, B1⟩
  | false =>
    have HF := Lib.hid (show stepTo W T bs c d = -1 by unfold stepTo; rw [if_neg (fun h => by rw [hv] at h; exact absurd h.1 (by decide))])
    go_enter Tryz.func141, Tryz.ntmps141
    go_wp2_with fail
    refine (sRegionValid_any _ _ _ _ _ _ (hr.alloc _) hn).mono ?_
    rintro e w1 ⟨rfl, b1⟩
    rw [hv]
    have B1 := bl_go (bl_alloc (Below.refl w.heap.size w) _) b1
    go_wp2
    go_ret
    exact ⟨ret_i HF.out.symm, B1⟩
end Go.Proofs.YtafmpgikdhlknaaGreat
