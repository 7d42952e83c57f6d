
/- Contracts: steps from cell to cell, the program's and the reference's. -/
import Derived.Test.YtohbnogmeldmpaaStepN
import Derived.Test.YtohbnogmeldmpaaColour
namespace Go.Proofs.Ytohbnogmeldmpaa
open Go.RowKit

set_option maxHeartbeats 1000000 in
/-- a step, the direction and whether it stays inside decided -/
theorem step_any (W T : Int) (S : Value) (c d : Int) (w : World) (h1 : 1 ≤ W) (h2 : W ≤ 6) (h3 : 1 ≤ T) (h4 : T ≤ 6) (c0 : 0 ≤ c) (c1 : c < W * T) :
    Calls Try.prog 52 #[.agg #[.int .i64 W, .int .i64 T, S], .int .i64 c, .int .i64 d] w fun e w' => e = .returned (.int .i64 (stepZ W T c d)) ∧ Below w.heap.size w w' := by
  obtain ⟨X, Y, eX, eY, x0, x1, y0, y1, ec, m0, m1, c2⟩ := cell_xy h1 h2 h3 h4 c0 c1
  obtain ⟨m2, m3⟩ := xy_cell h1 h2 h3 h4 x0 x1 y0 y1
  have XY := Lib.hid (fun w => by have := xy_any W T S c w h1 h2 c0 (by omega); rw [eX, eY] at this; exact this)
  have X0 := C3.new w (.int .i64 W) (.int .i64 T) S 27
  have CL := Lib.hid c1
  clear c1 m2 m3
  rcases (show d = 1 ∨ d = 2 ∨ d = 3 ∨ d = 4 ∨ (d < 1 ∨ 4 < d) from by omega) with rfl | rfl | rfl | rfl | hd
  · have HS := Lib.hid (step1 (W := W) (T := T) (c := c))
    by_cases hx : X < W - 1
    · have HR := Lib.hid (show Y * W + (X + 1) = stepZ W T c 1 by rw [HS.out, eX, if_pos hx]; omega)
      clear HS eX eY ec
      go_enter Try.func52, Try.ntmps52
      go_wp2_with fail
      refine (XY.out _).mono ?_
      rintro e w1 ⟨rfl, b1⟩
      have B1 := bl_go (bl_alloc (Below.refl w.heap.size w) _) b1
      obtain ⟨z0, z1, z2⟩ := X0.belo b1
      go_wp2_with (go_at_call 39; refine (in_t _ _ _ _ (by omega) (by omega)).mono ?_; rintro e w' ⟨rfl, rfl⟩)
      go_ret
      exact ⟨ret_i HR.out, B1⟩
    · have HR := Lib.hid (show -1 = stepZ W T c 1 by rw [HS.out, eX, if_neg hx])
      clear HS eX eY ec
      go_enter Try.func52, Try.ntmps52
      go_wp2_with fail
      refine (XY.out _).mono ?_
      rintro e w1 ⟨rfl, b1⟩
      have B1 := bl_go (bl_alloc (Below.refl w.heap.size w) _) b1
      obtain ⟨z0, z1, z2⟩ := X0.belo b1
      go_wp2_with (go_at_call 39; refine (in_f _ _ _ _ (by omega)).mono ?_; rintro e w' ⟨rfl, rfl⟩)
      go_ret
      exact ⟨ret_i HR.out, B1⟩
  · have HS := Lib.hid (step2 (W := W) (T := T) (c := c))
    have mY : (Y + 1) * W = Y * W + W := by rw [Int.add_mul]; omega
    by_cases hy : Y < T - 1
    · have HR := Lib.hid (show (Y + 1) * W + X = stepZ W T c 2 by rw [HS.out, eY, if_pos hy]; omega)
      have n0 : 0 ≤ (Y + 1) * W := by omega
      have n1 : (Y + 1) * W ≤ 50 := by omega
      clear HS eX eY ec mY
      go_enter Try.func52, Try.ntmps52
      go_wp2_with fail
      refine (XY.out _).mono ?_
      rintro e w1 ⟨rfl, b1⟩
      have B1 := bl_go (bl_alloc (Below.refl w.heap.size w) _) b1
      obtain ⟨z0, z1, z2⟩ := X0.belo b1
      go_wp2_with (go_at_call 39; refine (in_t _ _ _ _ (by omega) (by omega)).mono ?_; rintro e w' ⟨rfl, rfl⟩)
      go_ret
      exact ⟨ret_i HR.out, B1⟩
    · have HR := Lib.hid (show -1 = stepZ W T c 2 by rw [HS.out, eY, if_neg hy])
      clear HS eX eY ec mY
      go_enter Try.func52, Try.ntmps52
      go_wp2_with fail
      refine (XY.out _).mono ?_
      rintro e w1 ⟨rfl, b1⟩
      have B1 := bl_go (bl_alloc (Below.refl w.heap.size w) _) b1
      obtain ⟨z0, z1, z2⟩ := X0.belo b1
      go_wp2_with (first | (go_at_call 39; refine (in_t _ _ _ _ (by omega) (by omega)).mono ?_; rintro e w' ⟨rfl, rfl⟩) | (go_at_call 39; refine (in_f _ _ _ _ (by omega)).mono ?_; rintro e w' ⟨rfl, rfl⟩))
      go_ret
      exact ⟨ret_i HR.out, B1⟩
  · have HS := Lib.hid (step3 (W := W) (T := T) (c := c))
    by_cases hx : 0 < X
    · have HR := Lib.hid (show Y * W + (X - 1) = stepZ W T c 3 by rw [HS.out, eX, if_pos hx]; omega)
      clear HS eX eY ec
      go_enter Try.func52, Try.ntmps52
      go_wp2_with fail
      refine (XY.out _).mono ?_
      rintro e w1 ⟨rfl, b1⟩
      have B1 := bl_go (bl_alloc (Below.refl w.heap.size w) _) b1
      obtain ⟨z0, z1, z2⟩ := X0.belo b1
      go_wp2_with (go_at_call 39; refine (in_t _ _ _ _ (by omega) (by omega)).mono ?_; rintro e w' ⟨rfl, rfl⟩)
      go_ret
      exact ⟨ret_i HR.out, B1⟩
    · have HR := Lib.hid (show -1 = stepZ W T c 3 by rw [HS.out, eX, if_neg hx])
      clear HS eX eY ec
      go_enter Try.func52, Try.ntmps52
      go_wp2_with fail
      refine (XY.out _).mono ?_
      rintro e w1 ⟨rfl, b1⟩
      have B1 := bl_go (bl_alloc (Below.refl w.heap.size w) _) b1
      obtain ⟨z0, z1, z2⟩ := X0.belo b1
      go_wp2_with (go_at_call 39; refine (in_f _ _ _ _ (by omega)).mono ?_; rintro e w' ⟨rfl, rfl⟩)
      go_ret
      exact ⟨ret_i HR.out, B1⟩
  · have HS := Lib.hid (step4 (W := W) (T := T) (c := c))
    have mY : (Y - 1) * W = Y * W - W := by rw [Int.sub_mul]; omega
    by_cases hy : 0 < Y
    · have hW : W ≤ Y * W := by
        have := Int.mul_le_mul_of_nonneg_right (show (1 : Int) ≤ Y by omega) (show (0 : Int) ≤ W by omega)
        omega
      have HR := Lib.hid (show (Y - 1) * W + X = stepZ W T c 4 by rw [HS.out, eY, if_pos hy]; omega)
      have n0 : 0 ≤ (Y - 1) * W := by omega
      have n1 : (Y - 1) * W ≤ 50 := by omega
      clear HS eX eY ec mY
      go_enter Try.func52, Try.ntmps52
      go_wp2_with fail
      refine (XY.out _).mono ?_
      rintro e w1 ⟨rfl, b1⟩
      have B1 := bl_go (bl_alloc (Below.refl w.heap.size w) _) b1
      obtain ⟨z0, z1, z2⟩ := X0.belo b1
      go_wp2_with (go_at_call 39; refine (in_t _ _ _ _ (by omega) (by omega)).mono ?_; rintro e w' ⟨rfl, rfl⟩)
      go_ret
      exact ⟨ret_i HR.out, B1⟩
    · have HR := Lib.hid (show -1 = stepZ W T c 4 by rw [HS.out, eY, if_neg hy])
      clear HS eX eY ec mY
      go_enter Try.func52, Try.ntmps52
      go_wp2_with fail
      refine (XY.out _).mono ?_
      rintro e w1 ⟨rfl, b1⟩
      have B1 := bl_go (bl_alloc (Below.refl w.heap.size w) _) b1
      obtain ⟨z0, z1, z2⟩ := X0.belo b1
      go_wp2_with (first | (go_at_call 39; refine (in_t _ _ _ _ (by omega) (by omega)).mono ?_; rintro e w' ⟨rfl, rfl⟩) | (go_at_call 39; refine (in_f _ _ _ _ (by omega)).mono ?_; rintro e w' ⟨rfl, rfl⟩))
      go_ret
      exact ⟨ret_i HR.out, B1⟩
  · have HR := Lib.hid (show -1 = stepZ W T c d from (step0 hd).symm)
    have t1 : (d == 1) = false := by rw [beq_eq_false_iff_ne]; omega
    have t2 : (d == 2) = false := by rw [beq_eq_false_iff_ne]; omega
    have t3 : (d == 3) = false := by rw [beq_eq_false_iff_ne]; omega
    have t4 : (d == 4) = false := by rw [beq_eq_false_iff_ne]; omega
    clear eX eY ec hd
    go_enter Try.func52, Try.ntmps52
    go_wp2_with fail
    refine (XY.out _).mono ?_
    rintro e w1 ⟨rfl, b1⟩
    have B1 := bl_go (bl_alloc (Below.refl w.heap.size w) _) b1
    go_wp2
    go_ret
    exact ⟨ret_i HR.out, B1⟩
end Go.Proofs.Ytohbnogmeldmpaa
