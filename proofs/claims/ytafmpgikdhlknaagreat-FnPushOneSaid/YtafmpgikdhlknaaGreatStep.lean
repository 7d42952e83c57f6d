
/- Contracts: steps from cell to cell, the program's and the reference's. -/
import Derived.Test.YtafmpgikdhlknaaGreatStepN
import Derived.Test.YtafmpgikdhlknaaGreatColour
namespace Go.Proofs.YtafmpgikdhlknaaGreat
open Go.RowKit

set_option maxHeartbeats 400000 in
theorem iback_any (d : Int) (w : World) (h1 : 0 ≤ d) (h2 : d ≤ 1000) :
    Calls Tryz.prog 113 #[.int .i64 d] w fun e w' => e = .returned (.int .i64 (backZ d)) ∧ w = w' := by
  go_enter Tryz.func113, Tryz.ntmps113
  go_wp2
  go_ret
  exact ⟨ret_i (by unfold backZ; rfl), rfl⟩
set_option maxHeartbeats 400000 in
theorem sback_any (d : Int) (w : World) (h1 : 0 ≤ d) (h2 : d ≤ 1000) :
    Calls Tryz.prog 123 #[.int .i64 d] w fun e w' => e = .returned (.int .i64 (backZ d)) ∧ w = w' := by
  go_enter Tryz.func123, Tryz.ntmps123
  go_wp2
  go_ret
  exact ⟨ret_i (by unfold backZ; rfl), rfl⟩
set_option maxHeartbeats 400000 in
theorem has_any (W T : Int) (A : Option Addr) (n c : Nat) (cell : Int) (w : World) (hn : n ≤ 1000000000000) :
    Calls Tryz.prog 136 #[.agg #[.int .i64 W, .int .i64 T, .slice A n c], .int .i64 cell] w fun e w' => e = .returned (.bool (inB cell 0 ((n : Int) - 1))) ∧ Below w.heap.size w w' := by
  go_enter Tryz.func136, Tryz.ntmps136
  go_wp2_with (go_at_call 42; refine (in_any _ _ _ _).mono ?_; rintro e w' ⟨rfl, rfl⟩)
  go_ret
  exact ⟨rfl, bl_alloc (Below.refl _ _) _⟩
set_option maxHeartbeats 1000000 in
/-- a step, the direction and whether it stays inside decided -/
theorem step_any (W T : Int) (S : Value) (c d : Int) (w : World) (h1 : 1 ≤ W) (h2 : W ≤ 6) (h3 : 1 ≤ T) (h4 : T ≤ 6) (c0 : 0 ≤ c) (c1 : c < W * T) :
    Calls Tryz.prog 112 #[.agg #[.int .i64 W, .int .i64 T, S], .int .i64 c, .int .i64 d] w fun e w' => e = .returned (.int .i64 (stepZ W T c d)) ∧ Below w.heap.size w w' := by
  obtain ⟨X, Y, eX, eY, x0, x1, y0, y1, ec, m0, m1, c2⟩ := cell_xy h1 h2 h3 h4 c0 c1
  obtain ⟨m2, m3⟩ := xy_cell h1 h2 h3 h4 x0 x1 y0 y1
  have XY := Lib.hid (fun w => by have := xy_any W T S c w h1 h2 c0 (by omega); rw [eX, eY] at this; exact this)
  have X0 := C3.new w (.int .i64 W) (.int .i64 T) S 25
  have CL := Lib.hid c1
  clear c1 m2 m3
  rcases (show d = 1 ∨ d = 2 ∨ d = 3 ∨ d = 4 ∨ (d < 1 ∨ 4 < d) from by omega) with rfl | rfl | rfl | rfl | hd
  · have HS := Lib.hid (step1 (W := W) (T := T) (c := c))
    by_cases hx : X < W - 1
    · have HR := Lib.hid (show Y * W + (X + 1) = stepZ W T c 1 by rw [HS.out, eX, if_pos hx]; omega)
      clear HS eX eY ec
      go_enter Tryz.func112, Tryz.ntmps112
      go_wp2_with fail
      refine (XY.out _).mono ?_
      rintro e w1 ⟨rfl, b1⟩
      have B1 := bl_go (bl_alloc (Below.refl w.heap.size w) _) b1
      obtain ⟨z0, z1, z2⟩ := X0.belo b1
      go_wp2_with (go_at_call 42; refine (in_t _ _ _ _ (by omega) (by omega)).mono ?_; rintro e w' ⟨rfl, rfl⟩)
      go_ret
      exact ⟨ret_i HR.out, B1⟩
    · have HR := Lib.hid (show -1 = stepZ W T c 1 by rw [HS.out, eX, if_neg hx])
      clear HS eX eY ec
      go_enter Tryz.func112, Tryz.ntmps112
      go_wp2_with fail
      refine (XY.out _).mono ?_
      rintro e w1 ⟨rfl, b1⟩
      have B1 := bl_go (bl_alloc (Below.refl w.heap.size w) _) b1
      obtain ⟨z0, z1, z2⟩ := X0.belo b1
      go_wp2_with (go_at_call 42; refine (in_f _ _ _ _ (by omega)).mono ?_; rintro e w' ⟨rfl, rfl⟩)
      go_ret
      exact ⟨ret_i HR.out, B1⟩
  · have HS := Lib.hid (step2 (W := W) (T := T) (c := c))
    have mY : (Y + 1) * W = Y * W + W := by rw [Int.add_mul]; omega
    by_cases hy : Y < T - 1
    · have HR := Lib.hid (show (Y + 1) * W + X = stepZ W T c 2 by rw [HS.out, eY, if_pos hy]; omega)
      have n0 : 0 ≤ (Y + 1) * W := by omega
      have n1 : (Y + 1) * W ≤ 50 := by omega
      clear HS eX eY ec mY
      go_enter Tryz.func112, Tryz.ntmps112
      go_wp2_with fail
      refine (XY.out _).mono ?_
      rintro e w1 ⟨rfl, b1⟩
      have B1 := bl_go (bl_alloc (Below.refl w.heap.size w) _) b1
      obtain ⟨z0, z1, z2⟩ := X0.belo b1
      go_wp2_with (go_at_call 42; refine (in_t _ _ _ _ (by omega) (by omega)).mono ?_; rintro e w' ⟨rfl, rfl⟩)
      go_ret
      exact ⟨ret_i HR.out, B1⟩
    · have HR := Lib.hid (show -1 = stepZ W T c 2 by rw [HS.out, eY, if_neg hy])
      clear HS eX eY ec mY
      go_enter Tryz.func112, Tryz.ntmps112
      go_wp2_with fail
      refine (XY.out _).mono ?_
      rintro e w1 ⟨rfl, b1⟩
      have B1 := bl_go (bl_alloc (Below.refl w.heap.size w) _) b1
      obtain ⟨z0, z1, z2⟩ := X0.belo b1
      go_wp2_with (first | (go_at_call 42; refine (in_t _ _ _ _ (by omega) (by omega)).mono ?_; rintro e w' ⟨rfl, rfl⟩) | (go_at_call 42; refine (in_f _ _ _ _ (by omega)).mono ?_; rintro e w' ⟨rfl, rfl⟩))
      go_ret
      exact ⟨ret_i HR.out, B1⟩
  · have HS := Lib.hid (step3 (W := W) (T := T) (c := c))
    by_cases hx : 0 < X
    · have HR := Lib.hid (show Y * W + (X - 1) = stepZ W T c 3 by rw [HS.out, eX, if_pos hx]; omega)
      clear HS eX eY ec
      go_enter Tryz.func112, Tryz.ntmps112
      go_wp2_with fail
      refine (XY.out _).mono ?_
      rintro e w1 ⟨rfl, b1⟩
      have B1 := bl_go (bl_alloc (Below.refl w.heap.size w) _) b1
      obtain ⟨z0, z1, z2⟩ := X0.belo b1
      go_wp2_with (go_at_call 42; refine (in_t _ _ _ _ (by omega) (by omega)).mono ?_; rintro e w' ⟨rfl, rfl⟩)
      go_ret
      exact ⟨ret_i HR.out, B1⟩
    · have HR := Lib.hid (show -1 = stepZ W T c 3 by rw [HS.out, eX, if_neg hx])
      clear HS eX eY ec
      go_enter Tryz.func112, Tryz.ntmps112
      go_wp2_with fail
      refine (XY.out _).mono ?_
      rintro e w1 ⟨rfl, b1⟩
      have B1 := bl_go (bl_alloc (Below.refl w.heap.size w) _) b1
      obtain ⟨z0, z1, z2⟩ := X0.belo b1
      go_wp2_with (go_at_call 42; refine (in_f _ _ _ _ (by omega)).mono ?_; rintro e w' ⟨rfl, rfl⟩)
      go_ret
      exact ⟨ret_i HR.out, B1⟩
  · have HS := Lib.hid (step4 (W := W) (T := T) (c := c))
    have mY : (Y - 1) * W = Y * W - W := by rw [Int.sub_mul]; omega
    by_cases hy : 0 < Y
    · have hW : W ≤ Y * W := by
        have := Int.mul_le_mul_of_nonneg_right (show (1 : Int) ≤ Y by omega) (show (0 : Int) ≤ W by omega)
        omega
      have HR := Lib.hid (show (Y - 1) * W + X = stepZ W T c 4 by rw [HS.out, eY, if_pos hy]; omega)
      have n0 : 0 ≤ (Y - 1) * W := by omega
      have n1 : (Y - 1) * W ≤ 50 := by omega
      clear HS eX eY ec mY
      go_enter Tryz.func112, Tryz.ntmps112
      go_wp2_with fail
      refine (XY.out _).mono ?_
      rintro e w1 ⟨rfl, b1⟩
      have B1 := bl_go (bl_alloc (Below.refl w.heap.size w) _) b1
      obtain ⟨z0, z1, z2⟩ := X0.belo b1
      go_wp2_with (go_at_call 42; refine (in_t _ _ _ _ (by omega) (by omega)).mono ?_; rintro e w' ⟨rfl, rfl⟩)
      go_ret
      exact ⟨ret_i HR.out, B1⟩
    · have HR := Lib.hid (show -1 = stepZ W T c 4 by rw [HS.out, eY, if_neg hy])
      clear HS eX eY ec mY
      go_enter Tryz.func112, Tryz.ntmps112
      go_wp2_with fail
      refine (XY.out _).mono ?_
      rintro e w1 ⟨rfl, b1⟩
      have B1 := bl_go (bl_alloc (Below.refl w.heap.size w) _) b1
      obtain ⟨z0, z1, z2⟩ := X0.belo b1
      go_wp2_with (first | (go_at_call 42; refine (in_t _ _ _ _ (by omega) (by omega)).mono ?_; rintro e w' ⟨rfl, rfl⟩) | (go_at_call 42; refine (in_f _ _ _ _ (by omega)).mono ?_; rintro e w' ⟨rfl, rfl⟩))
      go_ret
      exact ⟨ret_i HR.out, B1⟩
  · have HR := Lib.hid (show -1 = stepZ W T c d from (step0 hd).symm)
    have t1 : (d == 1) = false := by rw [beq_eq_false_iff_ne]; omega
    have t2 : (d == 2) = false := by rw [beq_eq_false_iff_ne]; omega
    have t3 : (d == 3) = false := by rw [beq_eq_false_iff_ne]; omega
    have t4 : (d == 4) = false := by rw [beq_eq_false_iff_ne]; omega
    clear eX eY ec hd
    go_enter Tryz.func112, Tryz.ntmps112
    go_wp2_with fail
    refine (XY.out _).mono ?_
    rintro e w1 ⟨rfl, b1⟩
    have B1 := bl_go (bl_alloc (Below.refl w.heap.size w) _) b1
    go_wp2
    go_ret
    exact ⟨ret_i HR.out, B1⟩
set_option maxHeartbeats 1000000 in
theorem l2step_any (W T : Int) (S : Value) (c d : Int) (w : World) (h1 : 1 ≤ W) (h2 : W ≤ 6) (h3 : 1 ≤ T) (h4 : T ≤ 6) (c0 : 0 ≤ c) (c1 : c < W * T) :
    Calls Tryz.prog 102 #[.agg #[.int .i64 W, .int .i64 T, S], .int .i64 c, .int .i64 d] w fun e w' => e = .returned (.int .i64 (stepZ W T c d)) ∧ Below w.heap.size w w' := by
  obtain ⟨X, Y, eX, eY, x0, x1, y0, y1, ec, m0, m1, c2⟩ := cell_xy h1 h2 h3 h4 c0 c1
  have CL := Lib.hid c1
  have B0 := bl_alloc (Below.refl w.heap.size w) (.cells #[.int .i64 W, .int .i64 T, S] 25)
  clear c1
  have TM := Lib.hid (show c.tmod W = X by rw [Int.tmod_eq_emod_of_nonneg c0]; exact eX)
  have TD := Lib.hid (show c.tdiv W = Y by rw [Int.tdiv_eq_ediv_of_nonneg c0]; exact eY)
  have E1 := Lib.hid (show IntKind.i64.wrap X = X from IntWalk.i64_in _ (by omega))
  have E2 := Lib.hid (show IntKind.i64.wrap Y = Y from IntWalk.i64_in _ (by omega))
  have E3 := Lib.hid (show IntKind.i64.wrap (W - 1) = W - 1 from IntWalk.i64_in _ (by omega))
  have E4 := Lib.hid (show IntKind.i64.wrap (T - 1) = T - 1 from IntWalk.i64_in _ (by omega))
  have w0 : ¬ (W = 0) := by omega
  rcases (show d = 1 ∨ d = 2 ∨ d = 3 ∨ d = 4 ∨ (d < 1 ∨ 4 < d) from by omega) with rfl | rfl | rfl | rfl | hd
  · have HS := Lib.hid (step1 (W := W) (T := T) (c := c))
    by_cases hx : X < W - 1
    · have HR := Lib.hid (show c + 1 = stepZ W T c 1 by rw [HS.out, eX, if_pos hx])
      have hd0 : decide (X < W - 1) = true := by simpa using hx
      clear HS ec eX eY
      go_enter Tryz.func102, Tryz.ntmps102
      go_wp2_with fail
      have t1 := TM.out
      have t2 := TD.out
      have e1 := E1.out
      have e2 := E2.out
      have e3 := E3.out
      have e4 := E4.out
      go_quiet (fail)
      clear t1 t2 e1 e2 e3 e4
      go_wp2_with fail
      go_wp2
      go_ret
      exact ⟨ret_i HR.out, by first | exact below_drewN (below_drewN B0 _) _ | exact below_drewN B0 _⟩
    · have HR := Lib.hid (show -1 = stepZ W T c 1 by rw [HS.out, eX, if_neg hx])
      have hd0 : decide (X < W - 1) = false := by simpa using hx
      clear HS ec hx eX eY
      go_enter Tryz.func102, Tryz.ntmps102
      go_wp2_with fail
      have t1 := TM.out
      have t2 := TD.out
      have e1 := E1.out
      have e2 := E2.out
      have e3 := E3.out
      have e4 := E4.out
      go_quiet (fail)
      clear t1 t2 e1 e2 e3 e4
      go_wp2_with fail
      go_quiet (fail)
      go_wp2
      go_ret
      exact ⟨ret_i HR.out, by first | exact below_drewN (below_drewN B0 _) _ | exact below_drewN B0 _⟩
  · have HS := Lib.hid (step2 (W := W) (T := T) (c := c))
    by_cases hy : Y < T - 1
    · have HR := Lib.hid (show c + W = stepZ W T c 2 by rw [HS.out, eY, if_pos hy])
      have hd0 : decide (Y < T - 1) = true := by simpa using hy
      clear HS ec eX eY
      go_enter Tryz.func102, Tryz.ntmps102
      go_wp2_with fail
      go_quiet (fail)
      go_wp2_with fail
      have t1 := TM.out
      have t2 := TD.out
      have e1 := E1.out
      have e2 := E2.out
      have e3 := E3.out
      have e4 := E4.out
      go_quiet (fail)
      clear t1 t2 e1 e2 e3 e4
      go_wp2
      go_ret
      exact ⟨ret_i HR.out, by first | exact below_drewN (below_drewN B0 _) _ | exact below_drewN B0 _⟩
    · have HR := Lib.hid (show -1 = stepZ W T c 2 by rw [HS.out, eY, if_neg hy])
      have hd0 : decide (Y < T - 1) = false := by simpa using hy
      clear HS ec hy eX eY
      go_enter Tryz.func102, Tryz.ntmps102
      go_wp2_with fail
      go_quiet (fail)
      go_wp2_with fail
      have t1 := TM.out
      have t2 := TD.out
      have e1 := E1.out
      have e2 := E2.out
      have e3 := E3.out
      have e4 := E4.out
      go_quiet (fail)
      clear t1 t2 e1 e2 e3 e4
      go_wp2
      go_ret
      exact ⟨ret_i HR.out, by first | exact below_drewN (below_drewN B0 _) _ | exact below_drewN B0 _⟩
  · have HS := Lib.hid (step3 (W := W) (T := T) (c := c))
    by_cases hx : 0 < X
    · have HR := Lib.hid (show c - 1 = stepZ W T c 3 by rw [HS.out, eX, if_pos hx])
      clear HS ec
      go_enter Tryz.func102, Tryz.ntmps102
      go_wp2_with fail
      go_quiet (fail)
      go_wp2_with fail
      go_quiet (fail)
      go_wp2
      go_ret
      exact ⟨ret_i HR.out, by first | exact below_drewN (below_drewN B0 _) _ | exact below_drewN B0 _⟩
    · have HR := Lib.hid (show -1 = stepZ W T c 3 by rw [HS.out, eX, if_neg hx])
      have hd0 : decide (0 < X) = false := by simpa using hx
      clear HS ec hx
      go_enter Tryz.func102, Tryz.ntmps102
      go_wp2_with fail
      go_quiet (fail)
      go_wp2_with fail
      go_quiet (fail)
      go_wp2
      go_ret
      exact ⟨ret_i HR.out, by first | exact below_drewN (below_drewN B0 _) _ | exact below_drewN B0 _⟩
  · have HS := Lib.hid (step4 (W := W) (T := T) (c := c))
    by_cases hy : 0 < Y
    · have HR := Lib.hid (show c - W = stepZ W T c 4 by rw [HS.out, eY, if_pos hy])
      clear HS ec
      go_enter Tryz.func102, Tryz.ntmps102
      go_wp2_with fail
      go_quiet (fail)
      go_wp2_with fail
      go_quiet (fail)
      go_wp2
      go_ret
      exact ⟨ret_i HR.out, by first | exact below_drewN (below_drewN B0 _) _ | exact below_drewN B0 _⟩
    · have HR := Lib.hid (show -1 = stepZ W T c 4 by rw [HS.out, eY, if_neg hy])
      have hd0 : decide (0 < Y) = false := by simpa using hy
      clear HS ec hy
      go_enter Tryz.func102, Tryz.ntmps102
      go_wp2_with fail
      go_quiet (fail)
      go_wp2_with fail
      go_quiet (fail)
      go_wp2
      go_ret
      exact ⟨ret_i HR.out, by first | exact below_drewN (below_drewN B0 _) _ | exact below_drewN B0 _⟩
  · have HR := Lib.hid (show -1 = stepZ W T c d from (step0 hd).symm)
    have t1 : (d == 1) = false := by rw [beq_eq_false_iff_ne]; omega
    have t2 : (d == 2) = false := by rw [beq_eq_false_iff_ne]; omega
    have t3 : (d == 3) = false := by rw [beq_eq_false_iff_ne]; omega
    have t4 : (d == 4) = false := by rw [beq_eq_false_iff_ne]; omega
    clear eX eY ec hd
    go_enter Tryz.func102, Tryz.ntmps102
    go_wp2_with fail
    go_quiet (fail)
    go_wp2_with fail
    go_quiet (fail)
    go_wp2
    go_ret
    exact ⟨ret_i HR.out, by first | exact below_drewN (below_drewN B0 _) _ | exact below_drewN B0 _⟩
end Go.Proofs.YtafmpgikdhlknaaGreat
