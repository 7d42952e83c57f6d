/- The walk of the law FnExactCutTwo. -/
import Derived.Test.YtealmphaoolglaaCutX
namespace Go.Proofs.Ytealmphaoolglaa
open Go.RowKit

set_option maxHeartbeats 2000000 in
theorem fnExactCutTwo_walk (W : Int) (_wW : (Lit.int .i64 W).wf = true) (T : Int) (_wT : (Lit.int .i64 T).wf = true) (a : Int) (_wa : (Lit.int .i64 a).wf = true) (b : Int) (_wb : (Lit.int .i64 b).wf = true) (w0 : World) :
    Calls Try.prog 14 #[.int .i64 W, .int .i64 T, .int .i64 a, .int .i64 b] w0 fun e w' => e = .returned (.bool true) ∧ Below w0.heap.size w0 w' := by
  clear _wW _wT _wa _wb
  have cS := fun w => sCutTwo_any W T a b w
  have cI := fun w => iCutTwo_any W T a b w
  have hl := cutOf_len W T a b
  simp only [cut_same] at cS
  generalize cutOf W T a b = X at cS cI hl
  have hne2 : (cutOk W T a b != cutOk W T a b) = false := by simp
  generalize cutOk W T a b = ok at cS cI hne2
  have CS := Lib.hid cS
  have CI := Lib.hid cI
  clear cS cI
  have hm : X.length ≤ maxLen := by unfold maxLen; omega
  have hne : ((1 : Int) + (X.length : Int) != 1 + (X.length : Int)) = false := by simp
  go_enter Try.func14, Try.ntmps14
  go_wp2_with fail
  refine (CS.out _).mono ?_
  rintro e w1 ⟨A1, c1, rfl, r1, b1⟩
  go_wp2_with fail
  refine (CI.out _).mono ?_
  rintro e w2 ⟨A2, rfl, g2, b2⟩
  have B2 := bl_go b1 b2
  have r2 := r1.belo b2
  go_wp2_with fail
  refine (eqIntS_t _ _ _ _ X _ g2.rd r2 hm).mono ?_
  rintro e w3 ⟨rfl, b3⟩
  have B3 := bl_go B2 b3
  have r3 := r2.belo b3
  have g3 := g2.belo b3
  go_wp2_with fail
  refine (markIntS_any _ _ X 1 _ _ g3 (by omega) (by omega) (by omega)).mono ?_
  rintro e w4 ⟨rfl, g4, y4⟩
  have B4 := marked_below B3 y4 g3 b1.size (Nat.le_trans b1.size (Nat.le_trans b2.size b3.size))
  have r4 := Rd.marked r1 (bl_go b2 b3) y4 g3 (Nat.le_refl _)
  go_wp2_with fail
  refine (heldIntS_any _ _ _ 1 _ g4.rd (by omega) (by omega) (by omega)).mono ?_
  rintro e w5 ⟨rfl, rfl⟩
  go_wp2_with fail
  refine (CI.out _).mono ?_
  rintro e w6 ⟨A6, rfl, g6, b6⟩
  have B6 := bl_go B4 b6
  have r6 := r4.belo b6
  have k6 := g4.rd.belo b6
  go_wp2_with fail
  refine (eqIntS_t _ _ _ _ X _ g6.rd r6 hm).mono ?_
  rintro e w7 ⟨rfl, b7⟩
  have B7 := bl_go B6 b7
  go_wp2_with fail
  refine (heldIntS_any _ _ _ 1 _ (k6.belo b7) (by omega) (by omega) (by omega)).mono ?_
  rintro e w8 ⟨rfl, rfl⟩
  go_wp2
  go_ret
  exact ⟨rfl, B7⟩
end Go.Proofs.Ytealmphaoolglaa
