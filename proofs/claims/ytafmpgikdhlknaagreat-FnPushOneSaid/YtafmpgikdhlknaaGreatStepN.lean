
/- Steps from cell to cell, plainly. -/
import Derived.Test.YtafmpgikdhlknaaGreatMem
import Derived.WalkKit
namespace Go.Proofs.YtafmpgikdhlknaaGreat
open Go.RowKit

/-- the cell beside a cell -/
def stepZ (W T c d : Int) : Int :=
  if d = 1 then (if c % W < W - 1 then c + 1 else -1) else if d = 2 then (if c / W < T - 1 then c + W else -1)
  else if d = 3 then (if 0 < c % W then c - 1 else -1) else if d = 4 then (if 0 < c / W then c - W else -1) else -1
def backZ (d : Int) : Int := (d + 1) % 4 + 1
theorem cell_xy {W T c : Int} (h1 : 1 ≤ W) (h2 : W ≤ 6) (h3 : 1 ≤ T) (h4 : T ≤ 6) (c0 : 0 ≤ c) (c1 : c < W * T) :
    ∃ X Y, c % W = X ∧ c / W = Y ∧ 0 ≤ X ∧ X ≤ W - 1 ∧ 0 ≤ Y ∧ Y ≤ T - 1 ∧ c = Y * W + X ∧ 0 ≤ Y * W ∧ Y * W ≤ 36 ∧ c ≤ 35 := by
  refine ⟨_, _, rfl, rfl, ?_⟩
  rcases (show W = 1 ∨ W = 2 ∨ W = 3 ∨ W = 4 ∨ W = 5 ∨ W = 6 from by omega) with rfl | rfl | rfl | rfl | rfl | rfl <;> omega
/-- a place in a field is a cell of it -/
theorem xy_cell {W T X Y : Int} (h1 : 1 ≤ W) (h2 : W ≤ 6) (h3 : 1 ≤ T) (h4 : T ≤ 6) (x0 : 0 ≤ X) (x1 : X ≤ W - 1) (y0 : 0 ≤ Y) (y1 : Y ≤ T - 1) : 0 ≤ Y * W + X ∧ Y * W + X < W * T := by
  rcases (show W = 1 ∨ W = 2 ∨ W = 3 ∨ W = 4 ∨ W = 5 ∨ W = 6 from by omega) with rfl | rfl | rfl | rfl | rfl | rfl <;> omega
theorem step1 {W T c : Int} : stepZ W T c 1 = if c % W < W - 1 then c + 1 else -1 := by unfold stepZ; simp
theorem step2 {W T c : Int} : stepZ W T c 2 = if c / W < T - 1 then c + W else -1 := by unfold stepZ; simp
theorem step3 {W T c : Int} : stepZ W T c 3 = if 0 < c % W then c - 1 else -1 := by unfold stepZ; simp
theorem step4 {W T c : Int} : stepZ W T c 4 = if 0 < c / W then c - W else -1 := by unfold stepZ; simp
theorem step0 {W T c d : Int} (h : d < 1 ∨ 4 < d) : stepZ W T c d = -1 := by
  unfold stepZ; rw [if_neg (by omega), if_neg (by omega), if_neg (by omega), if_neg (by omega)]
/-- a step leads to a cell, or nowhere -/
theorem step_bd {W T c : Int} (d : Int) (h1 : 1 ≤ W) (h2 : W ≤ 6) (h3 : 1 ≤ T) (h4 : T ≤ 6) (c0 : 0 ≤ c) (c1 : c < W * T) : stepZ W T c d = -1 ∨ (0 ≤ stepZ W T c d ∧ stepZ W T c d < W * T) := by
  unfold stepZ
  rcases (show W = 1 ∨ W = 2 ∨ W = 3 ∨ W = 4 ∨ W = 5 ∨ W = 6 from by omega) with rfl | rfl | rfl | rfl | rfl | rfl <;> (repeat (first | split | omega))
theorem step_lo {W T c : Int} (d : Int) (h1 : 1 ≤ W) (h2 : W ≤ 6) (h3 : 1 ≤ T) (h4 : T ≤ 6) (c0 : 0 ≤ c) (c1 : c < W * T) : -1 ≤ stepZ W T c d ∧ stepZ W T c d ≤ 35 := by
  have := step_bd d h1 h2 h3 h4 c0 c1
  have := (cell_xy (W := W) (T := T) (c := W * T - 1) h1 h2 h3 h4 (by rcases (show W = 1 ∨ W = 2 ∨ W = 3 ∨ W = 4 ∨ W = 5 ∨ W = 6 from by omega) with rfl | rfl | rfl | rfl | rfl | rfl <;> omega) (by omega))
  obtain ⟨X, Y, -, -, -, -, -, -, -, -, -, h⟩ := this
  omega
end Go.Proofs.YtafmpgikdhlknaaGreat
