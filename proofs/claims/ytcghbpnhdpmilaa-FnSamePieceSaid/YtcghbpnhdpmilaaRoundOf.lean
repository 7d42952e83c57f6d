/- Contracts: RoundOf, the program's and the reference's. -/
import Derived.Test.YtcghbpnhdpmilaaRound
import Derived.Test.YtcghbpnhdpmilaaColour
import Derived.Deep.RegionHeld3
import Derived.StillTailTactics
namespace Go.Proofs.Ytcghbpnhdpmilaa
open Go.RowKit

/-- the sides of a box that has a way around it -/
def roundOk (W T : Int) : Bool := decide ((2 ≤ W ∧ W ≤ 6) ∧ (2 ≤ T ∧ T ≤ 6) ∧ W * T ≤ 24 ∧ (T % 2 = 0 ∨ W % 2 = 0))
def roundL (W T : Nat) : List Int := if T % 2 = 0 then roundN W T (byRow W) else roundN T W (byCol W)
def roundOf (W T : Int) : List Int := if roundOk W T = true then roundL W.toNat T.toNat else []
theorem roundOf_ok {W T : Nat} (h1 : 2 ≤ W ∧ W ≤ 6) (h2 : 2 ≤ T ∧ T ≤ 6) (h3 : (W : Int) * T ≤ 24) (h4 : T % 2 = 0 ∨ W % 2 = 0) : roundOf W T = roundL W T := by
  unfold roundOf
  rw [if_pos (by unfold roundOk; simp; omega)]
  simp
theorem roundOf_no {W T : Int} (h : ¬ ((2 ≤ W ∧ W ≤ 6) ∧ (2 ≤ T ∧ T ≤ 6) ∧ W * T ≤ 24 ∧ (T % 2 = 0 ∨ W % 2 = 0))) : roundOf W T = [] := by
  unfold roundOf
  rw [if_neg (by unfold roundOk; simpa using h)]

/-- .. and it is nil if there is none -/
def NewWn (xs : List Int) (w : World) (e : Ending) (w' : World) : Prop :=
  ∃ A : Option Addr, e = .returned (.slice A xs.length xs.length) ∧ Wr w' w.heap.size 3 A (xs.map (.int .i64)) ∧ Below w.heap.size w w' ∧ (xs = [] → A = none)
theorem roundN_ne {W T : Nat} {f : Int → Int → Int} (h : 1 ≤ T) : roundN W T f ≠ [] := by
  intro e
  have := congrArg List.length e
  rw [← roundAcc_end, roundAcc_len] at this
  simp at this; omega
theorem byRow0 (W : Nat) (y : Int) : byRow W 0 y = y * W := by unfold byRow; omega

theorem round_bd : ∀ W, W ≤ 6 → ∀ T, T ≤ 6 → (roundN W T (byRow W)).all (fun o => decide (0 ≤ o ∧ o ≤ 36)) = true := by decide +kernel
theorem round_map : ∀ W, W ≤ 6 → 2 ≤ W → ∀ T, T ≤ 6 → 2 ≤ T → (roundN T W (byRow T)).map (fun o => o % (T : Int) * (W : Int) + o / (T : Int)) = roundN T W (byCol W) := by decide +kernel
theorem map_step {α β : Type} (f : α → β) (l : List α) (k : Nat) (h : k < l.length) : (l.take (k + 1)).map f = (l.take k).map f ++ [f l[k]] := by
  rw [take_one_more l k h, List.map_append]; rfl

end Go.Proofs.Ytcghbpnhdpmilaa
