
/- Dominoes on a region, plainly. -/
import Derived.Test.YtafmpgikdhlknaaGreatStepN
import Derived.Test.YtafmpgikdhlknaaGreatReg
namespace Go.Proofs.YtafmpgikdhlknaaGreat
open Go.RowKit

/-- the domino of a cell is right -/
def laidAt (W T : Int) (bs : List Bool) (L : List Int) (k : Nat) : Bool :=
  if L.getD k 0 = 0 then true else
    decide (0 ≤ stepZ W T k (L.getD k 0)) && (bs.getD k false && (bs.getD (stepZ W T k (L.getD k 0)).toNat false && decide (L.getD (stepZ W T k (L.getD k 0)).toNat 0 = backZ (L.getD k 0))))
def laysB (W T : Int) (bs : List Bool) (L : List Int) : Bool := decide (L.length = bs.length) && (List.range L.length).all (laidAt W T bs L)
def fullB (bs : List Bool) (L : List Int) : Bool := (List.range bs.length).all fun k => !(bs.getD k false && decide (L.getD k 0 = 0))
def laidOkB (W T : Int) (bs : List Bool) (L : List Int) : Bool := validB W T bs && laysB W T bs L
def tilingB (W T : Int) (bs : List Bool) (L : List Int) : Bool := laidOkB W T bs L && fullB bs L
theorem laysB_len {W T : Int} {bs : List Bool} {L : List Int} (h : L.length ≠ bs.length) : laysB W T bs L = false := by unfold laysB; simp [h]
theorem laysB_t {W T : Int} {bs : List Bool} {L : List Int} (h : L.length = bs.length) (h2 : ∀ k, k < L.length → laidAt W T bs L k = true) : laysB W T bs L = true := by
  unfold laysB; simp only [h, decide_true, Bool.true_and]
  rw [← h, List.all_eq_true]; intro k hk; exact h2 k (List.mem_range.1 hk)
theorem laysB_f {W T : Int} {bs : List Bool} {L : List Int} (k : Nat) (hk : k < L.length) (h : laidAt W T bs L k = false) : laysB W T bs L = false := by
  unfold laysB
  rw [show (List.range L.length).all (laidAt W T bs L) = false from List.all_eq_false.2 ⟨k, List.mem_range.2 hk, by simp [h]⟩]
  simp
theorem fullB_t {bs : List Bool} {L : List Int} (h2 : ∀ k, k < bs.length → (bs.getD k false && decide (L.getD k 0 = 0)) = false) : fullB bs L = true := by
  unfold fullB; rw [List.all_eq_true]; intro k hk; rw [h2 k (List.mem_range.1 hk)]; rfl
theorem fullB_f {bs : List Bool} {L : List Int} (k : Nat) (hk : k < bs.length) (h : (bs.getD k false && decide (L.getD k 0 = 0)) = true) : fullB bs L = false := by
  unfold fullB; exact List.all_eq_false.2 ⟨k, List.mem_range.2 hk, by rw [h]; simp⟩
theorem getD_in {α : Type} (l : List α) (d : α) {k : Nat} (hk : k < l.length) : l.getD k d = l[k] := by simp [List.getD_eq_getElem?_getD, List.getElem?_eq_getElem hk]
/-- a cell without a domino -/
theorem laidAt_0 {W T : Int} {bs : List Bool} {L : List Int} {k : Nat} (h : L.getD k 0 = 0) : laidAt W T bs L k = true := by unfold laidAt; rw [if_pos h]
theorem laidAt_out {W T : Int} {bs : List Bool} {L : List Int} {k : Nat} (h : L.getD k 0 ≠ 0) (h2 : stepZ W T k (L.getD k 0) < 0) : laidAt W T bs L k = false := by
  unfold laidAt; rw [if_neg h, show decide (0 ≤ stepZ W T k (L.getD k 0)) = false from decide_eq_false (by omega)]; rfl
theorem laidAt_in {W T : Int} {bs : List Bool} {L : List Int} {k t : Nat} (h : L.getD k 0 ≠ 0) (h2 : stepZ W T k (L.getD k 0) = (t : Int)) :
    laidAt W T bs L k = (bs.getD k false && (bs.getD t false && decide (L.getD t 0 = backZ (L.getD k 0)))) := by
  unfold laidAt; rw [if_neg h, h2, Int.toNat_natCast, show decide ((0 : Int) ≤ (t : Int)) = true from decide_eq_true (by omega)]; rfl
/-- where a step leads inside, the direction is one of four -/
theorem step_dir {W T c d : Int} (h : 0 ≤ stepZ W T c d) : 1 ≤ d ∧ d ≤ 4 := by
  rcases (show (1 ≤ d ∧ d ≤ 4) ∨ (d < 1 ∨ 4 < d) from by omega) with h2 | h2
  · exact h2
  · rw [step0 h2] at h; omega
end Go.Proofs.YtafmpgikdhlknaaGreat
