
/- Contracts: whether a place belongs to a region; copies of lists of numbers. -/
import Derived.Test.YtohbnogmeldmpaaMemE
import Derived.Test.YtohbnogmeldmpaaColour
import Derived.StillTailTactics
namespace Go.Proofs.Ytohbnogmeldmpaa
open Go.RowKit

def atQ (W T : Int) (bs : List Bool) (x y : Int) : Bool := decide (0 ≤ x ∧ x ≤ W - 1 ∧ 0 ≤ y ∧ y ≤ T - 1) && bs.getD (y * W + x).toNat false
theorem atQ_f {W T : Int} {bs : List Bool} {x y : Int} (h : ¬ (0 ≤ x ∧ x ≤ W - 1 ∧ 0 ≤ y ∧ y ≤ T - 1)) : atQ W T bs x y = false := by unfold atQ; rw [decide_eq_false h]; rfl
theorem atQ_t {W T : Int} {bs : List Bool} {x y : Int} {k : Nat} (h : 0 ≤ x ∧ x ≤ W - 1 ∧ 0 ≤ y ∧ y ≤ T - 1) (hk : y * W + x = k) (hkn : k < bs.length) : atQ W T bs x y = bs[k] := by
  unfold atQ; rw [decide_eq_true h, hk, Int.toNat_natCast, List.getD_eq_getElem?_getD, List.getElem?_eq_getElem hkn]; rfl
theorem at_idx {W T x y : Int} {n : Nat} (hw : 1 ≤ W) (hn : (n : Int) = W * T) (h : 0 ≤ x ∧ x ≤ W - 1 ∧ 0 ≤ y ∧ y ≤ T - 1) : ∃ k : Nat, y * W + x = k ∧ k < n := by
  obtain ⟨hx, hx', hy, hy'⟩ := h
  have h0 : 0 ≤ y * W := Int.mul_nonneg hy (by omega)
  obtain ⟨k, hk⟩ := Int.eq_ofNat_of_zero_le (show 0 ≤ y * W + x by omega)
  refine ⟨k, hk, ?_⟩
  have h1 : (y + 1) * W ≤ T * W := Int.mul_le_mul_of_nonneg_right (by omega) (by omega)
  rw [Int.add_mul, Int.one_mul] at h1
  rw [Int.mul_comm] at hn
  omega
end Go.Proofs.Ytohbnogmeldmpaa
