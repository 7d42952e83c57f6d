
/- Fields with sides of 1 to 6, plainly. -/
import Derived.Test.YtafmpgikdhlknaaGreatReg
namespace Go.Proofs.YtafmpgikdhlknaaGreat
open Go.RowKit

/-- a field -/
structure FldF (W T : Int) (n : Nat) : Prop where
  w1 : 1 ≤ W
  w6 : W ≤ 6
  t1 : 1 ≤ T
  t6 : T ≤ 6
  len : (n : Int) = W * T
theorem FldF.bd {W T : Int} {n : Nat} (h : FldF W T n) : n ≤ 36 := by
  have := mul_bd h.w1 h.w6 h.t1 h.t6
  have := h.len
  omega
theorem FldF.at_ {W T : Int} {n : Nat} (h : FldF W T n) {x y : Int} (hx : 0 ≤ x) (hx' : x ≤ W - 1) (hy : 0 ≤ y) (hy' : y ≤ T - 1) :
    ∃ k : Nat, y * W + x = k ∧ k < n ∧ (k : Int) % W = x ∧ (k : Int) / W = y := by
  have h0 : 0 ≤ y * W := Int.mul_nonneg hy (by have := h.w1; omega)
  obtain ⟨k, hk⟩ := Int.eq_ofNat_of_zero_le (show 0 ≤ y * W + x by omega)
  have hW := h.w1
  refine ⟨k, hk, ?_, ?_, ?_⟩
  · have h1 : (y + 1) * W ≤ T * W := Int.mul_le_mul_of_nonneg_right (by omega) (by omega)
    rw [Int.add_mul, Int.one_mul] at h1
    have h2 := h.len
    rw [Int.mul_comm] at h2
    omega
  · rw [← hk, Int.add_comm, Int.add_mul_emod_self_right, Int.emod_eq_of_lt hx (by omega)]
  · rw [← hk, Int.add_comm, Int.add_mul_ediv_right _ _ (by omega), Int.ediv_eq_zero_of_lt hx (by omega)]; omega
theorem FldF.xy {W T : Int} {n : Nat} (h : FldF W T n) {k : Nat} (hk : k < n) : 0 ≤ (k : Int) % W ∧ (k : Int) % W ≤ W - 1 ∧ 0 ≤ (k : Int) / W ∧ (k : Int) / W ≤ T - 1 ∧ (k : Int) / W * W + (k : Int) % W = k := by
  have hW := h.w1
  have h1 := Int.emod_nonneg (k : Int) (show W ≠ 0 by omega)
  have h2 := Int.emod_lt_of_pos (k : Int) (show 0 < W by omega)
  have h3 := Int.ediv_nonneg (show 0 ≤ (k : Int) by omega) (show 0 ≤ W by omega)
  have h4 : (k : Int) / W * W + (k : Int) % W = k := by rw [Int.mul_comm]; exact Int.mul_ediv_add_emod _ _
  have h5 : (k : Int) / W < T := by
    refine Int.ediv_lt_of_lt_mul (by omega) ?_
    have := h.len
    rw [Int.mul_comm T W]
    omega
  omega
theorem FldF.inj {W T : Int} {n : Nat} (h : FldF W T n) {j k : Nat} (hj : j < n) (hk : k < n) (e1 : (j : Int) % W = (k : Int) % W) (e2 : (j : Int) / W = (k : Int) / W) : j = k := by
  have a := (h.xy hj).2.2.2.2
  have b := (h.xy hk).2.2.2.2
  rw [e1, e2] at a
  omega
/-- cells that come later are in a later row, or in a later column of the same row -/
theorem FldF.lt {W T : Int} {n : Nat} (h : FldF W T n) {j k : Nat} (hj : j < n) (hk : k < n) (hjk : j < k) : (j : Int) / W < (k : Int) / W ∨ ((j : Int) / W = (k : Int) / W ∧ (j : Int) % W < (k : Int) % W) := by
  obtain ⟨a1, a2, a3, a4, a5⟩ := h.xy hj
  obtain ⟨b1, b2, b3, b4, b5⟩ := h.xy hk
  rcases Int.lt_trichotomy ((j : Int) / W) ((k : Int) / W) with h1 | h1 | h1
  · exact .inl h1
  · rw [h1] at a5
    exact .inr ⟨h1, by omega⟩
  · exfalso
    have h2 : ((k : Int) / W + 1) * W ≤ (j : Int) / W * W := Int.mul_le_mul_of_nonneg_right (by omega) (by have := h.w1; omega)
    rw [Int.add_mul, Int.one_mul] at h2
    omega

end Go.Proofs.YtafmpgikdhlknaaGreat
