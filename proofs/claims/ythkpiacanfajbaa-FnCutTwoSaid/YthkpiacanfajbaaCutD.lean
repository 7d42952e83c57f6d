/- Both ways to cut two cells out of a box lead to the same list: looked up for all boxes. -/
import Derived.Test.YthkpiacanfajbaaCutN
namespace Go.Proofs.Ythkpiacanfajbaa

set_option maxHeartbeats 40000000 in
theorem cut_2_2 : cutEq 2 2 = true := by decide +kernel
set_option maxHeartbeats 40000000 in
theorem cut_2_3 : cutEq 2 3 = true := by decide +kernel
set_option maxHeartbeats 40000000 in
theorem cut_2_4 : cutEq 2 4 = true := by decide +kernel
set_option maxHeartbeats 40000000 in
theorem cut_2_5 : cutEq 2 5 = true := by decide +kernel
set_option maxHeartbeats 40000000 in
theorem cut_2_6 : cutEq 2 6 = true := by decide +kernel
set_option maxHeartbeats 40000000 in
theorem cut_3_2 : cutEq 3 2 = true := by decide +kernel
set_option maxHeartbeats 40000000 in
theorem cut_3_4 : cutEq 3 4 = true := by decide +kernel
set_option maxHeartbeats 40000000 in
theorem cut_3_6 : cutEq 3 6 = true := by decide +kernel
set_option maxHeartbeats 40000000 in
theorem cut_4_2 : cutEq 4 2 = true := by decide +kernel
set_option maxHeartbeats 40000000 in
theorem cut_4_3 : cutEq 4 3 = true := by decide +kernel
set_option maxHeartbeats 40000000 in
theorem cut_4_4 : cutEq 4 4 = true := by decide +kernel
set_option maxHeartbeats 40000000 in
theorem cut_4_5 : cutEq 4 5 = true := by decide +kernel
set_option maxHeartbeats 40000000 in
theorem cut_4_6 : cutEq 4 6 = true := by decide +kernel
set_option maxHeartbeats 40000000 in
theorem cut_5_2 : cutEq 5 2 = true := by decide +kernel
set_option maxHeartbeats 40000000 in
theorem cut_5_4 : cutEq 5 4 = true := by decide +kernel
set_option maxHeartbeats 40000000 in
theorem cut_6_2 : cutEq 6 2 = true := by decide +kernel
set_option maxHeartbeats 40000000 in
theorem cut_6_3 : cutEq 6 3 = true := by decide +kernel
set_option maxHeartbeats 40000000 in
theorem cut_6_4 : cutEq 6 4 = true := by decide +kernel
theorem cut_all (W T : Nat) (h1 : W ≤ 6) (h2 : T ≤ 6) (hok : roundOk (W : Nat) (T : Nat) = true) : cutEq W T = true := by
  rcases (show W = 0 ∨ W = 1 ∨ W = 2 ∨ W = 3 ∨ W = 4 ∨ W = 5 ∨ W = 6 from by omega) with rfl | rfl | rfl | rfl | rfl | rfl | rfl <;> rcases (show T = 0 ∨ T = 1 ∨ T = 2 ∨ T = 3 ∨ T = 4 ∨ T = 5 ∨ T = 6 from by omega) with rfl | rfl | rfl | rfl | rfl | rfl | rfl <;>
  first | (exact absurd hok (by decide)) | (with_reducible exact cut_2_2) | (with_reducible exact cut_2_3) | (with_reducible exact cut_2_4) | (with_reducible exact cut_2_5) | (with_reducible exact cut_2_6) | (with_reducible exact cut_3_2) | (with_reducible exact cut_3_4) | (with_reducible exact cut_3_6) | (with_reducible exact cut_4_2) | (with_reducible exact cut_4_3) | (with_reducible exact cut_4_4) | (with_reducible exact cut_4_5) | (with_reducible exact cut_4_6) | (with_reducible exact cut_5_2) | (with_reducible exact cut_5_4) | (with_reducible exact cut_6_2) | (with_reducible exact cut_6_3) | (with_reducible exact cut_6_4)
theorem cut_eq {W T : Nat} {a b : Int} (h1 : W ≤ 6) (h2 : T ≤ 6) (hok : roundOk (W : Nat) (T : Nat) = true) (a0 : 0 ≤ a) (a1 : a < (W : Int) * T) (b0 : 0 ≤ b) (b1 : b < (W : Int) * T) (ho : oddPair W a b = true) :
    cutI W T (roundL W T) a b = cutS W T (roundL W T) a b := by
  obtain ⟨m, rfl⟩ := Int.eq_ofNat_of_zero_le a0
  obtain ⟨n, rfl⟩ := Int.eq_ofNat_of_zero_le b0
  have hm : m < W * T := by rw [← Int.natCast_mul] at a1; omega
  have hn : n < W * T := by rw [← Int.natCast_mul] at b1; omega
  have h := cut_all W T h1 h2 hok
  unfold cutEq at h
  have h3 := List.all_eq_true.1 (List.all_eq_true.1 h m (List.mem_range.2 hm)) n (List.mem_range.2 hn)
  rw [ho] at h3
  simpa using h3
end Go.Proofs.Ythkpiacanfajbaa
