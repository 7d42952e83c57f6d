/- What CutTwo returns is a tiling of the box without both cells: looked up for all boxes. -/
import Derived.Test.YthkpiacanfajbaaCutN
import Derived.Test.YthkpiacanfajbaaLayN
namespace Go.Proofs.Ythkpiacanfajbaa

def cutTil (W T : Nat) : Bool := (List.range (W * T)).all fun a : Nat => (List.range (W * T)).all fun b : Nat => !oddPair W a b || tilingB W T (((List.replicate (W * T) true).set a false).set b false) (cutI W T (roundL W T) a b)

set_option maxHeartbeats 40000000 in
theorem til_2_2 : cutTil 2 2 = true := by decide +kernel
set_option maxHeartbeats 40000000 in
theorem til_2_3 : cutTil 2 3 = true := by decide +kernel
set_option maxHeartbeats 40000000 in
theorem til_2_4 : cutTil 2 4 = true := by decide +kernel
set_option maxHeartbeats 40000000 in
theorem til_2_5 : cutTil 2 5 = true := by decide +kernel
set_option maxHeartbeats 40000000 in
theorem til_2_6 : cutTil 2 6 = true := by decide +kernel
set_option maxHeartbeats 40000000 in
theorem til_3_2 : cutTil 3 2 = true := by decide +kernel
set_option maxHeartbeats 40000000 in
theorem til_3_4 : cutTil 3 4 = true := by decide +kernel
set_option maxHeartbeats 40000000 in
theorem til_3_6 : cutTil 3 6 = true := by decide +kernel
set_option maxHeartbeats 40000000 in
theorem til_4_2 : cutTil 4 2 = true := by decide +kernel
set_option maxHeartbeats 40000000 in
theorem til_4_3 : cutTil 4 3 = true := by decide +kernel
set_option maxHeartbeats 40000000 in
theorem til_4_4 : cutTil 4 4 = true := by decide +kernel
set_option maxHeartbeats 40000000 in
theorem til_4_5 : cutTil 4 5 = true := by decide +kernel
set_option maxHeartbeats 40000000 in
theorem til_4_6 : cutTil 4 6 = true := by decide +kernel
set_option maxHeartbeats 40000000 in
theorem til_5_2 : cutTil 5 2 = true := by decide +kernel
set_option maxHeartbeats 40000000 in
theorem til_5_4 : cutTil 5 4 = true := by decide +kernel
set_option maxHeartbeats 40000000 in
theorem til_6_2 : cutTil 6 2 = true := by decide +kernel
set_option maxHeartbeats 40000000 in
theorem til_6_3 : cutTil 6 3 = true := by decide +kernel
set_option maxHeartbeats 40000000 in
theorem til_6_4 : cutTil 6 4 = true := by decide +kernel
theorem til_all (W T : Nat) (h1 : W ≤ 6) (h2 : T ≤ 6) (hok : roundOk (W : Nat) (T : Nat) = true) : cutTil W T = true := by
  rcases (show W = 0 ∨ W = 1 ∨ W = 2 ∨ W = 3 ∨ W = 4 ∨ W = 5 ∨ W = 6 from by omega) with rfl | rfl | rfl | rfl | rfl | rfl | rfl <;> rcases (show T = 0 ∨ T = 1 ∨ T = 2 ∨ T = 3 ∨ T = 4 ∨ T = 5 ∨ T = 6 from by omega) with rfl | rfl | rfl | rfl | rfl | rfl | rfl <;>
  first | (exact absurd hok (by decide)) | (with_reducible exact til_2_2) | (with_reducible exact til_2_3) | (with_reducible exact til_2_4) | (with_reducible exact til_2_5) | (with_reducible exact til_2_6) | (with_reducible exact til_3_2) | (with_reducible exact til_3_4) | (with_reducible exact til_3_6) | (with_reducible exact til_4_2) | (with_reducible exact til_4_3) | (with_reducible exact til_4_4) | (with_reducible exact til_4_5) | (with_reducible exact til_4_6) | (with_reducible exact til_5_2) | (with_reducible exact til_5_4) | (with_reducible exact til_6_2) | (with_reducible exact til_6_3) | (with_reducible exact til_6_4)
theorem til_eq {W T a b : Nat} (h1 : W ≤ 6) (h2 : T ≤ 6) (hok : roundOk (W : Nat) (T : Nat) = true) (ha : a < W * T) (hb : b < W * T) (ho : oddPair W a b = true) :
    tilingB W T (((List.replicate (W * T) true).set a false).set b false) (cutI W T (roundL W T) a b) = true := by
  have h := til_all W T h1 h2 hok
  unfold cutTil at h
  have h3 := List.all_eq_true.1 (List.all_eq_true.1 h a (List.mem_range.2 ha)) b (List.mem_range.2 hb)
  rw [ho] at h3
  simpa using h3
end Go.Proofs.Ythkpiacanfajbaa
