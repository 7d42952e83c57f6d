/- Contracts of pair and PairOf, the program's and the reference's. -/
import Derived.Test.YtealmphaoolglaaBase
import Derived.Test.YtealmphaoolglaaMem
namespace Go.Proofs.Ytealmphaoolglaa
open Go.RowKit

/-- the number of a pair -/
def pairN (a b : Int) : Int := if a ≤ b then 7 * a + b else 7 * b + a
def pairOf (a b : Int) : Int := if 0 ≤ a ∧ a ≤ 6 ∧ 0 ≤ b ∧ b ≤ 6 then pairN a b else -1

set_option maxHeartbeats 400000 in
theorem pair_any (a b : Int) (w : World) (h1 : 0 ≤ a) (h2 : a ≤ 6) (h3 : 0 ≤ b) (h4 : b ≤ 6) :
    Calls Try.prog 55 #[.int .i64 a, .int .i64 b] w fun e w' => e = .returned (.int .i64 (pairN a b)) ∧ w = w' := by
  rcases (show a < b ∨ b < a ∨ a = b from by omega) with h | h | h
  · go_enter Try.func55, Try.ntmps55
    go_wp2
    go_ret
    exact ⟨ret_i (by unfold pairN; rw [if_pos (by omega)]), rfl⟩
  · go_enter Try.func55, Try.ntmps55
    go_wp2
    go_ret
    exact ⟨ret_i (by unfold pairN; rw [if_neg (by omega)]), rfl⟩
  · subst h
    go_enter Try.func55, Try.ntmps55
    go_wp2
    go_ret
    exact ⟨ret_i (by unfold pairN; rw [if_pos (by omega)]), rfl⟩

set_option maxHeartbeats 400000 in
theorem ipairOf_any (a b : Int) (w : World) :
    Calls Try.prog 16 #[.int .i64 a, .int .i64 b] w fun e w' => e = .returned (.int .i64 (pairOf a b)) ∧ w = w' := by
  rcases (show (a < 0 ∨ 6 < a) ∨ (0 ≤ a ∧ a ≤ 6 ∧ (b < 0 ∨ 6 < b)) ∨ (0 ≤ a ∧ a ≤ 6 ∧ 0 ≤ b ∧ b ≤ 6) from by omega) with h | ⟨h1, h2, h⟩ | ⟨h1, h2, h3, h4⟩
  · go_enter Try.func16, Try.ntmps16
    go_wp2_with (go_at_call 54; refine (in_f _ _ _ _ h).mono ?_; rintro e w' ⟨rfl, rfl⟩)
    go_ret
    exact ⟨ret_i (by unfold pairOf; rw [if_neg (by omega)]), rfl⟩
  · go_enter Try.func16, Try.ntmps16
    go_wp2_with (first | (go_at_call 54; refine (in_t _ _ _ _ (by omega) (by omega)).mono ?_; rintro e w' ⟨rfl, rfl⟩) | (go_at_call 54; refine (in_f _ _ _ _ (by omega)).mono ?_; rintro e w' ⟨rfl, rfl⟩))
    go_ret
    exact ⟨ret_i (by unfold pairOf; rw [if_neg (by omega)]), rfl⟩
  · go_enter Try.func16, Try.ntmps16
    go_wp2_with (first | (go_at_call 54; refine (in_t _ _ _ _ (by omega) (by omega)).mono ?_; rintro e w' ⟨rfl, rfl⟩) | (go_at_call 55; refine (pair_any _ _ _ h1 h2 h3 h4).mono ?_; rintro e w' ⟨rfl, rfl⟩))
    go_ret
    exact ⟨ret_i (by unfold pairOf; rw [if_pos (by omega)]), rfl⟩

set_option maxHeartbeats 400000 in
theorem spairOf_any (a b : Int) (w : World) :
    Calls Try.prog 15 #[.int .i64 a, .int .i64 b] w fun e w' => e = .returned (.int .i64 (pairOf a b)) ∧ w = w' := by
  rcases (show (a < 0 ∨ 6 < a) ∨ (0 ≤ a ∧ a ≤ 6 ∧ (b < 0 ∨ 6 < b)) ∨ (0 ≤ a ∧ a ≤ 6 ∧ 0 ≤ b ∧ b ≤ 6) from by omega) with h | ⟨h1, h2, h⟩ | ⟨h1, h2, h3, h4⟩
  · go_enter Try.func15, Try.ntmps15
    go_wp2_with (go_at_call 53; refine (l1in_f _ _ _ _ h).mono ?_; rintro e w' ⟨rfl, rfl⟩)
    go_ret
    exact ⟨ret_i (by unfold pairOf; rw [if_neg (by omega)]), rfl⟩
  · go_enter Try.func15, Try.ntmps15
    go_wp2_with (first | (go_at_call 53; refine (l1in_t _ _ _ _ (by omega) (by omega)).mono ?_; rintro e w' ⟨rfl, rfl⟩) | (go_at_call 53; refine (l1in_f _ _ _ _ (by omega)).mono ?_; rintro e w' ⟨rfl, rfl⟩))
    go_ret
    exact ⟨ret_i (by unfold pairOf; rw [if_neg (by omega)]), rfl⟩
  · rcases (show a < b ∨ b < a ∨ a = b from by omega) with h | h | h
    · go_enter Try.func15, Try.ntmps15
      go_wp2_with (go_at_call 53; refine (l1in_t _ _ _ _ (by omega) (by omega)).mono ?_; rintro e w' ⟨rfl, rfl⟩)
      go_ret
      exact ⟨ret_i (by unfold pairOf pairN; rw [if_pos (by omega), if_pos (by omega)]), rfl⟩
    · go_enter Try.func15, Try.ntmps15
      go_wp2_with (go_at_call 53; refine (l1in_t _ _ _ _ (by omega) (by omega)).mono ?_; rintro e w' ⟨rfl, rfl⟩)
      go_ret
      exact ⟨ret_i (by unfold pairOf pairN; rw [if_pos (by omega), if_neg (by omega)]), rfl⟩
    · subst h
      go_enter Try.func15, Try.ntmps15
      go_wp2_with (go_at_call 53; refine (l1in_t _ _ _ _ (by omega) (by omega)).mono ?_; rintro e w' ⟨rfl, rfl⟩)
      go_ret
      exact ⟨ret_i (by unfold pairOf pairN; rw [if_pos (by omega), if_pos (by omega)]), rfl⟩
end Go.Proofs.Ytealmphaoolglaa
