/- The walk of the law FnExactRoundOf. -/
import Derived.Test.YthkpiacanfajbaaRoundOf
namespace Go.Proofs.Ythkpiacanfajbaa
open Go.RowKit

theorem newRd_empty (w : World) : NewRd [] w (.returned (.slice (some ⟨w.heap.size, 0, none⟩) 0 0)) (w.alloc (.cells #[] 3)) :=
  (OwnI.empty w).newRd (bl_alloc (Below.refl _ _) _) (Nat.le_refl _)

set_option maxHeartbeats 2000000 in
theorem sRoundOf_any (W T : Int) (w : World) : Calls Try.prog 14 #[.int .i64 W, .int .i64 T] w (NewRd (roundOf W T) w) := by
  by_cases h1 : 2 ≤ W ∧ W ≤ 6
  · obtain ⟨a1, a2⟩ := h1
    by_cases h2 : 2 ≤ T ∧ T ≤ 6
    · obtain ⟨b1, b2⟩ := h2
      obtain ⟨m1, m2⟩ := mul6 (a := W) (b := T) (by omega) a2 (by omega) b2
      by_cases h3 : W * T ≤ 24
      · obtain ⟨Wn, rfl⟩ := Int.eq_ofNat_of_zero_le (show 0 ≤ W by omega)
        obtain ⟨Tn, rfl⟩ := Int.eq_ofNat_of_zero_le (show 0 ≤ T by omega)
        by_cases h4 : Tn % 2 = 0
        · rw [roundOf_ok (by omega) (by omega) h3 (.inl h4), show roundL Wn Tn = roundN Wn Tn (byRow Wn) by unfold roundL; rw [if_pos h4]]
          exact sRoundOf_even Wn Tn w (by omega) (by omega) (by omega) (by omega) h3 h4
        · by_cases h5 : Wn % 2 = 0
          · rw [roundOf_ok (by omega) (by omega) h3 (.inr h5), show roundL Wn Tn = roundN Tn Wn (byCol Wn) by unfold roundL; rw [if_neg h4]]
            exact sRoundOf_odd Wn Tn w (by omega) (by omega) (by omega) (by omega) h3 (by omega) h5
          · have HR := Lib.hid (roundOf_no (W := Wn) (T := Tn) (by omega))
            have hpar : ((Wn : Int) * Tn % 2 == 1) = true := by
              rw [beq_iff_eq, Int.mul_emod, show (Wn : Int) % 2 = 1 by omega, show (Tn : Int) % 2 = 1 by omega]; rfl
            go_enter Try.func14, Try.ntmps14
            go_wp2_with (first | (go_at_call 56; refine (l1in_t _ _ _ _ (by omega) (by omega)).mono ?_; rintro e w' ⟨rfl, rfl⟩))
            go_ret
            rw [HR.out]
            exact newRd_empty w
      · have HR := Lib.hid (roundOf_no (W := W) (T := T) (fun h => h3 h.2.2.1))
        go_enter Try.func14, Try.ntmps14
        go_wp2_with (first | (go_at_call 56; refine (l1in_t _ _ _ _ (by omega) (by omega)).mono ?_; rintro e w' ⟨rfl, rfl⟩))
        go_ret
        rw [HR.out]
        exact newRd_empty w
    · have HR := Lib.hid (roundOf_no (W := W) (T := T) (fun h => h2 h.2.1))
      have h2' : T < 2 ∨ 6 < T := by omega
      clear h2
      go_enter Try.func14, Try.ntmps14
      go_wp2_with (first | (go_at_call 56; refine (l1in_t _ _ _ _ (by omega) (by omega)).mono ?_; rintro e w' ⟨rfl, rfl⟩) | (go_at_call 56; refine (l1in_f _ _ _ _ (by omega)).mono ?_; rintro e w' ⟨rfl, rfl⟩))
      go_ret
      rw [HR.out]
      exact newRd_empty w
  · have HR := Lib.hid (roundOf_no (W := W) (T := T) (fun h => h1 h.1))
    have h1' : W < 2 ∨ 6 < W := by omega
    clear h1
    go_enter Try.func14, Try.ntmps14
    go_wp2_with (first | (go_at_call 56; refine (l1in_f _ _ _ _ (by omega)).mono ?_; rintro e w' ⟨rfl, rfl⟩))
    go_ret
    rw [HR.out]
    exact newRd_empty w

theorem roundOf_len (W T : Int) : (roundOf W T).length ≤ 100 := by
  unfold roundOf
  by_cases h : roundOk W T = true
  · rw [if_pos h]
    unfold roundOk at h
    simp at h
    have e1 := mul6n (a := T.toNat) (b := W.toNat - 1) (by omega) (by omega)
    have e2 := mul6n (a := W.toNat) (b := T.toNat - 1) (by omega) (by omega)
    unfold roundL
    split
    · rw [← roundAcc_end, roundAcc_len]; omega
    · rw [← roundAcc_end, roundAcc_len]; omega
  · rw [if_neg h]; simp

end Go.Proofs.Ythkpiacanfajbaa
