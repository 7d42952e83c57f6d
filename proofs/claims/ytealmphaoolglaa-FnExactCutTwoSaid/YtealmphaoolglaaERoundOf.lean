/- The walk of the law FnExactRoundOf. -/
import Derived.Test.YtealmphaoolglaaRoundOf
namespace Go.Proofs.Ytealmphaoolglaa
open Go.RowKit

theorem newRd_empty (w : World) : NewRd [] w (.returned (.slice (some ⟨w.heap.size, 0, none⟩) 0 0)) (w.alloc (.cells #[] 3)) :=
  (OwnI.empty w).newRd (bl_alloc (Below.refl _ _) _) (Nat.le_refl _)

set_option maxHeartbeats 2000000 in
theorem sRoundOf_any (W T : Int) (w : World) : Calls Try.prog 19 #[.int .i64 W, .int .i64 T] w (NewRd (roundOf W T) w) := by
  by_cases h1 : 2 ≤ W ∧ W ≤ 6
  · obtain ⟨a1, a2⟩ := h1
    by_cases h2 : 2 ≤ T ∧ T ≤ 6
    · obtain ⟨b1, b2⟩ := h2
      obtain ⟨m1, m2⟩ := mul6 (a := W) (b := T) (by omega) a2 (by omega) b2
      by_cases h3 : W * T ≤ 24
      · obtain ⟨Wn, rfl⟩ := Int.eq_ofNat_of_zero_le (show 0 ≤ W by omega)
        obtain ⟨Tn, rfl⟩ := Int.eq_ofNat_of_zero_le (show 0 ≤ T by omega)
        by_cases h4 : Tn % 2 = 0
        · rw [roundOf_ok (by omega) (by omega) h3 (.inl h4), show roundL Wn Tn = roundN Wn Tn (byRow Wn) by unfold roundL; rw [if_pos h4]]
          exact sRoundOf_even Wn Tn w (by omega) (by omega) (by omega) (by omega) h3 h4
        · by_cases h5 : Wn % 2 = 0
          · rw [roundOf_ok (by omega) (by omega) h3 (.inr h5), show roundL Wn Tn = roundN Tn Wn (byCol Wn) by unfold roundL; rw [if_neg h4]]
            exact sRoundOf_odd Wn Tn w (by omega) (by omega) (by omega) (by omega) h3 (by omega) h5
          · have HR := Lib.hid (roundOf_no (W := Wn) (T := Tn) (by omega))
            have hpar : ((Wn : Int) * Tn % 2 == 1) = true := by
              rw [beq_iff_eq, Int.mul_emod, show (Wn : Int) % 2 = 1 by omega, show (Tn : Int) % 2 = 1 by omega]; rfl
            go_enter Try.func19, Try.ntmps19
            go_wp2_with (first | (go_at_call 53; refine (l1in_t _ _ _ _ (by omega) (by omega)).mono ?_; rintro e w' ⟨rfl, rfl⟩))
            go_ret
            rw [HR.out]
            exact newRd_empty w
      · have HR := Lib.hid (roundOf_no (W := W) (T := T) (fun h => h3 h.2.2.1))
        go_enter Try.func19, Try.ntmps19
        go_wp2_with (first | (go_at_call 53; refine (l1in_t _ _ _ _ (by omega) (by omega)).mono ?_; rintro e w' ⟨rfl, rfl⟩))
        go_ret
        rw [HR.out]
        exact newRd_empty w
    · have HR := Lib.hid (roundOf_no (W := W) (T := T) (fun h => h2 h.2.1))
      have h2' : T < 2 ∨ 6 < T := by omega
      clear h2
      go_enter Try.func19, Try.ntmps19
      go_wp2_with (first | (go_at_call 53; refine (l1in_t _ _ _ _ (by omega) (by omega)).mono ?_; rintro e w' ⟨rfl, rfl⟩) | (go_at_call 53; refine (l1in_f _ _ _ _ (by omega)).mono ?_; rintro e w' ⟨rfl, rfl⟩))
      go_ret
      rw [HR.out]
      exact newRd_empty w
  · have HR := Lib.hid (roundOf_no (W := W) (T := T) (fun h => h1 h.1))
    have h1' : W < 2 ∨ 6 < W := by omega
    clear h1
    go_enter Try.func19, Try.ntmps19
    go_wp2_with (first | (go_at_call 53; refine (l1in_f _ _ _ _ (by omega)).mono ?_; rintro e w' ⟨rfl, rfl⟩))
    go_ret
    rw [HR.out]
    exact newRd_empty w

theorem roundOf_len (W T : Int) : (roundOf W T).length ≤ 100 := by
  unfold roundOf
  by_cases h : roundOk W T = true
  · rw [if_pos h]
    unfold roundOk at h
    simp at h
    have e1 := mul6n (a := T.toNat) (b := W.toNat - 1) (by omega) (by omega)
    have e2 := mul6n (a := W.toNat) (b := T.toNat - 1) (by omega) (by omega)
    unfold roundL
    split
    · rw [← roundAcc_end, roundAcc_len]; omega
    · rw [← roundAcc_end, roundAcc_len]; omega
  · rw [if_neg h]; simp

set_option maxHeartbeats 2000000 in
theorem fnExactRoundOf_walk (W : Int) (_wW : (Lit.int .i64 W).wf = true) (T : Int) (_wT : (Lit.int .i64 T).wf = true) (w0 : World) :
    Calls Try.prog 5 #[.int .i64 W, .int .i64 T] w0 fun e w' => e = .returned (.bool true) ∧ Below w0.heap.size w0 w' := by
  clear _wW _wT
  obtain ⟨X, hX⟩ : ∃ X, roundOf W T = X := ⟨_, rfl⟩
  have hl := roundOf_len W T
  have cS := fun w => sRoundOf_any W T w
  have cI := fun w => iRoundOf_any W T w
  rw [hX] at hl
  simp only [hX] at cS cI
  clear hX
  have CS := Lib.hid cS
  have CI := Lib.hid cI
  clear cS cI
  have hm : X.length ≤ maxLen := by unfold maxLen; omega
  have hne : ((1 : Int) + (X.length : Int) != 1 + (X.length : Int)) = false := by simp
  go_enter Try.func5, Try.ntmps5
  go_wp2_with fail
  refine (CS.out _).mono ?_
  rintro e w1 ⟨A1, c1, rfl, r1, b1, f1⟩
  go_wp2_with fail
  refine (CI.out _).mono ?_
  rintro e w2 ⟨A2, rfl, g2, b2⟩
  have B2 := bl_go b1 b2
  have r2 := r1.belo b2
  go_wp2_with fail
  refine (eqIntS_t _ _ _ _ X _ g2.rd r2 hm).mono ?_
  rintro e w3 ⟨rfl, b3⟩
  have B3 := bl_go B2 b3
  have r3 := r2.belo b3
  have g3 := g2.belo b3
  go_wp2_with fail
  refine (markIntS_any _ _ X 1 _ _ g3 (by omega) (by omega) (by omega)).mono ?_
  rintro e w4 ⟨rfl, g4, y4⟩
  have B4 := marked_below B3 y4 g3 b1.size (Nat.le_trans b1.size (Nat.le_trans b2.size b3.size))
  have r4 := Rd.marked r1 (bl_go b2 b3) y4 g3 (Nat.le_refl _)
  go_wp2_with fail
  refine (heldIntS_any _ _ _ 1 _ g4.rd (by omega) (by omega) (by omega)).mono ?_
  rintro e w5 ⟨rfl, rfl⟩
  go_wp2_with fail
  refine (CI.out _).mono ?_
  rintro e w6 ⟨A6, rfl, g6, b6⟩
  have B6 := bl_go B4 b6
  have r6 := r4.belo b6
  have k6 := g4.rd.belo b6
  go_wp2_with fail
  refine (eqIntS_t _ _ _ _ X _ g6.rd r6 hm).mono ?_
  rintro e w7 ⟨rfl, b7⟩
  have B7 := bl_go B6 b7
  go_wp2_with fail
  refine (heldIntS_any _ _ _ 1 _ (k6.belo b7) (by omega) (by omega) (by omega)).mono ?_
  rintro e w8 ⟨rfl, rfl⟩
  go_wp2
  go_ret
  exact ⟨rfl, B7⟩
end Go.Proofs.Ytealmphaoolglaa
