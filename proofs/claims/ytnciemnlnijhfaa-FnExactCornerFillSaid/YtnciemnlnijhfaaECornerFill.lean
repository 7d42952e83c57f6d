/- The walk of the law FnExactCornerFill. -/
import Derived.Test.YtnciemnlnijhfaaCornJ
import Derived.Test.YtnciemnlnijhfaaCornT
namespace Go.Proofs.Ytnciemnlnijhfaa
open Go.RowKit

/-- both fill a square alike -/
theorem crn_both (side cell : Int) (hs1 : -9223372036854775808 ≤ side) (hs2 : side ≤ 9223372036854775807) : ∃ (V : List Int) (ok : Bool), V.length ≤ 16 ∧
    (∀ w, Calls Try.prog 28 #[.int .i64 side, .int .i64 cell] w (NewW2 V ok w)) ∧ (∀ w, Calls Try.prog 27 #[.int .i64 side, .int .i64 cell] w (NewR2 V ok w)) := by
  by_cases h : (side = 1 ∨ side = 2 ∨ side = 4) ∧ 0 ≤ cell ∧ cell < side * side
  · obtain ⟨hs, h0, h1⟩ := h
    obtain ⟨k, rfl⟩ := Int.eq_ofNat_of_zero_le h0
    rcases hs with rfl | rfl | rfl
    · have hk : k < 1 := by omega
      have e : crsV 1 0 k = crnV 1 0 k := (crn_eq 0 (by decide) k (List.mem_range.2 hk)).symm
      exact ⟨crnV 1 0 k, true, by rw [show (crnV 1 0 k).length = 1 from crn_len _ _ _ _ _ _ _ _]; omega, fun w => iCorner_1 k hk w, fun w => by rw [← e]; exact sCorner_1 k hk w⟩
    · have hk : k < 4 := by omega
      have e : crsV 2 1 k = crnV 2 1 k := (crn_eq 1 (by decide) k (List.mem_range.2 hk)).symm
      exact ⟨crnV 2 1 k, true, by rw [show (crnV 2 1 k).length = 4 from crn_len _ _ _ _ _ _ _ _]; omega, fun w => iCorner_2 k hk w, fun w => by rw [← e]; exact sCorner_2 k hk w⟩
    · have hk : k < 16 := by omega
      have e : crsV 4 2 k = crnV 4 2 k := (crn_eq 2 (by decide) k (List.mem_range.2 hk)).symm
      exact ⟨crnV 4 2 k, true, by rw [show (crnV 4 2 k).length = 16 from crn_len _ _ _ _ _ _ _ _]; omega, fun w => iCorner_4 k hk w, fun w => by rw [← e]; exact sCorner_4 k hk w⟩
  · exact ⟨[], false, by simp, fun w => iCorner_no side cell h hs1 hs2 w, fun w => sCorner_no side cell h w⟩
set_option maxHeartbeats 4000000 in
theorem fnExactCornerFill_walk (a : Int) (wa : (Lit.int .i64 a).wf = true) (b : Int) (_wb : (Lit.int .i64 b).wf = true) (w0 : World) :
    Calls Try.prog 5 #[.int .i64 a, .int .i64 b] w0 fun e w' => e = .returned (.bool true) ∧ Below w0.heap.size w0 w' := by
  have hwf : -9223372036854775808 ≤ a ∧ a ≤ 9223372036854775807 := by
    unfold Lit.wf at wa
    have e1 : IntKind.i64.min = -9223372036854775808 := by decide
    have e2 : IntKind.i64.max = 9223372036854775807 := by decide
    simp at wa
    omega
  obtain ⟨V, ok, hV, cI, cS⟩ := crn_both a b hwf.1 hwf.2
  clear wa _wb hwf
  have CI := Lib.hid cI
  have CS := Lib.hid cS
  clear cI cS
  have hXm : V.length ≤ maxLen := by unfold maxLen; omega
  have hne : ((1 : Int) + (V.length : Int) != 1 + (V.length : Int)) = false := by simp
  have hok : (ok != ok) = false := by cases ok <;> rfl
  go_enter Try.func5, Try.ntmps5
  go_wp2_with fail
  refine (CS.out _).mono ?_
  rintro e w1 ⟨A1, c1, rfl, R1, b1⟩
  go_wp2_with fail
  refine (CI.out _).mono ?_
  rintro e w2 ⟨A2, rfl, G2, b2⟩
  have R2 := R1.belo b2
  have B2 := bl_go b1 b2
  go_wp2_with fail
  refine (eqIntS_t _ _ _ _ V _ G2.rd R2 hXm).mono ?_
  rintro e w3 ⟨rfl, b3⟩
  have G3 := G2.belo b3
  have D3 := bl_go b2 b3
  have B3 := bl_go B2 b3
  have s2 := b2.size
  have s1 := b1.size
  clear R2 B2 G2 b3
  go_wp2_with fail
  refine (markIntS_any _ _ V 1 _ _ G3 (by omega) (by omega) (by omega)).mono ?_
  rintro e w4 ⟨rfl, G4, m4⟩
  have R4 := Rd.marked R1 D3 m4 G3 (Nat.le_refl _)
  have B4 := marked_below B3 m4 G3 s1 (by have := B3.size; omega)
  clear D3 B3 G3 m4
  go_wp2_with fail
  refine (heldIntS_any _ _ _ 1 _ G4.rd (by omega) (by omega) (by omega)).mono ?_
  rintro e w' ⟨rfl, rfl⟩
  go_wp2_with fail
  refine (CI.out _).mono ?_
  rintro e w5 ⟨A5, rfl, G5, b5⟩
  go_wp2_with fail
  refine (eqIntS_t _ _ _ _ V _ G5.rd (R4.belo b5) hXm).mono ?_
  rintro e w6 ⟨rfl, b6⟩
  have B6 := bl_go (bl_go B4 b5) b6
  have H6 := (G4.rd.belo b5).belo b6
  go_wp2_with fail
  refine (heldIntS_any _ _ _ 1 _ H6 (by omega) (by omega) (by omega)).mono ?_
  rintro e w' ⟨rfl, rfl⟩
  go_wp2
  go_ret
  exact ⟨rfl, B6⟩
end Go.Proofs.Ytnciemnlnijhfaa
