/- The walk of the law FnExactPiecesValid. -/
import Derived.Test.YtealmphaoolglaaCellss2
namespace Go.Proofs.Ytealmphaoolglaa
open Go.RowKit

set_option maxHeartbeats 2000000 in
theorem fnExactPiecesValid_walk {w0 : World} (A : Option Addr) (c : Nat) (pss : List (List Ce)) (hn : pss.length ≤ maxLen) (hr : RdSS w0 A pss) :
    Calls Try.prog 12 #[.slice A pss.length c] w0 fun e w' => e = .returned (.bool true) ∧ Below w0.heap.size w0 w' := by
  obtain ⟨pv, hpv⟩ : ∃ pv, (decide (pss.length ≤ 6) && piecesB pss) = pv := ⟨_, rfl⟩
  have HP := Lib.hid hpv
  clear hpv
  have hpp : (pv != pv) = false := by simp
  go_enter Try.func12, Try.ntmps12
  go_wp2_with fail
  refine (szCellSS_any _ _ _ _ hr hn).mono ?_
  rintro e w1 ⟨r, rfl, HR, rfl⟩
  by_cases h0 : r < 0
  · go_wp2_with fail
    go_ret
    exact ⟨rfl, Below.refl _ _⟩
  · have H2 := Lib.hid (HR.out (by omega))
    go_wp2_with fail
    refine (toCellSS_any _ _ _ _ hr H2.out.1 H2.out.2).mono ?_
    rintro e w2 ⟨A2, rfl, S2, b2⟩
    go_wp2_with fail
    refine (sPiecesValid_any _ _ _ _ S2 hn).mono ?_
    rintro e w3 ⟨rfl, b3⟩
    rw [HP.out]
    have B3 := bl_go b2 b3
    have R3 := hr.belo B3
    clear S2 b2 b3
    go_wp2_with fail
    refine (toCellSS_any _ _ _ _ R3 H2.out.1 H2.out.2).mono ?_
    rintro e w4 ⟨A4, rfl, S4, b4⟩
    have B4 := bl_go B3 b4
    clear b4 R3 B3
    go_wp2_with fail
    refine (iPiecesValid_any _ _ _ _ S4 hn).mono ?_
    rintro e w5 ⟨rfl, b5⟩
    rw [HP.out]
    have B5 := bl_go B4 b5
    have S5 := S4.belo b5
    have R5 := hr.belo B5
    clear S4 b5 B4
    go_wp2_with fail
    refine (toCellSS_any _ _ _ _ R5 H2.out.1 H2.out.2).mono ?_
    rintro e w6 ⟨A6, rfl, S6, b6⟩
    have B6 := bl_go B5 b6
    have T6 := S5.belo b6
    clear b6 B5 S5 R5
    go_wp2_with fail
    refine (eqCellSS_t _ _ _ _ _ _ T6 S6 hn).mono ?_
    rintro e w7 ⟨rfl, b7⟩
    have B7 := bl_go B6 b7
    go_wp2
    go_ret
    exact ⟨rfl, B7⟩
end Go.Proofs.Ytealmphaoolglaa
