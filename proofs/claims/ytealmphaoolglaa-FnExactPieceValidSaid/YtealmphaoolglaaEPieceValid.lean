/- The walk of the law FnExactPieceValid. -/
import Derived.Test.YtealmphaoolglaaPieceS
import Derived.Test.YtealmphaoolglaaCells
namespace Go.Proofs.Ytealmphaoolglaa
open Go.RowKit

set_option maxHeartbeats 2000000 in
theorem fnExactPieceValid_walk {w0 : World} (A : Option Addr) (c : Nat) (ps : List Ce) (hn : ps.length ≤ maxLen) (_hc : ps.length ≤ c) (hr : RdC w0 A ps) :
    Calls Try.prog 6 #[.slice A ps.length c] w0 fun e w' => e = .returned (.bool true) ∧ Below w0.heap.size w0 w' := by
  clear _hc
  by_cases hs : ps.length ≤ 1048576
  · have hs1 : (ps.length : Int) ≤ 1048576 := by omega
    obtain ⟨pv, hpv⟩ : ∃ pv, pieceB ps = pv := ⟨_, rfl⟩
    have HP := Lib.hid hpv
    clear hpv
    have hpp : (pv != pv) = false := by simp
    go_enter Try.func6, Try.ntmps6
    go_wp2_with fail
    refine (szCellS_t _ _ _ _ _ (by omega) hs1).mono ?_
    rintro e w1 ⟨rfl, rfl⟩
    go_wp2_with fail
    refine (toCellS_any _ _ _ _ hr (by omega)).mono ?_
    rintro e w2 ⟨A2, rfl, o2, b2⟩
    have R2 : RdC w0 A ps := hr
    have S2 := OwnC.rd o2
    have Q2 := hr.belo b2
    go_wp2_with fail
    refine (sPieceValid_any _ _ _ _ S2 hn (Nat.le_refl _)).mono ?_
    rintro e w3 ⟨rfl, b3⟩
    rw [HP.out]
    have B3 := bl_go b2 b3
    have R3 := hr.belo B3
    clear S2 Q2 R2 o2 b2 b3
    go_wp2_with fail
    refine (toCellS_any _ _ _ _ R3 (by omega)).mono ?_
    rintro e w4 ⟨A4, rfl, o4, b4⟩
    have B4 := bl_go B3 b4
    have S4 := OwnC.rd o4
    clear o4 b4 R3 B3
    go_wp2_with fail
    refine (iPieceValid_any _ _ _ _ S4 hn (Nat.le_refl _)).mono ?_
    rintro e w5 ⟨rfl, b5⟩
    rw [HP.out]
    have B5 := bl_go B4 b5
    have S5 := S4.belo b5
    have R5 := hr.belo B5
    clear S4 b5 B4
    go_wp2_with fail
    refine (toCellS_any _ _ _ _ R5 (by omega)).mono ?_
    rintro e w6 ⟨A6, rfl, o6, b6⟩
    have B6 := bl_go B5 b6
    have S6 := OwnC.rd o6
    have T6 := S5.belo b6
    clear o6 b6 B5 S5 R5
    go_wp2_with fail
    refine (eqCellS_t _ _ _ _ _ _ T6 S6 hn).mono ?_
    rintro e w7 ⟨rfl, b7⟩
    have B7 := bl_go B6 b7
    go_wp2
    go_ret
    exact ⟨rfl, B7⟩
  · have hs1 : (1048576 : Int) < ps.length := by omega
    go_enter Try.func6, Try.ntmps6
    go_wp2_with fail
    refine (szCellS_f _ _ _ _ _ (by omega) hn hs1).mono ?_
    rintro e w1 ⟨rfl, rfl⟩
    go_wp2
    go_ret
    exact ⟨rfl, Below.refl _ _⟩
end Go.Proofs.Ytealmphaoolglaa
