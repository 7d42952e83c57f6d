/- The walk of the law FnExactPieceFirst. -/
import Derived.Test.YtcghbpnhdpmilaaFormJ
import Derived.Test.YtcghbpnhdpmilaaFormU
import Derived.Test.YtcghbpnhdpmilaaCellMark
namespace Go.Proofs.Ytcghbpnhdpmilaa
open Go.RowKit

set_option maxHeartbeats 4000000 in
theorem fnExactPieceFirst_walk {w0 : World} (A : Option Addr) (c : Nat) (ps : List Ce) (hn : ps.length ≤ maxLen) (_hc : ps.length ≤ c) (hr : RdC w0 A ps) :
    Calls Try.prog 8 #[.slice A ps.length c] w0 fun e w' => e = .returned (.bool true) ∧ Below w0.heap.size w0 w' := by
  clear _hc
  by_cases hs : ps.length ≤ 1048576
  · have hs1 : (ps.length : Int) ≤ 1048576 := by omega
    have hXl : (firstV ps).length ≤ 1000000000 := (by have := firstV_len_le ps; omega)
    obtain ⟨V, hV⟩ : ∃ V, firstV ps = V := ⟨_, rfl⟩
    have cS := fun (w : World) (A : Option Addr) (c : Nat) (R : RdC w A ps) (cap : ps.length ≤ c) => sPieceFirstT_any A c ps w R hn cap
    have cI := fun (w : World) (A : Option Addr) (c : Nat) (R : RdC w A ps) (cap : ps.length ≤ c) => iPieceFirst_any A c ps w R hn cap
    rw [hV] at hXl
    simp only [hV] at cS cI
    clear hV
    have CS := Lib.hid cS
    have CI := Lib.hid cI
    clear cS cI
    have hXm : V.length ≤ maxLen := by unfold maxLen; omega
    have hne : ((1 : Int) + 2 * (V.length : Int) != 1 + 2 * (V.length : Int)) = false := by simp
    have Z0 := Below.refl w0.heap.size w0
    go_enter Try.func8, Try.ntmps8
    go_wp2_with fail
    refine (szCellS_t _ _ _ _ _ (by omega) hs1).mono ?_
    rintro e w1 ⟨rfl, rfl⟩
    go_wp2_with fail
    refine (toCellS_any _ _ _ _ hr (by omega)).mono ?_
    rintro e w2 ⟨A2, rfl, o2, b2⟩
    have Z2 := bl_go Z0 b2
    have S2 := OwnC.rd o2
    clear o2 b2 Z0
    go_wp2_with fail
    refine (CS.out _ _ _ S2 (Nat.le_refl _)).mono ?_
    rintro e w3 ⟨A3, c3, rfl, P3, b3, f3⟩
    have Z3 := bl_go Z2 b3
    have s3 := Z3.size
    have R3 := hr.belo Z3
    clear S2 b3 f3 Z2
    go_wp2_with fail
    refine (toCellS_any _ _ _ _ R3 (by omega)).mono ?_
    rintro e w4 ⟨A4, rfl, o4, b4⟩
    have Z4 := bl_go Z3 b4
    obtain ⟨A4', c4', eq4, o4'⟩ := o4
    have eA4 : A4 = A4' := by injection eq4
    have ec4 : ps.length = c4' := by injection eq4
    subst eA4; subst ec4
    clear eq4
    have Q4 := Wr.of_ownC o4'
    have l4 := own_ltS o4'
    have S4 : RdC w4 A4 ps := Q4.rd
    have D4 := b4
    have t4 : w3.heap.size ≤ w4.heap.size := D4.size
    clear b4 o4' Z3 R3
    go_wp2_with fail
    refine (CI.out _ _ _ S4 (Nat.le_refl _)).mono ?_
    rintro e w5 ⟨A5, rfl, G5, b5⟩
    have Z5 := bl_go Z4 b5
    have Q5 := Q4.belo b5
    have D5 := bl_go D4 b5
    have P5 := P3.belo D5
    clear b5 Q4 D4 Z4 S4
    go_wp2_with fail
    refine (eqCellS_t _ _ _ _ V _ G5.rd P5 hXm).mono ?_
    rintro e w6 ⟨rfl, b6⟩
    have Z6 := bl_go Z5 b6
    have Q6 := Q5.belo b6
    have D6 := bl_go D5 b6
    have G6 := G5.belo b6
    have R6 := hr.belo Z6
    clear b6 Q5 P5 G5 Z5 D5
    go_wp2_with fail
    refine (toCellS_any _ _ _ _ R6 (by omega)).mono ?_
    rintro e w7 ⟨A7, rfl, o7, b7⟩
    have S7 := OwnC.rd o7
    have T7 : RdC w7 A4 ps := Q6.rd.belo b7
    have Q7 := Q6.belo b7
    have D7 := bl_go D6 b7
    have G7 := G6.belo b7
    have Z7 := bl_go Z6 b7
    clear o7 b7 Z6 Q6 D6 G6 R6
    go_wp2_with fail
    refine (eqCellS_t _ _ _ _ _ _ T7 S7 hn).mono ?_
    rintro e w8 ⟨rfl, b8⟩
    have Q8 := Q7.belo b8
    have D8 := bl_go D7 b8
    have G8 := G7.belo b8
    have Z8 := bl_go Z7 b8
    clear b8 Z7 Q7 D7 G7 S7 T7
    have hcl := cellsV_len ps
    go_wp2_with fail
    refine (markCellS_any _ _ _ _ _ _ _ Q8 hcl (by omega) (by omega) (by omega)).mono ?_
    rintro e w9 ⟨rfl, _, m9⟩
    have Z9 := marked_below Z8 m9 Q8 s3 Z8.size
    have D9 := marked_below D8 m9 Q8 (Nat.le_refl _) D8.size
    have P9 := Rd.marked P3 D8 m9 Q8 (Nat.le_refl _)
    have G9 := G8.elder m9 (fun ad h => by have := l4 ad h; omega)
    clear Z8 G8 D8 Q8 m9 hcl
    go_wp2_with fail
    refine (eqCellS_t _ _ _ _ V _ G9.rd P9 hXm).mono ?_
    rintro e w10 ⟨rfl, b10⟩
    have Z10 := bl_go Z9 b10
    have D10 := bl_go D9 b10
    have G10 := G9.belo b10
    clear Z9 D9 P9 G9 b10
    have hvl := cellsV_len V
    go_wp2_with fail
    refine (markCellS_any _ _ _ _ 1 _ _ G10 hvl (by omega) (by omega) (by omega)).mono ?_
    rintro e w11 ⟨rfl, G11, m11⟩
    have Z11 := marked_below Z10 m11 G10 (by omega) Z10.size
    have P11 := Rd.marked P3 D10 m11 G10 t4
    clear Z10 D10 G10 m11 hvl
    go_wp2_with fail
    refine (heldCellS_any _ _ _ 1 _ G11.rd (by omega) (by omega) (by omega)).mono ?_
    rintro e w' ⟨rfl, rfl⟩
    have R11 := hr.belo Z11
    go_wp2_with fail
    refine (toCellS_any _ _ _ _ R11 (by omega)).mono ?_
    rintro e w12 ⟨A12, rfl, o12, b12⟩
    have B12 := bl_go Z11 b12
    have P12 := P11.belo b12
    have G12 := G11.rd.belo b12
    go_wp2_with fail
    refine (CI.out _ _ _ (OwnC.rd o12) (Nat.le_refl _)).mono ?_
    rintro e w13 ⟨A13, rfl, G13, b13⟩
    have B13 := bl_go B12 b13
    go_wp2_with fail
    refine (eqCellS_t _ _ _ _ V _ G13.rd (P12.belo b13) hXm).mono ?_
    rintro e w14 ⟨rfl, b14⟩
    have B14 := bl_go B13 b14
    have G14 := (G12.belo b13).belo b14
    go_wp2_with fail
    refine (heldCellS_any _ _ _ 1 _ G14 (by omega) (by omega) (by omega)).mono ?_
    rintro e w' ⟨rfl, rfl⟩
    go_wp2
    go_ret
    exact ⟨rfl, B14⟩
  · have hs1 : (1048576 : Int) < ps.length := by omega
    go_enter Try.func8, Try.ntmps8
    go_wp2_with fail
    refine (szCellS_f _ _ _ _ _ (by omega) hn hs1).mono ?_
    rintro e w1 ⟨rfl, rfl⟩
    go_wp2
    go_ret
    exact ⟨rfl, Below.refl _ _⟩
end Go.Proofs.Ytcghbpnhdpmilaa
