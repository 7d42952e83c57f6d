/- The walk of the law FnExactPieceRegion. -/
import Derived.Test.YtbplnjigoghboaaRegS
import Derived.Test.YtbplnjigoghboaaCellMark
import Derived.Test.YtbplnjigoghboaaRegMark
namespace Go.Proofs.Ytbplnjigoghboaa
open Go.RowKit

theorem C3.row {w w' : World} {b : Nat} {x y z : Value} {row : Option Nat} (h : C3 w b x y z) (hg : w.grownBy w' row) (hr : row ≠ some b) : C3 w' b x y z := by
  have hl := h.lt
  obtain ⟨h0, h1, h2⟩ := h
  exact ⟨(hg.cell_far ⟨b, 0, none⟩ hl (fun e => hr e.symm)).trans h0, (hg.cell_far ⟨b, 1, none⟩ hl (fun e => hr e.symm)).trans h1, (hg.cell_far ⟨b, 2, none⟩ hl (fun e => hr e.symm)).trans h2⟩
set_option maxRecDepth 100000 in
set_option maxHeartbeats 4000000 in
theorem fnExactPieceRegion_walk {w0 : World} (A : Option Addr) (c : Nat) (ps : List Ce) (hn : ps.length ≤ maxLen) (_hc : ps.length ≤ c) (hr : RdC w0 A ps) :
    Calls Try.prog 7 #[.slice A ps.length c] w0 fun e w' => e = .returned (.bool true) ∧ Below w0.heap.size w0 w' := by
  clear _hc
  by_cases hs : ps.length ≤ 1048576
  · have hs1 : (ps.length : Int) ≤ 1048576 := by omega
    have cS := fun (w : World) (A : Option Addr) (c : Nat) (R : RdC w A ps) (cap : ps.length ≤ c) => sPieceRegion_any A c ps w R hn cap
    have cI := fun (w : World) (A : Option Addr) (c : Nat) (R : RdC w A ps) (cap : ps.length ≤ c) => iPieceRegion_any A c ps w R hn cap
    have hl := fieldV_len ps
    generalize fieldP (mvdV stayC ps) = V at cS cI hl
    generalize (hiP (mvdV stayC ps)).1 = W at cS cI
    generalize (hiP (mvdV stayC ps)).2 = T at cS cI
    have CS := Lib.hid cS
    have CI := Lib.hid cI
    clear cS cI
    have hXm : V.length ≤ maxLen := by unfold maxLen; omega
    have hvl : (V.map Value.bool).length = V.length := List.length_map _
    have HVL := Lib.hid hvl
    clear hvl
    have hne : ((1 : Int) + (V.length : Int) != 1 + (V.length : Int)) = false := by simp
    have Z0 := Below.refl w0.heap.size w0
    go_enter Try.func7, Try.ntmps7
    go_wp2_with fail
    refine (szCellS_t _ _ _ _ _ (by omega) hs1).mono ?_
    rintro e w1 ⟨rfl, rfl⟩
    go_wp2_with fail
    refine (toCellS_any _ _ _ _ hr (by omega)).mono ?_
    rintro e w2 ⟨A2, rfl, o2, b2⟩
    have Z2 := bl_go Z0 b2
    have S2 := OwnC.rd o2
    clear o2 b2 Z0
    go_wp2_with fail
    refine (CS.out _ _ _ S2 (Nat.le_refl _)).mono ?_
    rintro e w3 ⟨A3, c3, rfl, p3, b3⟩
    have P3 := p3.rd.alloc (.cells #[.int .i64 W, .int .i64 T, .slice A3 V.length c3] 40)
    have Z3 := bl_alloc (bl_go Z2 b3) (.cells #[.int .i64 W, .int .i64 T, .slice A3 V.length c3] 40)
    have X3 := C3.new w3 (.int .i64 W) (.int .i64 T) (.slice A3 V.length c3) 40
    clear S2 b3 Z2 p3
    go_wp2_with fail
    generalize hx4 : w3.heap.size = x4 at *
    generalize w3.alloc (.cells #[.int .i64 W, .int .i64 T, .slice A3 V.length c3] 40) = w3a at *
    have s3 := Z3.size
    have R3 := hr.belo Z3
    have hx4l := X3.lt
    refine (toCellS_any _ _ _ _ R3 (by omega)).mono ?_
    rintro e w4 ⟨A4, rfl, o4, b4⟩
    have Z4 := bl_go Z3 b4
    obtain ⟨A4', c4', eq4, o4'⟩ := o4
    have eA4 : A4 = A4' := by injection eq4
    have ec4 : ps.length = c4' := by injection eq4
    subst eA4; subst ec4
    clear eq4
    have Q4 := Wr.of_ownC o4'
    have l4 := own_ltS o4'
    have S4 : RdC w4 A4 ps := Q4.rd
    have D4 := b4
    have t4 : w3a.heap.size ≤ w4.heap.size := D4.size
    have X4 := X3.belo b4
    clear b4 o4' Z3 R3 X3 hx4
    go_wp2_with fail
    refine (CI.out _ _ _ S4 (Nat.le_refl _)).mono ?_
    rintro e w5 ⟨A5, c5, rfl, G5, b5⟩
    have hA5 : V ≠ [] → ∀ ad, A5 = some ad → ad.block < w5.heap.size := fun hne ad ha => G5.rd.lt ha (by simpa using hne)
    have hz5 := b5.size
    have X50 := X4.belo b5
    obtain ⟨u0, u1, u2⟩ := id X50
    have hx45 := X50.lt
    have b5a := bl_alloc b5 (.cells #[.int .i64 W, .int .i64 T, .slice A5 V.length c5] 40)
    have Z5 := bl_go Z4 b5a
    have Q5 := Q4.belo b5a
    have D5 := bl_go D4 b5a
    have P5 := P3.belo D5
    have X5 := X4.belo b5a
    have Y5 := C3.new w5 (.int .i64 W) (.int .i64 T) (.slice A5 V.length c5) 40
    have G5 := G5.belo (bl_alloc (Below.refl _ _) (.cells #[.int .i64 W, .int .i64 T, .slice A5 V.length c5] 40))
    clear b5 b5a Q4 D4 Z4 S4 X4 X50
    go_wp2_with fail
    generalize w5.heap.size = x6 at *
    generalize w5.alloc (.cells #[.int .i64 W, .int .i64 T, .slice A5 V.length c5] 40) = w5a at *
    refine (eqRegion_t _ _ _ _ _ _ V _ G5.rd P5 hXm).mono ?_
    rintro e w6 ⟨rfl, b6⟩
    have Z6 := bl_go Z5 b6
    have Q6 := Q5.belo b6
    have D6 := bl_go D5 b6
    have G6 := G5.belo b6
    have R6 := hr.belo Z6
    have X6 := X5.belo b6
    have Y6 := Y5.belo b6
    clear b6 Q5 P5 G5 Z5 D5 X5 Y5 u0 u1 u2
    go_wp2_with fail
    refine (toCellS_any _ _ _ _ R6 (by omega)).mono ?_
    rintro e w7 ⟨A7, rfl, o7, b7⟩
    have S7 := OwnC.rd o7
    have T7 : RdC w7 A4 ps := Q6.rd.belo b7
    have Q7 := Q6.belo b7
    have D7 := bl_go D6 b7
    have G7 := G6.belo b7
    have Z7 := bl_go Z6 b7
    have X7 := X6.belo b7
    have Y7 := Y6.belo b7
    clear o7 b7 Z6 Q6 D6 G6 R6 X6 Y6
    go_wp2_with fail
    refine (eqCellS_t _ _ _ _ _ _ T7 S7 hn).mono ?_
    rintro e w8 ⟨rfl, b8⟩
    have Q8 := Q7.belo b8
    have D8 := bl_go D7 b8
    have G8 := G7.belo b8
    have Z8 := bl_go Z7 b8
    have X8 := X7.belo b8
    have Y8 := Y7.belo b8
    clear b8 Z7 Q7 D7 G7 S7 T7 X7 Y7
    have hcl := cellsV_len ps
    go_wp2_with fail
    refine (markCellS_any _ _ _ _ _ _ _ Q8 hcl (by omega) (by omega) (by omega)).mono ?_
    rintro e w9 ⟨rfl, _, m9⟩
    have Z9 := marked_below Z8 m9 Q8 s3 Z8.size
    have D9 := marked_below D8 m9 Q8 (Nat.le_refl _) D8.size
    have P9 := Rd.marked P3 D8 m9 Q8 (Nat.le_refl _)
    have G9 := G8.elder m9 (fun ad h => by have := l4 ad h; omega)
    have X9 := X8.row m9 (by cases hA : A4 with
      | none => simp
      | some ad => have := Q8.1 ad hA; simp; omega)
    have Y9 := Y8.row m9 (by cases hA : A4 with
      | none => simp
      | some ad => have := l4 ad hA; simp; omega)
    clear Z8 G8 D8 Q8 m9 hcl X8 Y8
    obtain ⟨u0, u1, u2⟩ := id X9
    obtain ⟨v0, v1, v2⟩ := id Y9
    go_wp2_with fail
    refine (eqRegion_t _ _ _ _ _ _ V _ G9.rd P9 hXm).mono ?_
    rintro e w10 ⟨rfl, b10⟩
    have Z10 := bl_go Z9 b10
    have D10 := bl_go D9 b10
    have G10 := G9.belo b10
    have X10 := X9.belo b10
    have Y10 := Y9.belo b10
    clear Z9 D9 P9 G9 b10 X9 Y9 u0 u1 u2 v0 v1 v2
    obtain ⟨v0, v1, v2⟩ := id Y10
    go_wp2_with fail
    refine (markRegionV_any _ _ _ _ _ _ 1 _ _ G10 HVL.out (by omega) (by omega) (by omega)).mono ?_
    rintro e w11 ⟨rfl, G11, m11, m11z⟩
    have Z11 := marked_below Z10 m11 G10 (by omega) Z10.size
    have P11 := Rd.marked P3 D10 m11 G10 t4
    have X11 := X10.row m11 (by cases hA : A5 with
      | none => simp
      | some ad => have := G10.1 ad hA; simp; omega)
    have Y11 : C3 w11 x6 (.int .i64 W) (.int .i64 T) (.slice A5 V.length c5) := by
      by_cases hV : V = []
      · exact Y10.row (m11z (by rw [hV]; rfl)) (by simp)
      · exact Y10.row m11 (by cases hA : A5 with
          | none => simp
          | some ad => have := hA5 hV ad hA; simp; omega)
    clear Z10 D10 G10 m11 m11z X10 Y10 v0 v1 v2
    obtain ⟨v0, v1, v2⟩ := id Y11
    go_wp2_with fail
    refine (heldRegion_any _ _ _ _ _ 1 _ G11.rd (by omega) (by omega) (by omega)).mono ?_
    rintro e w11b ⟨rfl, b11⟩
    have Z11b := bl_go Z11 b11
    have P11b := P11.belo b11
    have G11b := G11.belo b11
    have R11 := hr.belo Z11b
    have X11b := X11.belo b11
    have Y11b := Y11.belo b11
    clear v0 v1 v2
    go_wp2_with fail
    refine (toCellS_any _ _ _ _ R11 (by omega)).mono ?_
    rintro e w12 ⟨A12, rfl, o12, b12⟩
    have B12 := bl_go Z11b b12
    have P12 := P11b.belo b12
    have G12 := G11b.rd.belo b12
    have X12 := X11b.belo b12
    have Y12 := Y11b.belo b12
    go_wp2_with fail
    refine (CI.out _ _ _ (OwnC.rd o12) (Nat.le_refl _)).mono ?_
    rintro e w13 ⟨A13, c13, rfl, G13, b13⟩
    have X130 := X12.belo b13
    obtain ⟨u0, u1, u2⟩ := id X130
    have hx413 := X130.lt
    clear X130
    have b13a := bl_alloc b13 (.cells #[.int .i64 W, .int .i64 T, .slice A13 V.length c13] 40)
    have B13 := bl_go B12 b13a
    have X13 := X12.belo b13a
    have Y13 := Y12.belo b13a
    have G13 := G13.rd.alloc (.cells #[.int .i64 W, .int .i64 T, .slice A13 V.length c13] 40)
    have P13 := P12.belo b13a
    have G13b := G12.belo b13a
    clear X12 Y12 P12 G12 b13a b13
    go_wp2_with fail
    generalize w13.heap.size = x10 at *
    generalize w13.alloc (.cells #[.int .i64 W, .int .i64 T, .slice A13 V.length c13] 40) = w13a at *
    refine (eqRegion_t _ _ _ _ _ _ V _ G13 P13 hXm).mono ?_
    rintro e w14 ⟨rfl, b14⟩
    have B14 := bl_go B13 b14
    have G14 := G13b.belo b14
    have Y14 := Y13.belo b14
    clear u0 u1 u2
    obtain ⟨v0, v1, v2⟩ := id Y14
    go_wp2_with fail
    refine (heldRegion_any _ _ _ _ _ 1 _ G14 (by omega) (by omega) (by omega)).mono ?_
    rintro e w15 ⟨rfl, b15⟩
    go_wp2
    go_ret
    exact ⟨rfl, bl_go B14 b15⟩
  · have hs1 : (1048576 : Int) < ps.length := by omega
    go_enter Try.func7, Try.ntmps7
    go_wp2_with fail
    refine (szCellS_f _ _ _ _ _ (by omega) hn hs1).mono ?_
    rintro e w1 ⟨rfl, rfl⟩
    go_wp2
    go_ret
    exact ⟨rfl, Below.refl _ _⟩
end Go.Proofs.Ytbplnjigoghboaa
