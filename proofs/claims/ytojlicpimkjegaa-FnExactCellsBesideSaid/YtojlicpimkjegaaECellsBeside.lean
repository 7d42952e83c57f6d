/- The walk of the law FnExactCellsBeside. -/
import Derived.Test.YtojlicpimkjegaaBesideE
namespace Go.Proofs.Ytojlicpimkjegaa
open Go.RowKit

set_option maxRecDepth 100000 in
set_option maxHeartbeats 4000000 in
theorem fnExactCellsBeside_walk {w0 : World} (W T : Int) (A : Option Addr) (c : Nat) (bs : List Bool) (_wW : (Lit.int .i64 W).wf = true) (_wT : (Lit.int .i64 T).wf = true) (hn : bs.length ≤ maxLen) (hr : Rd w0 A (bs.map .bool)) (D : Option Addr) (d : Nat) (cells : List Int) (hm : cells.length ≤ maxLen) (hd : Rd w0 D (cells.map (.int .i64))) (_wc : ∀ n ∈ cells, (Lit.int .i64 n).wf = true) :
    Calls Try.prog 3 #[.agg #[.int .i64 W, .int .i64 T, .slice A bs.length c], .slice D cells.length d] w0 fun e w' => e = .returned (.bool true) ∧ Below w0.heap.size w0 w' := by
  clear _wW _wT _wc
  have hm' := hm
  unfold maxLen at hm'
  by_cases hcs : cells.length ≤ 1048576
  · have hcg : decide ((1048576 : Int) < (cells.length : Int)) = false := by simp; omega
    by_cases hs : bs.length ≤ 1048576
    · have hs1 : (bs.length : Int) ≤ 1048576 := by omega
      have hXl : (besV W T bs cells).length ≤ 1000000000000 := besV_len W T bs cells (by omega)
      obtain ⟨V, hV⟩ : ∃ V, besV W T bs cells = V := ⟨_, rfl⟩
      have cS := fun (w : World) (A A2 : Option Addr) (c c2 : Nat) (R : Rd w A (bs.map .bool)) (R2 : Rd w A2 (cells.map (.int .i64))) => sCellsBeside_any W T A A2 c c2 bs cells w R R2 hn (by omega)
      have cI := fun (w : World) (A A2 : Option Addr) (c c2 : Nat) (R : Rd w A (bs.map .bool)) (R2 : Rd w A2 (cells.map (.int .i64))) => iCellsBeside_any W T A A2 c c2 bs cells w R R2 hn (by omega)
      rw [hV] at hXl
      simp only [hV] at cS cI
      clear hV
      have CS := Lib.hid cS
      have CI := Lib.hid cI
      clear cS cI
      have hXm : V.length ≤ maxLen := by unfold maxLen; omega
      have hne : ((1 : Int) + (V.length : Int) != 1 + (V.length : Int)) = false := by simp
      have Z0 := Below.refl (w0.heap.size + 1) (w0.alloc (.cells #[.int .i64 W, .int .i64 T, .slice A bs.length c] 24))
      have s0 : w0.heap.size + 1 ≤ (w0.alloc (.cells #[.int .i64 W, .int .i64 T, .slice A bs.length c] 24)).heap.size := by simp
      go_enter Try.func3, Try.ntmps3
      go_wp2_with fail
      refine (szRegion_t _ _ _ _ _ _ _ (by omega) hs1).mono ?_
      rintro e w1 ⟨rfl, b1⟩
      have Z1 := bx_go Z0 b1 s0
      have s1 := Nat.le_trans s0 b1.size
      clear Z0 s0 b1
      obtain ⟨B1, x0, x1, x2⟩ := bx Z1
      go_wp2_with fail
      refine (toRegion_any _ _ _ _ _ _ (hr.belo B1) (by omega)).mono ?_
      rintro e w2 ⟨A2, c2, rfl, o2, b2⟩
      have Z2 := bx_go Z1 b2 s1
      have s2 := Nat.le_trans s1 b2.size
      have S2 := Rd.own o2
      clear o2 b2 Z1 B1 x0 x1 x2
      obtain ⟨B2, x0, x1, x2⟩ := bx Z2
      go_wp2_with fail
      refine (toIntS_any _ _ cells _ (hd.belo B2) (by omega)).mono ?_
      rintro e w2b ⟨D2, d2, rfl, p2, b2⟩
      have Z2 := bx_go Z2 b2 s2
      have s2 := Nat.le_trans s2 b2.size
      have S2 := S2.belo b2
      have T2 := Rd.own p2
      clear p2 b2 B2 x0 x1 x2
      go_wp2_with fail
      refine (CS.out _ _ _ _ _ S2 T2).mono ?_
      rintro e w3 ⟨A3, c3, rfl, P3, b3, f3⟩
      have Z3 := bx_go Z2 b3 s2
      have s3 := Nat.le_trans s2 b3.size
      clear S2 T2 b3 f3 Z2
      obtain ⟨B3, x0, x1, x2⟩ := bx Z3
      go_wp2_with fail
      refine (toRegion_any _ _ _ _ _ _ (hr.belo B3) (by omega)).mono ?_
      rintro e w4 ⟨A4, c4, rfl, o4, b4⟩
      have Z4 := bx_go Z3 b4 s3
      have s4 := Nat.le_trans s3 b4.size
      have Y4 := C3.new w4 (.int .i64 W) (.int .i64 T) (.slice A4 bs.length c4) 28
      have Q4 := Wr.of_own (own_base o4 (Nat.le_refl _))
      have l4 := own_lt o4
      have D4 := b4
      have t34 : w3.heap.size ≤ w4.heap.size := D4.size
      clear b4 o4 Z3 B3 x0 x1 x2
      have Z4 := Z4.alloc s4 (.cells #[.int .i64 W, .int .i64 T, .slice A4 bs.length c4] 28)
      have Q4 := Q4.belo (bl_alloc (Below.refl _ _) (.cells #[.int .i64 W, .int .i64 T, .slice A4 bs.length c4] 28))
      have D4 := bl_alloc D4 (.cells #[.int .i64 W, .int .i64 T, .slice A4 bs.length c4] 28)
      have t4 : w4.heap.size + 1 ≤ (w4.alloc (.cells #[.int .i64 W, .int .i64 T, .slice A4 bs.length c4] 28)).heap.size := by simp
      go_wp2_with fail
      generalize w4.alloc (.cells #[.int .i64 W, .int .i64 T, .slice A4 bs.length c4] 28) = v4 at *
      have s4' : w0.heap.size + 1 ≤ v4.heap.size := by omega
      obtain ⟨B4, x0, x1, x2⟩ := bx Z4
      refine (toIntS_any _ _ cells _ (hd.belo B4) (by omega)).mono ?_
      rintro e w5 ⟨D5, d5, rfl, p5, b5⟩
      have U5 := Wr.of_own (own_base p5 (Nat.le_refl _))
      have l5 := own_lt p5
      have Z5 := bx_go Z4 b5 s4'
      have s5 := Nat.le_trans s4' b5.size
      have s45 : v4.heap.size ≤ w5.heap.size := b5.size
      have Y5 := Y4.belo b5
      have Q5 := Q4.belo b5
      have E5 := bl_go D4 b5
      clear p5 b5 Z4 Y4 Q4 D4 B4 x0 x1 x2
      obtain ⟨y0, y1, y2⟩ := id Y5
      go_wp2_with fail
      refine (CI.out _ _ _ _ _ Q5.rd U5.rd).mono ?_
      rintro e w6 ⟨A6, rfl, G6, b6⟩
      have Z6 := bx_go Z5 b6 s5
      have s6 := Nat.le_trans s5 b6.size
      have Y6 := Y5.belo b6
      have Q6 := Q5.belo b6
      have U6 := U5.belo b6
      have E6 := bl_go E5 b6
      have P6 := P3.belo E6
      clear b6 Y5 Q5 U5 E5 Z5 y0 y1 y2
      go_wp2_with fail
      refine (eqIntS_t _ _ _ _ V _ G6.rd P6 hXm).mono ?_
      rintro e w7 ⟨rfl, b7⟩
      have Z7 := bx_go Z6 b7 s6
      have s7 := Nat.le_trans s6 b7.size
      have Y7 := Y6.belo b7
      have Q7 := Q6.belo b7
      have U7 := U6.belo b7
      have E7 := bl_go E6 b7
      have G7 := G6.belo b7
      clear b7 Y6 Q6 U6 P6 G6 Z6 E6
      obtain ⟨y0, y1, y2⟩ := id Y7
      obtain ⟨B7, X7⟩ := bx Z7
      obtain ⟨x0, x1, x2⟩ := id X7
      have R7 := hr.belo B7
      go_wp2_with fail
      go_region_held3 (fun w' => (w'.cell? ⟨w0.heap.size, 0, none⟩ = some (.int .i64 W) ∧ w'.cell? ⟨w0.heap.size, 1, none⟩ = some (.int .i64 T) ∧ w'.cell? ⟨w0.heap.size, 2, none⟩ = some (.slice A bs.length c)) ∧
          (w'.cell? ⟨w4.heap.size, 0, none⟩ = some (.int .i64 W) ∧ w'.cell? ⟨w4.heap.size, 1, none⟩ = some (.int .i64 T) ∧ w'.cell? ⟨w4.heap.size, 2, none⟩ = some (.slice A4 bs.length c4)))
        (first | exact ⟨X9, Y9⟩ | exact ⟨X8, Y8⟩ | exact ⟨X7, Y7⟩ | go_keep)
        (first
          | (go_at_call 17; refine (toRegion_any _ _ _ _ _ _ R7.drew (by omega)).mono ?_; rintro e w8 ⟨A8, c8, rfl, o8, b8⟩; have X8 := X7.drew.belo b8; have Y8 := Y7.drew.belo b8; have S8 := Rd.own o8; have T8 := Q7.rd.drew.belo b8)
          | (go_at_call 21; refine (eqRegion_t _ _ _ _ _ _ _ _ T8 S8 hn).mono ?_; rintro e w9 ⟨rfl, b9⟩; have X9 := X8.belo b9; have Y9 := Y8.belo b9; have b79 : Below w7.heap.size w7 w9 := bl_go (bl_go (Below.refl w7.heap.size w7).drew b8) b9))
      have Z9 := bx_go Z7 b79 s7
      have s9 := Nat.le_trans s7 b79.size
      have Q9 := Q7.belo b79
      have U9 := U7.belo b79
      have E9 := bl_go E7 b79
      have G9 := G7.belo b79
      clear b8 b9 b79 X7 Y7 Q7 U7 G7 E7 Z7 R7 x0 x1 x2 y0 y1 y2 X8 Y8 S8 T8 o8 X9 B7
      obtain ⟨B9, x0, x1, x2⟩ := bx Z9
      go_wp2_with fail
      refine (toIntS_any _ _ cells _ (hd.belo B9) (by omega)).mono ?_
      rintro e w10 ⟨D10, d10, rfl, p10, b10⟩
      have V10 := Rd.own p10
      have Z10 := bx_go Z9 b10 s9
      have s10 := Nat.le_trans s9 b10.size
      have Y10 := Y9.belo b10
      have Q10 := Q9.belo b10
      have U10 := U9.belo b10
      have E10 := bl_go E9 b10
      have G10 := G9.belo b10
      clear p10 b10 Z9 Y9 Q9 U9 E9 G9 B9 x0 x1 x2
      go_wp2_with fail
      refine (eqIntS_t _ _ _ _ cells _ U10.rd V10 hm).mono ?_
      rintro e w11 ⟨rfl, b11⟩
      have Z11 := bx_go Z10 b11 s10
      have s11 := Nat.le_trans s10 b11.size
      have Y11 := Y10.belo b11
      have Q11 := Q10.belo b11
      have U11 := U10.belo b11
      have E11 := bl_go E10 b11
      have G11 := G10.belo b11
      clear b11 Z10 Y10 Q10 U10 E10 G10 V10
      obtain ⟨y0, y1, y2⟩ := Y11
      go_wp2_with fail
      refine (markRegion_any _ _ _ _ _ _ _ _ _ Q11 (by simp) (by omega) (by omega) (by omega)).mono ?_
      rintro e w12 ⟨rfl, m12⟩
      have Z12 := marked_below Z11 m12 Q11 s3 (by omega)
      have E12 := marked_below E11 m12 Q11 (Nat.le_refl _) E11.size
      have G12 := G11.elder m12 (fun ad h => by have := l4 ad h; omega)
      have U12 := U11.elder m12 (fun ad h => by have := l4 ad h; omega)
      have s12 := Nat.le_trans s11 m12.size
      clear Z11 G11 E11 Q11 U11 m12 y0 y1 y2
      go_wp2_with fail
      refine (markIntS_any _ _ cells _ _ _ U12 (by omega) (by omega) (by omega)).mono ?_
      rintro e w13 ⟨rfl, _, m13⟩
      have Z13 := marked_below Z12 m13 U12 s4' (by omega)
      have E13 := marked_below E12 m13 U12 (by omega) E12.size
      have P13 := Rd.marked P3 E12 m13 U12 (by omega)
      have G13 := G12.elder m13 (fun ad h => l5 ad h)
      have s13 := Nat.le_trans s12 m13.size
      clear Z12 G12 E12 U12 m13
      go_wp2_with fail
      refine (eqIntS_t _ _ _ _ V _ G13.rd P13 hXm).mono ?_
      rintro e w14 ⟨rfl, b14⟩
      have Z14 := bx_go Z13 b14 (by omega)
      have E14 := bl_go E13 b14
      have G14 := G13.belo b14
      have s14 := Nat.le_trans s13 b14.size
      clear Z13 E13 P13 G13 b14
      go_wp2_with fail
      refine (markIntS_any _ _ V 1 _ _ G14 (by omega) (by omega) (by omega)).mono ?_
      rintro e w15 ⟨rfl, G15, m15⟩
      have Z15 := marked_below Z14 m15 G14 (by omega) (by omega)
      have P15 := Rd.marked P3 E14 m15 G14 (by omega)
      have s15 := Nat.le_trans s14 m15.size
      clear Z14 E14 G14 m15
      obtain ⟨B15, x0, x1, x2⟩ := bx Z15
      go_wp2_with fail
      refine (heldIntS_any _ _ _ 1 _ G15.rd (by omega) (by omega) (by omega)).mono ?_
      rintro e w' ⟨rfl, rfl⟩
      go_wp2_with fail
      refine (toRegion_any _ _ _ _ _ _ (hr.belo B15) (by omega)).mono ?_
      rintro e w16 ⟨A16, c16, rfl, o16, b16⟩
      have B16 := bl_go B15 b16
      have P16 := P15.belo b16
      have G16 := G15.rd.belo b16
      clear x0 x1 x2
      go_wp2_with fail
      refine (toIntS_any _ _ cells _ (hd.belo B16) (by omega)).mono ?_
      rintro e w17 ⟨D17, d17, rfl, p17, b17⟩
      have B17 := bl_go B16 b17
      have P17 := P16.belo b17
      have G17 := G16.belo b17
      go_wp2_with fail
      refine (CI.out _ _ _ _ _ ((Rd.own o16).belo b17) (Rd.own p17)).mono ?_
      rintro e w18 ⟨A18, rfl, G18, b18⟩
      have B18 := bl_go B17 b18
      go_wp2_with fail
      refine (eqIntS_t _ _ _ _ V _ G18.rd (P17.belo b18) hXm).mono ?_
      rintro e w19 ⟨rfl, b19⟩
      have B19 := bl_go B18 b19
      have G19 := (G17.belo b18).belo b19
      go_wp2_with fail
      refine (heldIntS_any _ _ _ 1 _ G19 (by omega) (by omega) (by omega)).mono ?_
      rintro e w' ⟨rfl, rfl⟩
      go_wp2
      go_ret
      exact ⟨rfl, B19⟩
    · have hs1 : (1048576 : Int) < bs.length := by omega
      go_enter Try.func3, Try.ntmps3
      go_wp2_with fail
      refine (szRegion_f _ _ _ _ _ _ _ (by omega) hn hs1).mono ?_
      rintro e w1 ⟨rfl, b1⟩
      have B1 := bl_go ((Below.refl w0.heap.size w0).alloc (Nat.le_refl _) _) b1
      go_wp2
      go_ret
      exact ⟨rfl, B1⟩
  · have hcg : decide ((1048576 : Int) < (cells.length : Int)) = true := by simp; omega
    go_enter Try.func3, Try.ntmps3
    go_wp2
    go_ret
    exact ⟨rfl, (Below.refl w0.heap.size w0).alloc (Nat.le_refl _) _⟩
end Go.Proofs.Ytojlicpimkjegaa
