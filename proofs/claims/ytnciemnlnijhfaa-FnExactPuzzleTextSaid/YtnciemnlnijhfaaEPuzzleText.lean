/- The walk of the law FnExactPuzzleText. -/
import Derived.Test.YtnciemnlnijhfaaTextI
import Derived.Test.YtnciemnlnijhfaaEq
namespace Go.Proofs.Ytnciemnlnijhfaa
open Go.RowKit

set_option maxHeartbeats 2000000 in
theorem fnExactPuzzleText_walk {w0 : World} (W T : Int) (A : Option Addr) (c : Nat) (bs : List Bool) (_wW : (Lit.int .i64 W).wf = true) (_wT : (Lit.int .i64 T).wf = true) (hn : bs.length ≤ maxLen) (hr : Rd w0 A (bs.map .bool)) (A9 : Option Addr) (c9 : Nat) (ds : List Int) (hn9 : ds.length ≤ maxLen) (hr9 : Rd w0 A9 (ds.map (.int .i64))) (_w9 : ∀ n ∈ ds, (Lit.int .i64 n).wf = true) :
    Calls Try.prog 7 #[.agg #[.int .i64 W, .int .i64 T, .slice A bs.length c], .slice A9 ds.length c9] w0 fun e w' => e = .returned (.bool true) ∧ Below w0.heap.size w0 w' := by
  clear _wW _wT _w9
  have hn9' := hn9
  unfold maxLen at hn9'
  by_cases hs9 : ds.length ≤ 1048576
  · have hg : decide ((1048576 : Int) < (ds.length : Int)) = false := by simp; omega
    by_cases hs : bs.length ≤ 1048576
    · have hs1 : (bs.length : Int) ≤ 1048576 := by omega
      obtain ⟨s0, hS, hI⟩ := text_both W T bs ds hn hn9
      have HS := Lib.hid hS
      have HI := Lib.hid hI
      clear hS hI
      have hp1 : (s0.data.toList == s0.data.toList) = true := by simp
      have hp2 : (s0.toList == s0.toList) = true := by simp
      go_enter Try.func7, Try.ntmps7
      go_wp2_with fail
      have X0 := C3.new w0 (.int .i64 W) (.int .i64 T) (.slice A bs.length c) 52
      refine (szRegion_t _ _ _ _ _ _ _ (by omega) hs1).mono ?_
      rintro e w1 ⟨rfl, b1⟩
      have B1 := bl_go ((Below.refl w0.heap.size w0).alloc (Nat.le_refl _) _) b1
      have R1 := hr.belo B1
      have X1 := X0.belo b1
      obtain ⟨x0, x1, x2⟩ := id X1
      go_wp2_with fail
      refine (toRegion_any _ _ _ _ _ _ R1 (by omega)).mono ?_
      rintro e w2 ⟨A2, c2, rfl, o2, b2⟩
      have B2 := bl_go B1 b2
      have X2 := X1.belo b2
      have S2 := Rd.own o2
      have Q2 := hr9.belo B2
      clear o2 b1 X0
      go_wp2_with fail
      refine (toIntS_any _ _ ds _ Q2 (by omega)).mono ?_
      rintro e w25 ⟨A25, c25, rfl, o25, b25⟩
      have D2 := Rd.own o25
      replace S2 := S2.belo b25
      replace X2 := X2.belo b25
      replace B2 := bl_go B2 b25
      clear o25 b2 b25
      obtain ⟨x0, x1, x2⟩ := id X2
      go_wp2_with fail
      refine (HS.out _ _ _ _ _ S2 D2).mono ?_
      rintro e w3 ⟨rfl, b3⟩
      have B3 := bl_go B2 b3
      have X3 := X2.belo b3
      have R3 := hr.belo B3
      clear S2 b3 x0 x1 x2 X1 X2 R1 B1 B2
      obtain ⟨x0, x1, x2⟩ := id X3
      go_wp2_with fail
      refine (toRegion_any _ _ _ _ _ _ R3 (by omega)).mono ?_
      rintro e w4 ⟨A4, c4, rfl, o4, b4⟩
      have B4 := bl_go B3 b4
      have X4 := X3.belo b4
      have S4 := Rd.own o4
      have Y4 := C3.new w4 (.int .i64 W) (.int .i64 T) (.slice A4 bs.length c4) 25
      clear R3 o4 b4 B3 x0 x1 x2 X3
      have Q4 := hr9.belo (bl_alloc B4 (.cells #[.int .i64 W, .int .i64 T, .slice A4 bs.length c4] 25))
      go_wp2_with fail
      refine (toIntS_any _ _ ds _ Q4 (by omega)).mono ?_
      rintro e w45 ⟨A45, c45, rfl, o45, b45⟩
      have D45 := Rd.own o45
      replace X4 := (X4.alloc _).belo b45
      replace Y4 := Y4.belo b45
      replace S4 := (S4.alloc _).belo b45
      replace B4 := bl_go (bl_alloc B4 _) b45
      clear o45 b45 Q4
      obtain ⟨x0, x1, x2⟩ := id X4
      obtain ⟨y0, y1, y2⟩ := id Y4
      go_wp2_with fail
      refine (HI.out _ _ _ _ _ S4 D45).mono ?_
      rintro e w5 ⟨rfl, b5⟩
      have B5 := bl_go B4 b5
      have D5 := D45.belo b5
      have X5 := X4.belo b5
      have Y5 := Y4.belo b5
      have S5 := S4.belo b5
      have R5 := hr.belo B5
      clear S4 b5 B4 X4 Y4
      obtain ⟨x0, x1, x2⟩ := id X5
      obtain ⟨y0, y1, y2⟩ := id Y5
      go_wp2_with fail
      go_region_held3 (fun w' => (w'.cell? ⟨w0.heap.size, 0, none⟩ = some (.int .i64 W) ∧ w'.cell? ⟨w0.heap.size, 1, none⟩ = some (.int .i64 T) ∧ w'.cell? ⟨w0.heap.size, 2, none⟩ = some (.slice A bs.length c)) ∧
          (w'.cell? ⟨w4.heap.size, 0, none⟩ = some (.int .i64 W) ∧ w'.cell? ⟨w4.heap.size, 1, none⟩ = some (.int .i64 T) ∧ w'.cell? ⟨w4.heap.size, 2, none⟩ = some (.slice A4 bs.length c4)))
        (first | exact ⟨X7, Y7⟩ | exact ⟨X6, Y6⟩ | exact ⟨X5, Y5⟩ | go_keep)
        (first
          | (go_at_call 38; refine (toRegion_any _ _ _ _ _ _ R5.drew (by omega)).mono ?_; rintro e w6 ⟨A6, c6, rfl, o6, b6⟩; have X6 := X5.drew.belo b6; have Y6 := Y5.drew.belo b6; have S6 := Rd.own o6; have T6 := S5.drew.belo b6; have B6 := bl_go B5.drew b6)
          | (go_at_call 41; refine (eqRegion_t _ _ _ _ _ _ _ _ T6 S6 hn).mono ?_; rintro e w7 ⟨rfl, b7⟩; have X7 := X6.belo b7; have Y7 := Y6.belo b7; have B7 := bl_go B6 b7))
      have D7 := D5.belo (show Below w5.heap.size w5 w7 from bl_go (Below.refl _ _).drew (bl_go b6 b7))
      have Q7 := hr9.belo B7
      go_wp2_with fail
      refine (toIntS_any _ _ ds _ Q7 (by omega)).mono ?_
      rintro e w8 ⟨A8, c8, rfl, o8, b8⟩
      have D8 := Rd.own o8
      have B8 := bl_go B7 b8
      go_wp2_with fail
      refine (eqIntS_t _ _ _ _ ds _ (D7.belo b8) D8 hn9).mono ?_
      rintro e w9 ⟨rfl, b9⟩
      go_wp2
      go_ret
      exact ⟨rfl, bl_go B8 b9⟩
    · have hs1 : (1048576 : Int) < bs.length := by omega
      go_enter Try.func7, Try.ntmps7
      go_wp2_with fail
      refine (szRegion_f _ _ _ _ _ _ _ (by omega) hn hs1).mono ?_
      rintro e w1 ⟨rfl, b1⟩
      have B1 := bl_go ((Below.refl w0.heap.size w0).alloc (Nat.le_refl _) _) b1
      go_wp2
      go_ret
      exact ⟨rfl, B1⟩
  · have hg : decide ((1048576 : Int) < (ds.length : Int)) = true := by simp; omega
    go_enter Try.func7, Try.ntmps7
    go_wp2
    go_ret
    exact ⟨rfl, bl_alloc (Below.refl _ _) _⟩
end Go.Proofs.Ytnciemnlnijhfaa
