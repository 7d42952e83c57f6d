/- The walk of the law FnExactLackSet. -/
import Derived.Test.YtojlicpimkjegaaLackS
import Derived.Test.YtojlicpimkjegaaApp
namespace Go.Proofs.Ytojlicpimkjegaa
open Go.RowKit

set_option maxHeartbeats 4000000 in
theorem fnExactLackSet_walk {w0 : World} (W T : Int) (A : Option Addr) (c : Nat) (bs : List Bool) (_wW : (Lit.int .i64 W).wf = true) (_wT : (Lit.int .i64 T).wf = true) (hn : bs.length ≤ maxLen) (hr : Rd w0 A (bs.map .bool)) :
    Calls Try.prog 5 #[.agg #[.int .i64 W, .int .i64 T, .slice A bs.length c]] w0 fun e w' => e = .returned (.bool true) ∧ Below w0.heap.size w0 w' := by
  clear _wW _wT
  by_cases hs : bs.length ≤ 1048576
  · have hs1 : (bs.length : Int) ≤ 1048576 := by omega
    have hXl : (lackSetV W T bs).length ≤ 1000000000000 := Nat.le_trans (lackSetV_len W T bs) (by omega)
    obtain ⟨V, hV⟩ : ∃ V, lackSetV W T bs = V := ⟨_, rfl⟩
    have cS := fun (w : World) (A : Option Addr) (c : Nat) (R : Rd w A (bs.map .bool)) => sLackSet_any W T A c bs w R hn
    have cI := fun (w : World) (A : Option Addr) (c : Nat) (R : Rd w A (bs.map .bool)) => iLackSet_any W T A c bs w R hn
    rw [hV] at hXl
    simp only [hV] at cS cI
    clear hV
    have CS := Lib.hid cS
    have CI := Lib.hid cI
    clear cS cI
    have hXm : V.length ≤ maxLen := by unfold maxLen; omega
    have hne : ((1 : Int) + (V.length : Int) != 1 + (V.length : Int)) = false := by simp
    have Z0 := Below.refl (w0.heap.size + 1) (w0.alloc (.cells #[.int .i64 W, .int .i64 T, .slice A bs.length c] 24))
    have s0 : w0.heap.size + 1 ≤ (w0.alloc (.cells #[.int .i64 W, .int .i64 T, .slice A bs.length c] 24)).heap.size := by simp
    go_enter Try.func5, Try.ntmps5
    go_wp2_with fail
    refine (szRegion_t _ _ _ _ _ _ _ (by omega) hs1).mono ?_
    rintro e w1 ⟨rfl, b1⟩
    have Z1 := bx_go Z0 b1 s0
    have s1 := Nat.le_trans s0 b1.size
    clear Z0 s0 b1
    obtain ⟨B1, x0, x1, x2⟩ := bx Z1
    go_wp2_with fail
    refine (toRegion_any _ _ _ _ _ _ (hr.belo B1) (by omega)).mono ?_
    rintro e w2 ⟨A2, c2, rfl, o2, b2⟩
    have Z2 := bx_go Z1 b2 s1
    have s2 := Nat.le_trans s1 b2.size
    have S2 := Rd.own o2
    clear o2 b2 Z1 B1 x0 x1 x2
    go_wp2_with fail
    refine (CS.out _ _ _ S2).mono ?_
    rintro e w3 ⟨A3, c3, rfl, P3, b3, f3⟩
    have Z3 := bx_go Z2 b3 s2
    have s3 := Nat.le_trans s2 b3.size
    clear S2 b3 f3 Z2
    obtain ⟨B3, x0, x1, x2⟩ := bx Z3
    go_wp2_with fail
    refine (toRegion_any _ _ _ _ _ _ (hr.belo B3) (by omega)).mono ?_
    rintro e w4 ⟨A4, c4, rfl, o4, b4⟩
    have Z4 := bx_go Z3 b4 s3
    have s4 := Nat.le_trans s3 b4.size
    have Y4 := C3.new w4 (.int .i64 W) (.int .i64 T) (.slice A4 bs.length c4) 28
    have Q4 := Wr.of_own (own_base o4 (Nat.le_refl _))
    have l4 := own_lt o4
    have D4 := b4
    clear b4 o4 Z3 B3 x0 x1 x2
    go_wp2_with fail
    refine (CI.out _ _ _ (Q4.rd.alloc _)).mono ?_
    rintro e w5 ⟨A5, rfl, G5, b5⟩
    replace G5 := G5.lower (lo' := w4.heap.size) (by simp)
    have t4 : w3.heap.size ≤ w4.heap.size := D4.size
    have Z5 := (Z4.alloc s4 _).trans (b5.mono (by simp; omega))
    have s5 : w4.heap.size + 1 ≤ w5.heap.size := by have := b5.size; simpa using this
    have Y5 := Y4.belo b5
    have Q5 := (Q4.below (Below.refl _ _ |>.alloc (Nat.le_refl _) _) (Nat.le_refl _)).belo b5
    have D5 := bl_go (bl_alloc D4 _) b5
    have P5 := P3.belo D5
    clear b5 Y4 Q4 D4 Z4
    obtain ⟨y0, y1, y2⟩ := id Y5
    go_wp2_with fail
    refine (eqIntS_t _ _ _ _ V _ G5.rd P5 hXm).mono ?_
    rintro e w6 ⟨rfl, b6⟩
    have Z6 := bx_go Z5 b6 (by omega)
    have s6 := Nat.le_trans s5 b6.size
    have Y6 := Y5.belo b6
    have Q6 := Q5.belo b6
    have D6 := bl_go D5 b6
    have G6 := G5.belo b6
    clear b6 Y5 Q5 P5 G5 Z5 D5 y0 y1 y2
    obtain ⟨y0, y1, y2⟩ := id Y6
    obtain ⟨B6, X6⟩ := bx Z6
    obtain ⟨x0, x1, x2⟩ := id X6
    have R6 := hr.belo B6
    go_wp2_with fail
    go_region_held3 (fun w' => (w'.cell? ⟨w0.heap.size, 0, none⟩ = some (.int .i64 W) ∧ w'.cell? ⟨w0.heap.size, 1, none⟩ = some (.int .i64 T) ∧ w'.cell? ⟨w0.heap.size, 2, none⟩ = some (.slice A bs.length c)) ∧
        (w'.cell? ⟨w4.heap.size, 0, none⟩ = some (.int .i64 W) ∧ w'.cell? ⟨w4.heap.size, 1, none⟩ = some (.int .i64 T) ∧ w'.cell? ⟨w4.heap.size, 2, none⟩ = some (.slice A4 bs.length c4)))
      (first | exact ⟨X8, Y8⟩ | exact ⟨X7, Y7⟩ | exact ⟨X6, Y6⟩ | go_keep)
      (first
        | (go_at_call 17; refine (toRegion_any _ _ _ _ _ _ R6.drew (by omega)).mono ?_; rintro e w7 ⟨A7, c7, rfl, o7, b7⟩; have X7 := X6.drew.belo b7; have Y7 := Y6.drew.belo b7; have S7 := Rd.own o7; have T7 := Q6.rd.drew.belo b7)
        | (go_at_call 21; refine (eqRegion_t _ _ _ _ _ _ _ _ T7 S7 hn).mono ?_; rintro e w8 ⟨rfl, b8⟩; have X8 := X7.belo b8; have Y8 := Y7.belo b8; have b68 : Below w6.heap.size w6 w8 := bl_go (bl_go (Below.refl w6.heap.size w6).drew b7) b8))
    have Z8 := bx_go Z6 b68 (by omega)
    have s8 := Nat.le_trans s6 b68.size
    have Q8 := Q6.belo b68
    have D8 := bl_go D6 b68
    have G8 := G6.belo b68
    clear b7 b8 b68 X6 Y6 Q6 G6 D6 Z6 R6 x0 x1 x2 y0 y1 y2 X7 Y7 S7 T7 o7 X8
    obtain ⟨y0, y1, y2⟩ := Y8
    go_wp2_with fail
    refine (markRegion_any _ _ _ _ _ _ _ _ _ Q8 (by simp) (by omega) (by omega) (by omega)).mono ?_
    rintro e w9 ⟨rfl, m9⟩
    have Z9 := marked_below Z8 m9 Q8 s3 (by omega)
    have D9 := marked_below D8 m9 Q8 (Nat.le_refl _) D8.size
    have P9 := Rd.marked P3 D8 m9 Q8 (Nat.le_refl _)
    have G9 := G8.elder m9 (fun ad h => by have := l4 ad h; omega)
    have s9 := Nat.le_trans s8 m9.size
    clear Z8 G8 D8 Q8 m9 y0 y1 y2
    go_wp2_with fail
    refine (eqIntS_t _ _ _ _ V _ G9.rd P9 hXm).mono ?_
    rintro e w10 ⟨rfl, b10⟩
    have Z10 := bx_go Z9 b10 (by omega)
    have D10 := bl_go D9 b10
    have G10 := G9.belo b10
    have s10 := Nat.le_trans s9 b10.size
    clear Z9 D9 P9 G9 b10
    go_wp2_with fail
    refine (markIntS_any _ _ V 1 _ _ G10 (by omega) (by omega) (by omega)).mono ?_
    rintro e w11 ⟨rfl, G11, m11⟩
    have Z11 := marked_below Z10 m11 G10 (by omega) (by omega)
    have P11 := Rd.marked P3 D10 m11 G10 t4
    have s11 := Nat.le_trans s10 m11.size
    clear Z10 D10 G10 m11
    obtain ⟨B11, x0, x1, x2⟩ := bx Z11
    go_wp2_with fail
    refine (heldIntS_any _ _ _ 1 _ G11.rd (by omega) (by omega) (by omega)).mono ?_
    rintro e w' ⟨rfl, rfl⟩
    go_wp2_with fail
    refine (toRegion_any _ _ _ _ _ _ (hr.belo B11) (by omega)).mono ?_
    rintro e w12 ⟨A12, c12, rfl, o12, b12⟩
    have B12 := bl_go B11 b12
    have P12 := P11.belo b12
    have G12 := G11.rd.belo b12
    clear x0 x1 x2
    go_wp2_with fail
    refine (CI.out _ _ _ (Rd.own o12)).mono ?_
    rintro e w13 ⟨A13, rfl, G13, b13⟩
    have B13 := bl_go B12 b13
    go_wp2_with fail
    refine (eqIntS_t _ _ _ _ V _ G13.rd (P12.belo b13) hXm).mono ?_
    rintro e w14 ⟨rfl, b14⟩
    have B14 := bl_go B13 b14
    have G14 := (G12.belo b13).belo b14
    go_wp2_with fail
    refine (heldIntS_any _ _ _ 1 _ G14 (by omega) (by omega) (by omega)).mono ?_
    rintro e w' ⟨rfl, rfl⟩
    go_wp2
    go_ret
    exact ⟨rfl, B14⟩
  · have hs1 : (1048576 : Int) < bs.length := by omega
    go_enter Try.func5, Try.ntmps5
    go_wp2_with fail
    refine (szRegion_f _ _ _ _ _ _ _ (by omega) hn hs1).mono ?_
    rintro e w1 ⟨rfl, b1⟩
    have B1 := bl_go ((Below.refl w0.heap.size w0).alloc (Nat.le_refl _) _) b1
    go_wp2
    go_ret
    exact ⟨rfl, B1⟩
end Go.Proofs.Ytojlicpimkjegaa
