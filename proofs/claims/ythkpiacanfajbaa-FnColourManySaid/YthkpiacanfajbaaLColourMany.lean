/- The walk of the law FnColourMany. -/
import Derived.Test.YthkpiacanfajbaaDrawCol
import Derived.Test.YthkpiacanfajbaaDarkMany
import Derived.Test.YthkpiacanfajbaaColSum
import Derived.Test.YthkpiacanfajbaaAlive
namespace Go.Proofs.Ythkpiacanfajbaa
open Go.RowKit

theorem colSum_144 (W nu : Int) (bs : List Bool) (k : Nat) (hk : k ≤ 4) (hn : bs.length ≤ 36) : 0 ≤ colSum W nu bs bs.length k ∧ colSum W nu bs bs.length k ≤ 144 := by
  have h := colSum_bd W nu bs bs.length k
  rcases (show k = 0 ∨ k = 1 ∨ k = 2 ∨ k = 3 ∨ k = 4 from by omega) with rfl | rfl | rfl | rfl | rfl <;> omega
set_option maxRecDepth 100000 in
set_option maxHeartbeats 2000000 in
theorem fnColourMany_walk {w0 : World} (A : Option Addr) (c : Nat) (bs : List Int) (hcap : bs.length ≤ c) (hm : bs.length ≤ maxLen) (hr : Rd w0 A (bs.map (.int .u8))) (hw : ∀ n ∈ bs, 0 ≤ n ∧ n ≤ 255) :
    Calls Try.prog 7 #[.slice A bs.length c] w0 fun e w' => e = .returned (.bool true) ∧ Below w0.heap.size w0 w' := by
  have HW := Lib.hid hw
  clear hw
  unfold maxLen at hm
  by_cases hn : bs.length ≤ 1048576
  · have hg : decide ((1048576 : Int) < (bs.length : Int)) = false := by simp; omega
    go_enter Try.func7, Try.ntmps7
    go_wp2_with fail
    refine (drawColourMany_any A c bs _ hr HW.out hn hcap).mono ?_
    rintro e w1 ⟨W, T, xs, B, k, n, re, rfl, R1, hl1, ⟨n1, n2, r1, r2⟩, B1⟩
    clear hg hn hm hr HW hcap
    have hmx : xs.length ≤ maxLen := by unfold maxLen; omega
    have CI := Lib.hid (fun (z : World) (nu re : Int) (R : Rd z B (xs.map .bool)) => iColourMany_any W T nu re B k xs z R hmx)
    have CS := Lib.hid (fun (z : World) (nu re : Int) (R : Rd z B (xs.map .bool)) => sColourMany_any W T nu re B k xs z R hmx)
    have CM := Lib.hid (fun (z : World) (R : Rd z B (xs.map .bool)) => iCellsMany_any W T B k xs z R hmx)
    have CD := Lib.hid (fun (z : World) (R : Rd z B (xs.map .bool)) => iDarkMany_any W T B k xs z R hmx)
    have R2 := R1.alloc (.cells #[.int .i64 W, .int .i64 T, .slice B xs.length k] 31)
    have B2 := bl_alloc B1 (.cells #[.int .i64 W, .int .i64 T, .slice B xs.length k] 31)
    have X2 := C3.new w1 (.int .i64 W) (.int .i64 T) (.slice B xs.length k) 31
    clear R1 B1
    go_wp2_with fail
    generalize w1.alloc (.cells #[.int .i64 W, .int .i64 T, .slice B xs.length k] 31) = w2 at *
    generalize w1.heap.size = bx at *
    refine (CI.out _ _ _ R2).mono ?_
    rintro e w3 ⟨rfl, b3⟩
    have R3 := R2.belo b3
    have B3 := bl_go B2 b3
    have X3 := X2.belo b3
    clear R2 B2 X2 b3
    obtain ⟨x0, x1, x2⟩ := id X3
    go_wp2_with fail
    refine (CS.out _ _ _ R3).mono ?_
    rintro e w4 ⟨rfl, b4⟩
    have R4 := R3.belo b4
    have B4 := bl_go B3 b4
    have X4 := X3.belo b4
    clear R3 B3 X3 b4 x0 x1 x2
    by_cases hok : validB W T xs = true ∧ 1 ≤ n ∧ n ≤ 4 ∧ 0 ≤ re ∧ re ≤ n - 1
    · obtain ⟨hv, h1, h2, h3, h4⟩ := hok
      obtain ⟨v1, v2, v3, v4, v5, -⟩ := valid_len hv
      have hV : colourOf W T xs n re = cntTo (inCol W n re xs) xs.length := by unfold colourOf; rw [if_pos ⟨hv, h1, h2, h3, h4⟩]
      have hb := cntTo_bd (inCol W n re xs) xs.length
      rw [hV]
      generalize cntTo (inCol W n re xs) xs.length = V at hb ⊢
      clear hV
      have hne : (V != V) = false := by simp
      obtain ⟨m, rfl⟩ := Int.eq_ofNat_of_zero_le (show 0 ≤ n by omega)
      have HC := Lib.hid (fun (j : Nat) (hj : (j : Int) < (m : Int)) => show colourOf W T xs m j = cntTo (inCol W m j xs) xs.length by unfold colourOf; rw [if_pos ⟨hv, h1, h2, by omega, by omega⟩])
      have HS := Lib.hid (colSum_cells W m xs m rfl h1)
      have HM := Lib.hid (show cellsMany W T xs = cnt xs by unfold cellsMany; rw [if_pos hv])
      have HD := Lib.hid (show darkN W T xs = colourOf W T xs 2 0 by unfold darkN colourOf; rw [if_pos hv, if_pos ⟨hv, by omega, by omega, by omega, by omega⟩])
      clear hv
      obtain ⟨wo, hwo⟩ : ∃ wo : World, wo = w4 := ⟨_, rfl⟩
      subst hwo
      go_wp2_with fail
      go_loopw [7, 8] (fun s i wr => ∃ j : Nat, j ≤ m ∧ i = .int .i64 j ∧ s = .int .i64 (colSum W m xs xs.length j) ∧ Rd wr B (xs.map .bool) ∧ Below w0.heap.size w0 wr ∧ C3 wr bx (.int .i64 W) (.int .i64 T) (.slice B xs.length k)) (fun _ i _ => m - (intOf i).toNat)
      case atStart => exact ⟨0, Nat.zero_le _, rfl, rfl, R4, B4, X4⟩
      case round =>
        clear R4 B4 X4
        obtain ⟨j, hj, rfl, rfl, R4, B4, X4⟩ := hrel
        obtain ⟨x0, x1, x2⟩ := id X4
        have hsb := colSum_144 W m xs j (by omega) v5
        by_cases hlt : j < m
        · have HJ := Lib.hid (HC.out j (by omega))
          have hcb := cntTo_bd (inCol W m j xs) xs.length
          have HN : Hid (colSum W m xs xs.length (j + 1) = colSum W m xs xs.length j + cntTo (inCol W m j xs) xs.length) := rfl
          generalize cntTo (inCol W m j xs) xs.length = cj at hcb HJ HN
          go_wp2_with fail
          refine (CI.out _ _ _ R4).mono ?_
          rintro e w5 ⟨rfl, b5⟩
          rw [HJ.out]
          go_wp2_with fail
          go_roundw
          case rel => exact ⟨j + 1, by omega, by go_num, by rw [HN.out], R4.belo b5, bl_go B4 b5, X4.belo b5⟩
          case measure => simp [intOf]; omega
        · obtain rfl : j = m := by omega
          rw [HS.out] at hsb ⊢
          have hcc : (cnt xs == cnt xs) = true := by simp
          have hbx := X4.lt
          have L0 : ∀ z : BW wr, z.wo.cell? ⟨bx, 0, none⟩ = some (.int .i64 W) := fun z => z.cell hbx x0
          have L1 : ∀ z : BW wr, z.wo.cell? ⟨bx, 1, none⟩ = some (.int .i64 T) := fun z => z.cell hbx x1
          have L2 : ∀ z : BW wr, z.wo.cell? ⟨bx, 2, none⟩ = some (.slice B xs.length k) := fun z => z.cell hbx x2
          have hpp : (colourOf W T xs 2 0 == colourOf W T xs 2 0) = true := by simp
          go_wp2_with fail
          (refine region_bw (by kernel_rfl) (by kernel_rfl) ?_; (repeat (first | go_big_quiet_skip | (go_big_quiet_want; go_big_quiet_op; first | go_big_quiet_on | (refine ⟨.int .i64 (cnt xs), fun zz => ?_, ?_⟩; (go_at_call 35; with_reducible exact zz.on' (CM.out _ (R4.belo zz.ok)) (congrArg (Value.int .i64) HM.out)); go_big_quiet_on) | (refine ⟨.int .i64 (colourOf W T xs 2 0), fun zz => ?_, ?_⟩; (go_at_call 33; with_reducible exact zz.on (CI.out _ 2 0 (R4.belo zz.ok))); go_big_quiet_on) | (refine ⟨.int .i64 (colourOf W T xs 2 0), fun zz => ?_, ?_⟩; (go_at_call 36; with_reducible exact zz.on' (CD.out _ (R4.belo zz.ok)) (congrArg (Value.int .i64) HD.out)); go_big_quiet_on)))); refine wpQuiet_nil ?_; intro wz hw'; obtain ⟨zw, hw''⟩ := hw'; subst hw'')
          go_wp2
          go_ret
          exact ⟨rfl, bl_go B4 zw.ok⟩
    · have hV : colourOf W T xs n re = -1 := by unfold colourOf; rw [if_neg hok]
      rw [hV]
      have hne : ((-1 : Int) != -1) = false := by simp
      clear hok hV
      go_wp2_with fail
      go_wp2_with (go_at_call 15; refine (alive_any _).mono ?_; rintro e w5 ⟨rfl, b5⟩)
      go_ret
      exact ⟨rfl, bl_go B4 b5⟩
  · have hg : decide ((1048576 : Int) < (bs.length : Int)) = true := by simp; omega
    go_enter Try.func7, Try.ntmps7
    go_wp2
    go_ret
    exact ⟨rfl, Below.refl _ _⟩
end Go.Proofs.Ythkpiacanfajbaa
