/- The walk of the law FnColoursEven. -/
import Derived.Test.YthkpiacanfajbaaDrawCol
import Derived.Test.YthkpiacanfajbaaBarsC
import Derived.Test.YthkpiacanfajbaaBarsI2
import Derived.Test.YthkpiacanfajbaaEven
import Derived.Test.YthkpiacanfajbaaAlive
namespace Go.Proofs.Ythkpiacanfajbaa
open Go.RowKit

theorem even_col {W T : Int} {bs : List Bool} {nu : Nat} (h : evenB W T bs nu = true) : validB W T bs = true ∧ 1 ≤ nu ∧ nu ≤ 4 ∧ ∀ r : Nat, r < nu → colN W nu r bs = colN W nu 0 bs := by
  unfold evenB at h
  rw [Bool.and_eq_true, Bool.and_eq_true] at h
  obtain ⟨hv, hn, hall⟩ := h
  unfold inB at hn
  simp at hn
  refine ⟨hv, by omega, by omega, fun r hr => ?_⟩
  rw [List.all_eq_true] at hall
  have := hall r (by rw [List.mem_range]; simpa using hr)
  rw [beq_iff_eq, colourOf_in hv (by omega) (by omega) (by omega) (by omega), colourOf_in hv (by omega) (by omega) (by omega) (by omega)] at this
  exact this
/-- what the law says, plainly -/
theorem even_law (W T : Int) (bs : List Bool) (n : Int) : (decide (barsOf W T bs n < 1) || evenB W T bs n) = true ∧ (evenB W T bs n = true → 1 ≤ n ∧ n ≤ 4 ∧ (cellsMany W T bs).tmod n = 0) := by
  constructor
  · cases he : evenB W T bs n with
    | true => simp
    | false =>
      rw [Bool.or_false]
      refine decide_eq_true ?_
      by_cases hok : validB W T bs = true ∧ 1 ≤ n ∧ n ≤ 4
      · obtain ⟨hv, n1, n2⟩ := hok
        obtain ⟨h1, h2, h3, h4, h5, -⟩ := valid_len hv
        have hcnt : cnt bs ≤ 24 := (validB_iff.1 hv).2.2.2
        obtain ⟨m, rfl⟩ := Int.eq_ofNat_of_zero_le (show 0 ≤ n by omega)
        rw [barsOf_ok hv n1 n2, Int.toNat_natCast]
        refine Classical.byContradiction fun hb => ?_
        have hcol := bars_col (W := W) (T := T) (long := m) h1 h2 (by omega) (by omega) 24 bs (by simpa using hcnt) (by omega)
        have ht : evenB W T bs m = true := by
          unfold evenB
          rw [hv, inB_t n1 n2]
          simp only [Bool.true_and, List.all_eq_true, List.mem_range, beq_iff_eq, Int.toNat_natCast]
          intro r hr
          rw [colourOf_in hv n1 n2 (by omega) (by omega), colourOf_in hv n1 n2 (by omega) (by omega)]
          exact hcol r (by omega) (by omega)
        rw [ht] at he; cases he
      · rw [barsOf_no hok]; omega
  · intro he
    by_cases hn : 1 ≤ n ∧ n ≤ 4
    · obtain ⟨n1, n2⟩ := hn
      obtain ⟨m, rfl⟩ := Int.eq_ofNat_of_zero_le (show 0 ≤ n by omega)
      obtain ⟨hv, m1, m2, hc⟩ := even_col he
      refine ⟨n1, n2, ?_⟩
      unfold cellsMany
      rw [if_pos hv, Int.tmod_eq_emod_of_nonneg (cnt_le bs).1]
      exact col_div m1 hc
    · rw [evenB_n (by omega)] at he; cases he
set_option maxRecDepth 100000 in
set_option maxHeartbeats 2000000 in
theorem fnColoursEven_walk {w0 : World} (A : Option Addr) (c : Nat) (bs : List Int) (hcap : bs.length ≤ c) (hm : bs.length ≤ maxLen) (hr : Rd w0 A (bs.map (.int .u8))) (hw : ∀ n ∈ bs, 0 ≤ n ∧ n ≤ 255) :
    Calls Try.prog 9 #[.slice A bs.length c] w0 fun e w' => e = .returned (.bool true) ∧ Below w0.heap.size w0 w' := by
  have HW := Lib.hid hw
  clear hw
  unfold maxLen at hm
  by_cases hn : bs.length ≤ 1048576
  · have hg : decide ((1048576 : Int) < (bs.length : Int)) = false := by simp; omega
    go_enter Try.func9, Try.ntmps9
    go_wp2_with fail
    refine (drawColoursEven_any A c bs _ hr HW.out hn hcap).mono ?_
    rintro e w1 ⟨W, T, xs, B, k, n, rfl, R1, hl1, ⟨n1, n2⟩, B1⟩
    clear hg hn hm hr HW hcap
    have hmx : xs.length ≤ maxLen := by unfold maxLen; omega
    have CI := Lib.hid (fun (z : World) (R : Rd z B (xs.map .bool)) => iColoursEven_any W T n B k xs z R hmx)
    have CS := Lib.hid (fun (z : World) (R : Rd z B (xs.map .bool)) => sColoursEven_any W T n B k xs z R hmx)
    have CM := Lib.hid (fun (z : World) (R : Rd z B (xs.map .bool)) => iCellsMany_any W T B k xs z R hmx)
    have CB := Lib.hid (fun (z : World) (R : Rd z B (xs.map .bool)) => iBarsMany_any W T n B k xs z R hmx)
    obtain ⟨e1, e2⟩ := even_law W T xs n
    have hcm : -1 ≤ cellsMany W T xs ∧ cellsMany W T xs ≤ 37 := by
      have := cnt_le xs
      unfold cellsMany
      split <;> omega
    have R2 := R1.alloc (.cells #[.int .i64 W, .int .i64 T, .slice B xs.length k] 31)
    have B2 := bl_alloc B1 (.cells #[.int .i64 W, .int .i64 T, .slice B xs.length k] 31)
    have X2 := C3.new w1 (.int .i64 W) (.int .i64 T) (.slice B xs.length k) 31
    clear R1 B1
    go_wp2_with fail
    generalize w1.alloc (.cells #[.int .i64 W, .int .i64 T, .slice B xs.length k] 31) = w2 at *
    generalize w1.heap.size = bx at *
    generalize evenB W T xs n = ev at *
    generalize barsOf W T xs n = bm at *
    generalize cellsMany W T xs = cm at *
    refine (CI.out _ R2).mono ?_
    rintro e w3 ⟨rfl, b3⟩
    have R3 := R2.belo b3
    have B3 := bl_go B2 b3
    have X3 := X2.belo b3
    clear R2 B2 X2 b3
    obtain ⟨x0, x1, x2⟩ := id X3
    go_wp2_with fail
    refine (CS.out _ R3).mono ?_
    rintro e w4 ⟨rfl, b4⟩
    have R4 := R3.belo b4
    have B4 := bl_go B3 b4
    have X4 := X3.belo b4
    clear R3 B3 X3 b4 x0 x1 x2
    obtain ⟨x0, x1, x2⟩ := id X4
    cases ev with
    | true =>
      obtain ⟨m1, m2, m3⟩ := e2 rfl
      have hz : ¬ (n = 0) := by omega
      have hz2 : (n == 0) = false := by simp; omega
      have hcc : (cm.tmod n == 0) = true := by rw [m3]; rfl
      clear e1 e2
      cases hb : decide (bm < 1) with
      | true =>
        go_wp2_with (first
          | (go_at_call 45; refine (CB.out _ R4).mono ?_; rintro e w5 ⟨rfl, b5⟩; have R5 := R4.belo b5; have X5 := X4.belo b5; have B5 := bl_go B4 b5; clear x0 x1 x2; obtain ⟨x0, x1, x2⟩ := id X5)
          | (go_at_call 35; refine (CM.out _ R5).mono ?_; rintro e w6 ⟨rfl, b6⟩; have B6 := bl_go B5 b6)
          | (go_at_call 15; refine (alive_any _).mono ?_; rintro e w7 ⟨rfl, b7⟩))
        go_ret
        exact ⟨rfl, bl_go B6 b7⟩
      | false =>
        go_wp2_with (first
          | (go_at_call 45; refine (CB.out _ R4).mono ?_; rintro e w5 ⟨rfl, b5⟩; have R5 := R4.belo b5; have X5 := X4.belo b5; have B5 := bl_go B4 b5; clear x0 x1 x2; obtain ⟨x0, x1, x2⟩ := id X5)
          | (go_at_call 35; refine (CM.out _ R5).mono ?_; rintro e w6 ⟨rfl, b6⟩; have B6 := bl_go B5 b6)
          | (go_at_call 15; refine (alive_any _).mono ?_; rintro e w7 ⟨rfl, b7⟩))
        go_ret
        exact ⟨rfl, bl_go B6 b7⟩
    | false =>
      have hb : decide (bm < 1) = true := by simpa using e1
      clear e1 e2
      go_wp2_with (first
        | (go_at_call 45; refine (CB.out _ R4).mono ?_; rintro e w5 ⟨rfl, b5⟩; have B5 := bl_go B4 b5)
        | (go_at_call 15; refine (alive_any _).mono ?_; rintro e w7 ⟨rfl, b7⟩))
      go_ret
      exact ⟨rfl, bl_go B5 b7⟩
  · have hg : decide ((1048576 : Int) < (bs.length : Int)) = true := by simp; omega
    go_enter Try.func9, Try.ntmps9
    go_wp2
    go_ret
    exact ⟨rfl, Below.refl _ _⟩
end Go.Proofs.Ythkpiacanfajbaa
