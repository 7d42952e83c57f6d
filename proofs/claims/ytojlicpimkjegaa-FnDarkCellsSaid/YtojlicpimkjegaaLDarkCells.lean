/- The walk of the law FnDarkCells. -/
import Derived.Test.YtojlicpimkjegaaDrawCol
import Derived.Test.YtojlicpimkjegaaAscend
import Derived.Test.YtojlicpimkjegaaAlive
import Derived.Test.YtojlicpimkjegaaMemE
namespace Go.Proofs.Ytojlicpimkjegaa
open Go.RowKit

set_option maxRecDepth 100000 in
set_option maxHeartbeats 2000000 in
theorem fnDarkCells_walk {w0 : World} (A : Option Addr) (c : Nat) (bs : List Int) (hcap : bs.length ≤ c) (hm : bs.length ≤ maxLen) (hr : Rd w0 A (bs.map (.int .u8))) (hw : ∀ n ∈ bs, 0 ≤ n ∧ n ≤ 255) :
    Calls Try.prog 13 #[.slice A bs.length c] w0 fun e w' => e = .returned (.bool true) ∧ Below w0.heap.size w0 w' := by
  have HW := Lib.hid hw
  clear hw
  unfold maxLen at hm
  by_cases hn : bs.length ≤ 1048576
  · have hg : decide ((1048576 : Int) < (bs.length : Int)) = false := by simp; omega
    go_enter Try.func13, Try.ntmps13
    go_wp2_with fail
    refine (drawDarkCells_any A c bs _ hr HW.out hn hcap).mono ?_
    rintro e w1 ⟨W, T, xs, B, k, rfl, R1, hl1, B1⟩
    clear hg hn hm hr HW hcap
    have hmx : xs.length ≤ maxLen := by unfold maxLen; omega
    have cI := fun (z : World) (R : Rd z B (xs.map .bool)) => iDarkCells_any W T B k xs z R hmx
    have cS := fun (z : World) (R : Rd z B (xs.map .bool)) => sDarkCells_any W T B k xs z R hmx
    have CV := Lib.hid (fun (z : World) (R : Rd z B (xs.map .bool)) => sRegionValid_any W T B k xs z R hmx)
    have CD := Lib.hid (fun (z : World) (R : Rd z B (xs.map .bool)) => iDarkMany_any W T B k xs z R hmx)
    have R2 := R1.alloc (.cells #[.int .i64 W, .int .i64 T, .slice B xs.length k] 28)
    have B2 := bl_alloc B1 (.cells #[.int .i64 W, .int .i64 T, .slice B xs.length k] 28)
    have X2 := C3.new w1 (.int .i64 W) (.int .i64 T) (.slice B xs.length k) 28
    have hVl : (darkV W T xs).length ≤ 37 := darkV_len W T xs hl1
    clear R1 B1
    go_wp2_with fail
    generalize w1.alloc (.cells #[.int .i64 W, .int .i64 T, .slice B xs.length k] 28) = w2 at *
    generalize w1.heap.size = bx at *
    cases hv : validB W T xs with
    | true =>
      obtain ⟨h1, h2, h3, h4, h5, -⟩ := valid_len hv
      have hVe : darkV W T xs = darkL W xs true := by unfold darkV; rw [if_pos hv]
      have HV := Lib.hid hv
      have HD := Lib.hid (show darkN W T xs = ((darkL W xs true).length : Int) by unfold darkN; rw [if_pos hv, darkL_len])
      have HN := Lib.hid (fun x (h : x ∈ besV W T xs (darkL W xs true)) => bes_dark (W := W) (T := T) (bs := xs) h1 h2 (show x ∈ besL W T xs (darkL W xs true) by unfold besV at h; rw [if_pos hv] at h; exact h))
      have HP := Lib.hid (pick_sorted (isCol W xs true) xs.length)
      have HP2 : Hid ((darkL W xs true).Pairwise (· < ·)) := HP.out
      have hNl := besV_len W T xs (darkL W xs true) hl1
      rw [hVe] at cI cS hVl
      clear hv HP hVe
      generalize darkL W xs true = V at cI cS hVl HD HN HP2 hNl
      have CI := Lib.hid cI
      have CS := Lib.hid cS
      have CB := Lib.hid (fun (z : World) (A2 : Option Addr) (c2 : Nat) (R : Rd z B (xs.map .bool)) (R2 : Rd z A2 (V.map (.int .i64))) => iCellsBeside_any W T B A2 k c2 xs V z R R2 hmx (by omega))
      have hVm : V.length ≤ maxLen := by unfold maxLen; omega
      clear cI cS
      obtain ⟨x0, x1, x2⟩ := id X2
      refine (CI.out _ R2).mono ?_
      rintro e w3 ⟨A3, rfl, G3, b3⟩
      have R3 := R2.belo b3
      have B3 := bl_go B2 b3
      have X3 := X2.belo b3
      have L3 := G3.rd
      clear R2 B2 X2 b3 x0 x1 x2 G3
      obtain ⟨x0, x1, x2⟩ := id X3
      go_wp2_with fail
      refine (CS.out _ R3).mono ?_
      rintro e w4 ⟨A4, c4, rfl, P4, b4, f4⟩
      have R4 := R3.belo b4
      have B4 := bl_go B3 b4
      have X4 := X3.belo b4
      have L4 := L3.belo b4
      clear R3 B3 X3 b4 x0 x1 x2 L3 f4
      go_wp2_with fail
      refine (sameInts_t _ _ _ _ V _ L4 P4 hVm).mono ?_
      rintro e w5 ⟨rfl, b5⟩
      have R5 := R4.belo b5
      have B5 := bl_go B4 b5
      have X5 := X4.belo b5
      have L5 := L4.belo b5
      clear R4 B4 X4 b5 L4 P4
      obtain ⟨x0, x1, x2⟩ := id X5
      go_wp2_with fail
      refine (CV.out _ R5).mono ?_
      rintro e w6 ⟨rfl, b6⟩
      rw [HV.out]
      have R6 := R5.belo b6
      have B6 := bl_go B5 b6
      have X6 := X5.belo b6
      have L6 := L5.belo b6
      clear R5 B5 X5 b6 L5 x0 x1 x2
      obtain ⟨x0, x1, x2⟩ := id X6
      go_wp2_with fail
      refine (CB.out _ _ _ R6 L6).mono ?_
      rintro e w7 ⟨A7, rfl, G7, b7⟩
      have R7 := R6.belo b7
      have B7 := bl_go B6 b7
      have X7 := X6.belo b7
      have L7 := L6.belo b7
      have N7 := G7.rd
      clear R6 B6 X6 b7 L6 G7 x0 x1 x2
      generalize besV W T xs V = N at *
      go_wp2_with fail
      go_loop [6] (fun i => ∃ j : Nat, j ≤ N.length ∧ i = .int .i64 j) (fun i => N.length - (intOf i).toNat)
      case atStart => exact ⟨0, Nat.zero_le _, rfl⟩
      case round =>
        obtain ⟨j, hj, rfl⟩ := hrel
        by_cases hlt : j < N.length
        · obtain ⟨ad, rfl, hc⟩ := N7.atM hlt
          obtain ⟨y, hy⟩ : ∃ y, N[j] = y := ⟨_, rfl⟩
          have HY := Lib.hid (show decide (y ∈ V) = false from decide_eq_false (HN.out y (by rw [← hy]; exact List.getElem_mem hlt)))
          rw [hy] at hc
          clear hy
          go_wp2_with (go_at_call 58; refine (hasInt_any _ _ _ V y _ L7 rfl hVm).mono ?_; rintro e w' ⟨rfl, rfl⟩; rw [HY.out])
          go_round
          case rel => exact ⟨j + 1, by omega, by go_num⟩
          case measure => simp [intOf]; omega
        · obtain rfl : j = N.length := by omega
          obtain ⟨x0, x1, x2⟩ := id X7
          have hcc : ((V.length : Int) == (V.length : Int)) = true := by simp
          go_wp2_with (first
            | (go_at_call 59; refine (CD.out _ R7).mono ?_; rintro e w8 ⟨rfl, b8⟩; rw [HD.out])
            | (go_at_call 60; refine (ascend_t _ _ V _ (L7.belo b8) (by omega) HP2.out).mono ?_; rintro e w9 ⟨rfl, b9⟩))
          go_ret
          exact ⟨rfl, bl_go (bl_go B7 b8) b9⟩
    | false =>
      have hVe : darkV W T xs = [] := by unfold darkV; rw [hv]; rfl
      have HV := Lib.hid hv
      rw [hVe] at cI cS
      clear hv hVe hVl
      have CI := Lib.hid cI
      have CS := Lib.hid cS
      clear cI cS
      obtain ⟨x0, x1, x2⟩ := id X2
      refine (CI.out _ R2).mono ?_
      rintro e w3 ⟨A3, rfl, G3, b3⟩
      have R3 := R2.belo b3
      have B3 := bl_go B2 b3
      have X3 := X2.belo b3
      clear R2 B2 X2 b3 x0 x1 x2
      obtain ⟨x0, x1, x2⟩ := id X3
      go_wp2_with fail
      refine (CS.out _ R3).mono ?_
      rintro e w4 ⟨A4, c4, rfl, P4, b4, f4⟩
      have R4 := R3.belo b4
      have B4 := bl_go B3 b4
      have X4 := X3.belo b4
      have L4 := G3.rd.belo b4
      clear R3 B3 X3 b4 x0 x1 x2 G3 f4
      go_wp2_with fail
      refine (sameInts_t _ _ _ _ [] _ L4 P4 (by unfold maxLen; simp)).mono ?_
      rintro e w5 ⟨rfl, b5⟩
      have R5 := R4.belo b5
      have B5 := bl_go B4 b5
      have X5 := X4.belo b5
      clear R4 B4 X4 b5 L4 P4
      obtain ⟨x0, x1, x2⟩ := id X5
      go_wp2_with fail
      refine (CV.out _ R5).mono ?_
      rintro e w6 ⟨rfl, b6⟩
      rw [HV.out]
      have B6 := bl_go B5 b6
      clear x0 x1 x2
      go_wp2_with (go_at_call 57; refine (alive_any _).mono ?_; rintro e w7 ⟨rfl, b7⟩)
      go_ret
      exact ⟨rfl, bl_go B6 b7⟩
  · have hg : decide ((1048576 : Int) < (bs.length : Int)) = true := by simp; omega
    go_enter Try.func13, Try.ntmps13
    go_wp2
    go_ret
    exact ⟨rfl, Below.refl _ _⟩
end Go.Proofs.Ytojlicpimkjegaa
