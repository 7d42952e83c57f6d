/- The walk of the law FnLackSet. -/
import Derived.Test.YtadejjpcdpmpkaaDrawFew
import Derived.Test.YtadejjpcdpmpkaaLackS
import Derived.Test.YtadejjpcdpmpkaaAscend
import Derived.Test.YtadejjpcdpmpkaaAlive
import Derived.Test.YtadejjpcdpmpkaaMemE
namespace Go.Proofs.Ytadejjpcdpmpkaa
open Go.RowKit

theorem sel_up {D : List Int} (hD : D.Pairwise (· < ·)) (s k : Nat) (hk : k ≤ D.length) : (selTo D s k).Pairwise (· < ·) := by
  induction k with
  | zero => exact List.Pairwise.nil
  | succ k ih =>
    cases h : s.testBit k with
    | true =>
      rw [sel_t h, List.pairwise_append]
      refine ⟨ih (by omega), by simp, fun x hx y hy => ?_⟩
      simp at hy
      obtain ⟨i, h1, -, h3⟩ := sel_mem.1 hx
      have := (List.pairwise_iff_getElem.1 hD) i k (by omega) (by omega) h1
      rw [List.getD_eq_getElem?_getD, List.getElem?_eq_getElem (by omega)] at h3
      rw [List.getElem?_eq_getElem (by omega)] at hy
      simp at h3 hy
      omega
    | false => rw [sel_f h]; exact ih (by omega)
theorem sel_sub {D : List Int} {s : Nat} {x : Int} (h : x ∈ selTo D s D.length) : x ∈ D := by
  obtain ⟨i, h1, -, h3⟩ := sel_mem.1 h
  rw [List.getD_eq_getElem?_getD, List.getElem?_eq_getElem (by omega)] at h3
  simp at h3
  rw [← h3]; exact List.getElem_mem _
/-- what the law asks of the set -/
theorem lackSet_law {W T : Int} {bs : List Bool} (h : lackOk W T bs = true) (hl : bs.length ≤ 36) :
    0 ≤ lackMostV W T bs ∧ lackMostV W T bs ≤ 12 ∧ ((lackSetV W T bs).length : Int) - (besV W T bs (lackSetV W T bs)).length = lackMostV W T bs ∧
    (lackMostV W T bs = 0 → (lackSetV W T bs).length = 0) ∧ (lackSetV W T bs).Pairwise (· < ·) ∧ ∀ x ∈ lackSetV W T bs, x ∈ darkL W bs true := by
  obtain ⟨hv, hd⟩ := lackOk_t h
  unfold lackMostV lackSetV besV
  simp only [if_pos h, if_pos hv]
  have hD : (darkL W bs true).Pairwise (· < ·) := pick_sorted _ _
  generalize darkL W bs true = D at *
  obtain ⟨N, hN⟩ : ∃ N, 2 ^ D.length = N + 1 := ⟨2 ^ D.length - 1, by have := Nat.two_pow_pos D.length; omega⟩
  rw [hN]
  obtain ⟨-, h2, h3⟩ := best_at W T bs D N
  have hb := best_bd W T bs D (N + 1) hl
  refine ⟨hb.1, by omega, h2, fun h0 => ?_, sel_up hD _ _ (Nat.le_refl _), fun x hx => sel_sub hx⟩
  rw [h0] at h3
  have : ¬ 0 < (bestTo W T bs D (N + 1)).1 := fun h => h3 0 h (lack_zero W T bs D)
  rw [show (bestTo W T bs D (N + 1)).1 = 0 by omega, sel_zero]; rfl
theorem lackV_f {W T : Int} {bs : List Bool} (h : lackOk W T bs = false) : lackMostV W T bs = -1 ∧ lackSetV W T bs = [] := by
  unfold lackMostV lackSetV; rw [h]; exact ⟨rfl, rfl⟩

set_option maxRecDepth 100000 in
set_option maxHeartbeats 2000000 in
theorem fnLackSet_walk {w0 : World} (A : Option Addr) (c : Nat) (bs : List Int) (hcap : bs.length ≤ c) (hm : bs.length ≤ maxLen) (hr : Rd w0 A (bs.map (.int .u8))) (hw : ∀ n ∈ bs, 0 ≤ n ∧ n ≤ 255) :
    Calls Try.prog 3 #[.slice A bs.length c] w0 fun e w' => e = .returned (.bool true) ∧ Below w0.heap.size w0 w' := by
  have HW := Lib.hid hw
  clear hw
  unfold maxLen at hm
  by_cases hn : bs.length ≤ 1048576
  · have hg : decide ((1048576 : Int) < (bs.length : Int)) = false := by simp; omega
    go_enter Try.func3, Try.ntmps3
    go_wp2_with fail
    refine (drawLackSet_any A c bs _ hr HW.out hn hcap).mono ?_
    rintro e w1 ⟨W, T, xs, B, k, rfl, R1, hl1, B1⟩
    clear hg hn hm hr HW hcap
    have hmx : xs.length ≤ maxLen := by unfold maxLen; omega
    have cI := fun (z : World) (R : Rd z B (xs.map .bool)) => iLackSet_any W T B k xs z R hmx
    have cS := fun (z : World) (R : Rd z B (xs.map .bool)) => sLackSet_any W T B k xs z R hmx
    have cM := fun (z : World) (R : Rd z B (xs.map .bool)) => iLackMost_any W T B k xs z R hmx
    have R2 := R1.alloc (.cells #[.int .i64 W, .int .i64 T, .slice B xs.length k] 25)
    have B2 := bl_alloc B1 (.cells #[.int .i64 W, .int .i64 T, .slice B xs.length k] 25)
    have X2 := C3.new w1 (.int .i64 W) (.int .i64 T) (.slice B xs.length k) 25
    have hVl : (lackSetV W T xs).length ≤ 12 := lackSetV_len W T xs
    clear R1 B1
    go_wp2_with fail
    generalize w1.alloc (.cells #[.int .i64 W, .int .i64 T, .slice B xs.length k] 25) = w2 at *
    generalize w1.heap.size = bx at *
    cases hk : lackOk W T xs with
    | true =>
      obtain ⟨hv, hdl⟩ := lackOk_t hk
      obtain ⟨h1, h2, h3, h4, h5, -⟩ := valid_len hv
      have hlaw := lackSet_law hk h5
      have cD := fun (z : World) (R : Rd z B (xs.map .bool)) => iDarkCells_any W T B k xs z R hmx
      have hVe : darkV W T xs = darkL W xs true := by unfold darkV; rw [if_pos hv]
      rw [hVe] at cD
      have hNl : ∀ V, (besV W T xs V).length ≤ 37 := fun V => besV_len W T xs V hl1
      clear hv hVe hk
      generalize darkL W xs true = D at *
      generalize lackSetV W T xs = V at *
      generalize lackMostV W T xs = M at *
      obtain ⟨m0, m1, l1, l2, l3, l4⟩ := hlaw
      have CI := Lib.hid cI
      have CS := Lib.hid cS
      have CM := Lib.hid cM
      have CD := Lib.hid cD
      have CB := Lib.hid (fun (z : World) (A2 : Option Addr) (c2 : Nat) (R : Rd z B (xs.map .bool)) (R2 : Rd z A2 (V.map (.int .i64))) => iCellsBeside_any W T B A2 k c2 xs V z R R2 hmx (by omega))
      have hNl := hNl V
      generalize besV W T xs V = N at *
      have hVm : V.length ≤ maxLen := by unfold maxLen; omega
      have HV9 := Lib.hid (show V.length ≤ 1000000000000 by omega)
      have L1 := Lib.hid l1
      have L2 := Lib.hid l2
      have L3 := Lib.hid l3
      have L4 := Lib.hid l4
      clear cI cS cM cD l1 l2 l3 l4
      obtain ⟨x0, x1, x2⟩ := id X2
      refine (CI.out _ R2).mono ?_
      rintro e w3 ⟨A3, rfl, G3, b3⟩
      have R3 := R2.belo b3
      have B3 := bl_go B2 b3
      have X3 := X2.belo b3
      have L3 := G3.rd
      clear R2 B2 X2 b3 x0 x1 x2 G3
      obtain ⟨x0, x1, x2⟩ := id X3
      go_wp2_with fail
      refine (CS.out _ R3).mono ?_
      rintro e w4 ⟨A4, c4, rfl, P4, b4, f4⟩
      have R4 := R3.belo b4
      have B4 := bl_go B3 b4
      have X4 := X3.belo b4
      have Q4 := L3.belo b4
      clear R3 B3 X3 b4 x0 x1 x2 L3 f4
      go_wp2_with fail
      refine (sameInts_t _ _ _ _ V _ Q4 P4 hVm).mono ?_
      rintro e w5 ⟨rfl, b5⟩
      have R5 := R4.belo b5
      have B5 := bl_go B4 b5
      have X5 := X4.belo b5
      have Q5 := Q4.belo b5
      clear R4 B4 X4 b5 Q4 P4
      obtain ⟨x0, x1, x2⟩ := id X5
      have hM0 : decide (M < 0) = false := by simp; omega
      go_wp2_with fail
      refine (CM.out _ R5).mono ?_
      rintro e w6 ⟨rfl, b6⟩
      have R6 := R5.belo b6
      have B6 := bl_go B5 b6
      have X6 := X5.belo b6
      have Q6 := Q5.belo b6
      clear R5 B5 X5 b6 Q5 x0 x1 x2
      obtain ⟨x0, x1, x2⟩ := id X6
      go_wp2_with fail
      refine (CD.out _ R6).mono ?_
      rintro e w7 ⟨A7, rfl, G7, b7⟩
      have R7 := R6.belo b7
      have B7 := bl_go B6 b7
      have X7 := X6.belo b7
      have Q7 := Q6.belo b7
      have N7 := G7.rd
      have hDm : D.length ≤ maxLen := by unfold maxLen; omega
      clear R6 B6 X6 b7 Q6 G7 x0 x1 x2
      go_wp2_with fail
      go_loop [7] (fun i => ∃ j : Nat, j ≤ V.length ∧ i = .int .i64 j) (fun i => V.length - (intOf i).toNat)
      case atStart => exact ⟨0, Nat.zero_le _, rfl⟩
      case round =>
        obtain ⟨j, hj, rfl⟩ := hrel
        by_cases hlt : j < V.length
        · obtain ⟨ad, rfl, hc⟩ := Q7.atM hlt
          obtain ⟨y, hy⟩ : ∃ y, V[j] = y := ⟨_, rfl⟩
          have HY := Lib.hid (show decide (y ∈ D) = true from decide_eq_true (L4.out y (by rw [← hy]; exact List.getElem_mem hlt)))
          rw [hy] at hc
          clear hy
          go_wp2_with (go_at_call 16; refine (hasInt_any _ _ _ D y _ N7 rfl hDm).mono ?_; rintro e w' ⟨rfl, rfl⟩; rw [HY.out])
          go_round
          case rel => exact ⟨j + 1, by omega, by go_num⟩
          case measure => simp [intOf]; omega
        · obtain rfl : j = V.length := by omega
          obtain ⟨x0, x1, x2⟩ := id X7
          have ws : IntKind.i64.wrap ((V.length : Int) - (N.length : Int)) = M := by rw [IntWalk.i64_in _ (by have := L1.out; omega)]; exact L1.out
          have hMM : (M == M) = true := by simp
          have hg : (decide (0 < M) || ((V.length : Int) == 0)) = true := by
            rcases (show 0 < M ∨ M = 0 from by omega) with h | h
            · simp [h]
            · have := L2.out h; simp [this]
          rcases (show 0 < M ∨ (M = 0 ∧ V.length = 0) from by rcases (show 0 < M ∨ M = 0 from by omega) with h | h; exact .inl h; exact .inr ⟨h, L2.out h⟩) with hp | ⟨hz, hz2⟩
          · have hp1 : decide (0 < M) = true := by simp; omega
            clear hg
            go_wp2_with (first
              | (go_at_call 17; refine (CB.out _ _ _ R7 Q7).mono ?_; rintro e w8 ⟨A8, rfl, G8, b8⟩)
              | (go_at_call 18; refine (ascend_t _ _ V _ (Q7.belo b8) HV9.out L3.out).mono ?_; rintro e w9 ⟨rfl, b9⟩))
            go_ret
            exact ⟨rfl, bl_go (bl_go B7 b8) b9⟩
          · have hp1 : decide (0 < M) = false := by simp; omega
            have hp2 : ((V.length : Int) == 0) = true := by rw [hz2]; rfl
            clear hg hz hz2
            go_wp2_with (first
              | (go_at_call 17; refine (CB.out _ _ _ R7 Q7).mono ?_; rintro e w8 ⟨A8, rfl, G8, b8⟩)
              | (go_at_call 18; refine (ascend_t _ _ V _ (Q7.belo b8) HV9.out L3.out).mono ?_; rintro e w9 ⟨rfl, b9⟩))
            go_ret
            exact ⟨rfl, bl_go (bl_go B7 b8) b9⟩
    | false =>
      obtain ⟨hMe, hVe⟩ := lackV_f hk
      rw [hVe] at cI cS
      rw [hMe] at cM
      clear hVe hVl hMe
      have CI := Lib.hid cI
      have CS := Lib.hid cS
      have CM := Lib.hid cM
      clear cI cS cM
      obtain ⟨x0, x1, x2⟩ := id X2
      refine (CI.out _ R2).mono ?_
      rintro e w3 ⟨A3, rfl, G3, b3⟩
      have R3 := R2.belo b3
      have B3 := bl_go B2 b3
      have X3 := X2.belo b3
      clear R2 B2 X2 b3 x0 x1 x2
      obtain ⟨x0, x1, x2⟩ := id X3
      go_wp2_with fail
      refine (CS.out _ R3).mono ?_
      rintro e w4 ⟨A4, c4, rfl, P4, b4, f4⟩
      have R4 := R3.belo b4
      have B4 := bl_go B3 b4
      have X4 := X3.belo b4
      have L4 := G3.rd.belo b4
      clear R3 B3 X3 b4 x0 x1 x2 G3 f4
      go_wp2_with fail
      refine (sameInts_t _ _ _ _ [] _ L4 P4 (by unfold maxLen; simp)).mono ?_
      rintro e w5 ⟨rfl, b5⟩
      have R5 := R4.belo b5
      have B5 := bl_go B4 b5
      have X5 := X4.belo b5
      clear R4 B4 X4 b5 L4 P4
      obtain ⟨x0, x1, x2⟩ := id X5
      go_wp2_with fail
      refine (CM.out _ R5).mono ?_
      rintro e w6 ⟨rfl, b6⟩
      have B6 := bl_go B5 b6
      clear x0 x1 x2
      go_wp2_with (go_at_call 14; refine (alive_any _).mono ?_; rintro e w7 ⟨rfl, b7⟩)
      go_ret
      exact ⟨rfl, bl_go B6 b7⟩
  · have hg : decide ((1048576 : Int) < (bs.length : Int)) = true := by simp; omega
    go_enter Try.func3, Try.ntmps3
    go_wp2
    go_ret
    exact ⟨rfl, Below.refl _ _⟩
end Go.Proofs.Ytadejjpcdpmpkaa
