
/- FnPushOne: joined from LayI, TuI, TopI, PosS, RowI, SameI, Open, LPushOne. -/
import Derived.Test.YtafmpgikdhlknaaGreatLayN
import Derived.Test.YtafmpgikdhlknaaGreatStep
import Derived.Test.YtafmpgikdhlknaaGreatMemE
import Derived.Test.YtafmpgikdhlknaaGreatCellApp
import Derived.Test.YtafmpgikdhlknaaGreatPA
import Derived.Test.YtafmpgikdhlknaaGreatByI
import Derived.Deep.RegionHeld3
import Derived.Test.YtafmpgikdhlknaaGreatPC
import Derived.Test.YtafmpgikdhlknaaGreatListI
import Derived.Test.YtafmpgikdhlknaaGreatBw
import Derived.Test.YtafmpgikdhlknaaGreatMem
import Derived.Test.YtafmpgikdhlknaaGreatRows
import Derived.ProofKit
import Derived.OpenShut
import Derived.ChangeOld
import Derived.Deep.Grids
import Derived.Deep.Slices
import Derived.Lib.SmallJoins
import Derived.Test.YtafmpgikdhlknaaGreatQC
import Derived.Test.YtafmpgikdhlknaaGreatQD
import Derived.Test.YtafmpgikdhlknaaGreatAlive
/- Contracts: dominoes on a region, in the program: lays, full, LaidOk, TilingOk. -/
namespace Go.Proofs.YtafmpgikdhlknaaGreat
open Go.RowKit

set_option maxRecDepth 100000 in
set_option maxHeartbeats 1000000 in
theorem lays_any (W T : Int) (A A' : Option Addr) (c c' : Nat) (bs : List Bool) (L : List Int) (w : World) (h1 : 1 ≤ W) (h2 : W ≤ 6) (h3 : 1 ≤ T) (h4 : T ≤ 6) (hl : (bs.length : Int) = W * T)
    (hr : Rd w A (bs.map .bool)) (hr' : Rd w A' (L.map (.int .i64))) (hn : L.length ≤ maxLen) :
    Calls Tryz.prog 79 #[.agg #[.int .i64 W, .int .i64 T, .slice A bs.length c], .slice A' L.length c'] w fun e w' => e = .returned (.bool (laysB W T bs L)) ∧ Below w.heap.size w w' := by
  have n36 := mul_bd h1 h2 h3 h4
  have hb36 : bs.length ≤ 36 := by omega
  unfold maxLen at hn
  have X0 := C3.new w (.int .i64 W) (.int .i64 T) (.slice A bs.length c) 25
  have B0 := bl_alloc (Below.refl w.heap.size w) (.cells #[.int .i64 W, .int .i64 T, .slice A bs.length c] 25)
  have HL := Lib.hid hl
  clear hl
  by_cases hll : L.length = bs.length
  · have hq : ((L.length : Int) != (bs.length : Int)) = false := by simp [hll]
    have HLL := Lib.hid hll
    have hn36 : L.length ≤ 36 := by omega
    clear hll
    go_enter Tryz.func79, Tryz.ntmps79
    go_wp2_with fail
    generalize w.alloc (.cells #[.int .i64 W, .int .i64 T, .slice A bs.length c] 25) = wq at *
    go_loopw [16] (fun i wr => ∃ k : Nat, k ≤ L.length ∧ i = .int .i64 k ∧ Hid (∀ j, j < k → laidAt W T bs L j = true) ∧ Below w.heap.size w wr ∧ C3 wr w.heap.size (.int .i64 W) (.int .i64 T) (.slice A bs.length c)) (fun i _ => L.length - (intOf i).toNat)
    case atStart => exact ⟨0, Nat.zero_le _, rfl, fun j h => by omega, B0, X0⟩
    case round =>
      clear B0 X0
      obtain ⟨k, hk, rfl, HK, B1, X1⟩ := hrel
      by_cases hlt : k < L.length
      · have hkb : k < bs.length := by have := HLL.out; omega
        have r1 := hr.belo B1
        have r2 := hr'.belo B1
        obtain ⟨b, off, rfl, ck⟩ := r2.atEM hlt
        obtain ⟨b', off', rfl, -⟩ := r1.atEM hkb
        have HD := Lib.hid (getD_in L 0 hlt)
        generalize L[k] = d at ck HD
        by_cases hd : d = 0
        · have HS := Lib.hid (laidAt_0 (W := W) (T := T) (bs := bs) (HD.out.trans hd))
          have hd1 : (d == 0) = true := by simpa using hd
          clear hd
          go_wp2_with fail
          go_roundw
          case rel =>
            refine ⟨k + 1, by omega, by go_num, fun j hj => ?_, B1, X1⟩
            rcases Nat.lt_or_ge j k with h | h
            · exact HK.out j h
            · obtain rfl : j = k := by omega
              exact HS.out
          case measure => simp [intOf]; omega
        · have HD0 := Lib.hid (show L.getD k 0 ≠ 0 by rw [HD.out]; exact hd)
          have hd1 : (d == 0) = false := by simpa using hd
          have kl : (k : Int) < W * T := by have := HL.out; omega
          have hsb := step_bd d h1 h2 h3 h4 (show 0 ≤ (k : Int) by omega) kl
          have HKL := Lib.hid kl
          clear hd kl
          obtain ⟨x0, x1, x2⟩ := id X1
          go_wp2_with fail
          refine (step_any W T _ k d _ h1 h2 h3 h4 (by omega) HKL.out).mono ?_
          rintro e w2 ⟨rfl, b2⟩
          have B2 := bl_go B1 b2
          have X2 := X1.belo b2
          have r3 := r1.belo b2
          have r4 := r2.belo b2
          clear x0 x1 x2 ck X1 r1 r2 B1 b2
          obtain ⟨x0, x1, x2⟩ := id X2
          obtain ⟨t, ht⟩ : ∃ t, stepZ W T k d = t := ⟨_, rfl⟩
          have HT := Lib.hid ht
          rw [ht] at hsb ⊢
          clear ht
          rcases hsb with rfl | ⟨s0, s1⟩
          · have HF := Lib.hid (laysB_f k hlt (laidAt_out (bs := bs) HD0.out (by rw [HD.out, HT.out]; omega)))
            go_wp2_with fail
            go_quiet (fail)
            go_wp2
            go_ret
            exact ⟨ret_b HF.out.symm, below_drewN' B2 _⟩
          · obtain ⟨t, rfl⟩ := Int.eq_ofNat_of_zero_le s0
            have htb : t < bs.length := by have := HL.out; omega
            have htl : t < L.length := by have := HLL.out; omega
            have hdir := step_dir (W := W) (T := T) (c := k) (d := d) (by rw [HT.out]; omega)
            have HS := Lib.hid (laidAt_in (bs := bs) HD0.out (show stepZ W T k (L.getD k 0) = (t : Int) by rw [HD.out, HT.out]))
            have HBK := Lib.hid (fun z => iback_any d z (by omega) (by omega))
            have ck := r3.cellEM hkb
            have ct := r3.cellEM htb
            have lt := r4.cellEM htl
            have HG1 := Lib.hid (getD_in bs false hkb)
            have HG2 := Lib.hid (getD_in bs false htb)
            have HG3 := Lib.hid (getD_in L 0 htl)
            generalize bs[k] = bk at ck HG1
            generalize bs[t] = bt at ct HG2
            generalize L[t] = lv at lt HG3
            have I0 : (0 : Int) ≤ (k : Int) := by omega
            have I1 : (k : Int) < (bs.length : Int) := by omega
            have I2 : (0 : Int) ≤ (t : Int) := by omega
            have I3 : (t : Int) < (bs.length : Int) := by omega
            have I4 : (t : Int) < (L.length : Int) := by omega
            have hneg : decide ((t : Int) < 0) = false := by simp
            clear s0 s1 hdir
            cases bk with
            | false =>
              have HF := Lib.hid (laysB_f k hlt (by rw [HS.out, HG1.out]; rfl))
              go_wp2_with fail
              go_quiet (fail)
              go_wp2
              go_ret
              exact ⟨ret_b HF.out.symm, below_drewN' B2 _⟩
            | true =>
              cases bt with
              | false =>
                have HF := Lib.hid (laysB_f k hlt (by rw [HS.out, HG1.out, HG2.out]; rfl))
                go_wp2_with fail
                go_quiet (fail)
                go_wp2
                go_ret
                exact ⟨ret_b HF.out.symm, below_drewN' B2 _⟩
              | true =>
                by_cases hv : lv = backZ d
                · have HF := Lib.hid (show laidAt W T bs L k = true by rw [HS.out, HG1.out, HG2.out, HG3.out, HD.out, decide_eq_true hv]; rfl)
                  have hv1 : (lv != backZ d) = false := by simp [hv]
                  clear hv
                  go_wp2_with fail
                  go_quiet ((go_at_call 113; with_reducible exact quietL (HBK.out _)))
                  clear hneg
                  go_wp2
                  go_roundw
                  case rel =>
                    refine ⟨k + 1, by omega, by go_num, fun j hj => ?_, below_drewN' B2 _, X2⟩
                    rcases Nat.lt_or_ge j k with h | h
                    · exact HK.out j h
                    · obtain rfl : j = k := by omega
                      exact HF.out
                  case measure => simp [intOf]; omega
                · have HF := Lib.hid (laysB_f k hlt (by rw [HS.out, HG1.out, HG2.out, HG3.out, HD.out, decide_eq_false hv]; rfl))
                  have hv1 : (lv != backZ d) = true := by simpa using hv
                  clear hv
                  go_wp2_with fail
                  go_quiet ((go_at_call 113; with_reducible exact quietL (HBK.out _)))
                  clear hneg
                  go_wp2
                  go_ret
                  exact ⟨ret_b HF.out.symm, below_drewN' B2 _⟩
      · have HF := Lib.hid (laysB_t (W := W) (T := T) HLL.out (fun j hj => HK.out j (by omega)))
        go_wp2
        go_ret
        exact ⟨ret_b HF.out.symm, B1⟩
  · have HF := Lib.hid (laysB_len (W := W) (T := T) hll)
    have hq : ((L.length : Int) != (bs.length : Int)) = true := by simp; omega
    clear hll
    go_enter Tryz.func79, Tryz.ntmps79
    go_wp2
    go_ret
    exact ⟨ret_b HF.out.symm, B0⟩
set_option maxRecDepth 100000 in
set_option maxHeartbeats 1000000 in
theorem full_any (W T : Int) (A A' : Option Addr) (c c' : Nat) (bs : List Bool) (L : List Int) (w : World) (hl : L.length = bs.length) (hr : Rd w A (bs.map .bool)) (hr' : Rd w A' (L.map (.int .i64))) (hn : bs.length ≤ maxLen) :
    Calls Tryz.prog 55 #[.agg #[.int .i64 W, .int .i64 T, .slice A bs.length c], .slice A' L.length c'] w fun e w' => e = .returned (.bool (fullB bs L)) ∧ Below w.heap.size w w' := by
  unfold maxLen at hn
  have B0 := bl_alloc (Below.refl w.heap.size w) (.cells #[.int .i64 W, .int .i64 T, .slice A bs.length c] 25)
  have r1 := hr.belo B0
  have r2 := hr'.belo B0
  have HL := Lib.hid hl
  have hln : L.length ≤ 9223372036854775807 := by omega
  have hle : bs.length ≤ L.length := by omega
  clear hl hr hr'
  go_enter Tryz.func55, Tryz.ntmps55
  go_wp2_with fail
  generalize w.alloc (.cells #[.int .i64 W, .int .i64 T, .slice A bs.length c] 25) = wq at *
  go_loop [10] (fun i => ∃ k : Nat, k ≤ bs.length ∧ i = .int .i64 k ∧ Hid (∀ j, j < k → (bs.getD j false && decide (L.getD j 0 = 0)) = false)) (fun i => bs.length - (intOf i).toNat)
  case atStart => exact ⟨0, Nat.zero_le _, rfl, fun j h => by omega⟩
  case round =>
    obtain ⟨k, hk, rfl, HK⟩ := hrel
    by_cases hlt : k < bs.length
    · have hkl : k < L.length := by omega
      obtain ⟨b, off, rfl, ck⟩ := r1.atEM hlt
      obtain ⟨b', off', rfl, lk⟩ := r2.atEM hkl
      have HG1 := Lib.hid (getD_in bs false hlt)
      have HG2 := Lib.hid (getD_in L 0 hkl)
      generalize bs[k] = bk at ck HG1
      generalize L[k] = lv at lk HG2
      cases bk with
      | false =>
        have HF := Lib.hid (show (bs.getD k false && decide (L.getD k 0 = 0)) = false by rw [HG1.out]; rfl)
        go_wp2
        go_round
        case rel =>
          refine ⟨k + 1, by omega, by go_num, fun j hj => ?_⟩
          rcases Nat.lt_or_ge j k with h | h
          · exact HK.out j h
          · obtain rfl : j = k := by omega
            exact HF.out
        case measure => simp [intOf]; omega
      | true =>
        by_cases hv : lv = 0
        · have HF := Lib.hid (fullB_f k hlt (show (bs.getD k false && decide (L.getD k 0 = 0)) = true by rw [HG1.out, HG2.out, decide_eq_true hv]; rfl))
          have hv1 : (lv == 0) = true := by simpa using hv
          clear hv
          go_wp2
          go_ret
          exact ⟨ret_b HF.out.symm, B0⟩
        · have HF := Lib.hid (show (bs.getD k false && decide (L.getD k 0 = 0)) = false by rw [HG1.out, HG2.out, decide_eq_false hv]; rfl)
          have hv1 : (lv == 0) = false := by simpa using hv
          clear hv
          go_wp2
          go_round
          case rel =>
            refine ⟨k + 1, by omega, by go_num, fun j hj => ?_⟩
            rcases Nat.lt_or_ge j k with h | h
            · exact HK.out j h
            · obtain rfl : j = k := by omega
              exact HF.out
          case measure => simp [intOf]; omega
    · have HF := Lib.hid (fullB_t (bs := bs) (L := L) (fun j hj => HK.out j (by omega)))
      go_wp2
      go_ret
      exact ⟨ret_b HF.out.symm, B0⟩
set_option maxRecDepth 100000 in
set_option maxHeartbeats 1000000 in
theorem iLaidOk_any (W T : Int) (A A' : Option Addr) (c c' : Nat) (bs : List Bool) (L : List Int) (w : World) (hr : Rd w A (bs.map .bool)) (hr' : Rd w A' (L.map (.int .i64))) (hb : bs.length ≤ maxLen) (hn : L.length ≤ maxLen) :
    Calls Tryz.prog 54 #[.agg #[.int .i64 W, .int .i64 T, .slice A bs.length c], .slice A' L.length c'] w fun e w' => e = .returned (.bool (laidOkB W T bs L)) ∧ Below w.heap.size w w' := by
  have X0 := C3.new w (.int .i64 W) (.int .i64 T) (.slice A bs.length c) 25
  cases hv : validB W T bs with
  | true =>
    obtain ⟨h1, h2, h3, h4, h5, h6⟩ := valid_len hv
    have HF := Lib.hid (show laidOkB W T bs L = laysB W T bs L by unfold laidOkB; rw [hv]; rfl)
    have H6 := Lib.hid h6
    clear h6
    go_enter Tryz.func54, Tryz.ntmps54
    go_wp2_with fail
    refine (iRegionValid_any _ _ _ _ _ _ (hr.alloc _) hb).mono ?_
    rintro e w1 ⟨rfl, b1⟩
    rw [hv]
    have B1 := bl_go (bl_alloc (Below.refl w.heap.size w) _) b1
    obtain ⟨x0, x1, x2⟩ := X0.belo b1
    go_wp2_with fail
    refine (lays_any W T A A' c c' bs L _ h1 h2 h3 h4 H6.out (hr.belo B1) (hr'.belo B1) hn).mono ?_
    rintro e w2 ⟨rfl, b2⟩
    go_wp2
    go_ret
    exact ⟨ret_b HF.out.symm, bl_go B1 b2⟩
  | false =>
    have HF := Lib.hid (show laidOkB W T bs L = false by unfold laidOkB; rw [hv]; rfl)
    go_enter Tryz.func54, Tryz.ntmps54
    go_wp2_with fail
    refine (iRegionValid_any _ _ _ _ _ _ (hr.alloc _) hb).mono ?_
    rintro e w1 ⟨rfl, b1⟩
    rw [hv]
    have B1 := bl_go (bl_alloc (Below.refl w.heap.size w) _) b1
    go_wp2
    go_ret
    exact ⟨ret_b HF.out.symm, B1⟩
set_option maxRecDepth 100000 in
set_option maxHeartbeats 1000000 in
theorem iTilingOk_any (W T : Int) (A A' : Option Addr) (c c' : Nat) (bs : List Bool) (L : List Int) (w : World) (hr : Rd w A (bs.map .bool)) (hr' : Rd w A' (L.map (.int .i64))) (hb : bs.length ≤ maxLen) (hn : L.length ≤ maxLen) :
    Calls Tryz.prog 21 #[.agg #[.int .i64 W, .int .i64 T, .slice A bs.length c], .slice A' L.length c'] w fun e w' => e = .returned (.bool (tilingB W T bs L)) ∧ Below w.heap.size w w' := by
  have X0 := C3.new w (.int .i64 W) (.int .i64 T) (.slice A bs.length c) 25
  cases hv : laidOkB W T bs L with
  | true =>
    have hlen : L.length = bs.length := by
      unfold laidOkB at hv
      cases h : laysB W T bs L with
      | true => unfold laysB at h; simp at h; exact h.1
      | false => rw [h] at hv; simp at hv
    have HF := Lib.hid (show tilingB W T bs L = fullB bs L by unfold tilingB; rw [hv]; rfl)
    have HLN := Lib.hid hlen
    clear hlen
    go_enter Tryz.func21, Tryz.ntmps21
    go_wp2_with fail
    refine (iLaidOk_any _ _ _ _ _ _ _ _ _ (hr.alloc _) (hr'.alloc _) hb hn).mono ?_
    rintro e w1 ⟨rfl, b1⟩
    rw [hv]
    have B1 := bl_go (bl_alloc (Below.refl w.heap.size w) _) b1
    obtain ⟨x0, x1, x2⟩ := X0.belo b1
    go_wp2_with fail
    refine (full_any W T A A' c c' bs L _ HLN.out (hr.belo B1) (hr'.belo B1) hb).mono ?_
    rintro e w2 ⟨rfl, b2⟩
    go_wp2
    go_ret
    exact ⟨ret_b HF.out.symm, bl_go B1 b2⟩
  | false =>
    have HF := Lib.hid (show tilingB W T bs L = false by unfold tilingB; rw [hv]; rfl)
    go_enter Tryz.func21, Tryz.ntmps21
    go_wp2_with fail
    refine (iLaidOk_any _ _ _ _ _ _ _ _ _ (hr.alloc _) (hr'.alloc _) hb hn).mono ?_
    rintro e w1 ⟨rfl, b1⟩
    rw [hv]
    have B1 := bl_go (bl_alloc (Below.refl w.heap.size w) _) b1
    go_wp2
    go_ret
    exact ⟨ret_b HF.out.symm, B1⟩
end Go.Proofs.YtafmpgikdhlknaaGreat

/- Contracts: whether a list is a tiling of a simple region, and pushes of any lists, in the program. -/
namespace Go.Proofs.YtafmpgikdhlknaaGreat
open Go.RowKit

theorem tiling_parts {W T : Int} {bs : List Bool} {L : List Int} (hv : validB W T bs = true) : tilingB W T bs L = (laysB W T bs L && fullB bs L) := by
  unfold tilingB laidOkB; rw [hv, Bool.true_and]
set_option maxRecDepth 100000 in
set_option maxHeartbeats 1000000 in
theorem iTiled_any (W T : Int) (A D : Option Addr) (c d n m : Nat) (bs : List Bool) (L : List Int) (w : World) (hr : Rd w A (bs.map .bool)) (hd : Rd w D (L.map (.int .i64))) (hn : bs.length = n) (hm : L.length = m) (hnm : n ≤ maxLen) (hmm : m ≤ maxLen) :
    Calls Tryz.prog 37 #[.agg #[.int .i64 W, .int .i64 T, .slice A n c], .slice D m d] w fun e w' => e = .returned (.bool (simpB W T bs && tilingB W T bs L)) ∧ Below w.heap.size w w' := by
  have X0 := C3.new w (.int .i64 W) (.int .i64 T) (.slice A n c) 25
  have B0 := bl_alloc (Below.refl w.heap.size w) (.cells #[.int .i64 W, .int .i64 T, .slice A n c] 25)
  have CS := Lib.hid (iSimple_any W T A c n bs _ (hr.belo B0) hn hnm)
  obtain ⟨x0, x1, x2⟩ := id X0
  cases hs : simpB W T bs with
  | false =>
    rw [hs] at CS
    clear hs
    go_enter Tryz.func37, Tryz.ntmps37
    go_wp2_with fail
    refine CS.out.mono ?_
    rintro e w1 ⟨rfl, b1⟩
    clear x0 x1 x2
    go_wp2_with fail
    go_ret
    exact ⟨rfl, bl_go B0 b1⟩
  | true =>
    have hval := (simp_iff.1 hs).1
    obtain ⟨⟨w1, w6⟩, ⟨t1, t6⟩, hlen, -⟩ := validB_iff.1 hval
    have CL := Lib.hid (fun (z : World) (R : Rd z A (bs.map .bool)) (Q : Rd z D (L.map (.int .i64))) => by
      have := lays_any W T A D c d bs L z w1 w6 t1 t6 hlen R Q (by rw [hm]; exact hmm)
      rw [hn, hm] at this; exact this)
    have HP := Lib.hid (tiling_parts (L := L) hval)
    have CF := Lib.hid (fun (hl : laysB W T bs L = true) (z : World) (R : Rd z A (bs.map .bool)) (Q : Rd z D (L.map (.int .i64))) => by
      have hle : L.length = bs.length := by
        refine Classical.byContradiction fun h => ?_
        rw [laysB_len h] at hl; cases hl
      have := full_any W T A D c d bs L z hle R Q (by rw [hn]; exact hnm)
      rw [hn, hm] at this; exact this)
    rw [hs] at CS
    clear hs hval w1 w6 t1 t6 hlen
    go_enter Tryz.func37, Tryz.ntmps37
    go_wp2_with fail
    refine CS.out.mono ?_
    rintro e w1 ⟨rfl, b1⟩
    have X1 := X0.belo b1
    have B1 := bl_go B0 b1
    have C1 := Lib.hid (CL.out _ (hr.belo B1) (hd.belo B1))
    clear x0 x1 x2 X0 b1 CL CS
    obtain ⟨x0, x1, x2⟩ := id X1
    cases hl : laysB W T bs L with
    | false =>
      rw [hl] at C1
      have HF := Lib.hid (show tilingB W T bs L = false by rw [HP.out, hl]; rfl)
      clear hl
      go_wp2_with fail
      refine C1.out.mono ?_
      rintro e w2 ⟨rfl, b2⟩
      clear x0 x1 x2
      go_wp2_with fail
      go_ret
      exact ⟨ret_b (by rw [HF.out]; rfl), bl_go B1 b2⟩
    | true =>
      have CFF := Lib.hid (CF.out hl)
      rw [hl] at C1
      have HF := Lib.hid (show tilingB W T bs L = fullB bs L by rw [HP.out, hl]; rfl)
      clear hl CF
      go_wp2_with fail
      refine C1.out.mono ?_
      rintro e w2 ⟨rfl, b2⟩
      have X2 := X1.belo b2
      have B2 := bl_go B1 b2
      have C2 := Lib.hid (CFF.out _ (hr.belo B2) (hd.belo B2))
      clear x0 x1 x2 X1 b2
      obtain ⟨x0, x1, x2⟩ := id X2
      go_wp2_with fail
      refine C2.out.mono ?_
      rintro e w3 ⟨rfl, b3⟩
      clear x0 x1 x2
      go_wp2_with fail
      go_ret
      exact ⟨ret_b (by rw [HF.out]; rfl), bl_go B2 b3⟩
/-- what is pushed, or nothing -/
def PrP (n : Nat) (ok : Bool) (M : List Int) (w : World) (e : Ending) (w' : World) : Prop :=
  (ok = true ∧ M.length = n ∧ NewWI M n w e w') ∨ (ok = false ∧ e = .returned (.slice none 0 0) ∧ Below w.heap.size w w')
set_option maxRecDepth 100000 in
set_option maxHeartbeats 1000000 in
theorem iPushRun_any (W T : Int) (A D P : Option Addr) (c d n m k cp : Nat) (bs : List Bool) (L : List Int) (ps : List Pu) (w : World) (hr : Rd w A (bs.map .bool)) (hd : Rd w D (L.map (.int .i64))) (hp : RdP w P ps) (hn : bs.length = n) (hm : L.length = m) (hk : ps.length = k) (hnm : n ≤ maxLen) (hmm : m ≤ maxLen) (hkm : k ≤ maxLen) :
    Calls Tryz.prog 13 #[.agg #[.int .i64 W, .int .i64 T, .slice A n c], .slice D m d, .slice P k cp] w (PrP n (psvB W T bs ps && tilingB W T bs L) (runL W T L (psN ps)) w) := by
  have X0 := C3.new w (.int .i64 W) (.int .i64 T) (.slice A n c) 25
  have B0 := bl_alloc (Below.refl w.heap.size w) (.cells #[.int .i64 W, .int .i64 T, .slice A n c] 25)
  have CV := Lib.hid (iPushesValid_any W T A P c cp n k bs ps _ (hr.belo B0) (hp.belo B0) hn hnm hk hkm)
  obtain ⟨x0, x1, x2⟩ := id X0
  cases hv : psvB W T bs ps with
  | false =>
    rw [hv] at CV
    clear hv
    go_enter Tryz.func13, Tryz.ntmps13
    go_wp2_with fail
    refine CV.out.mono ?_
    rintro e w1 ⟨rfl, b1⟩
    have HRES := Lib.hid (show PrP n (false && tilingB W T bs L) (runL W T L (psN ps)) w (.returned (.slice none 0 0)) w1 from .inr ⟨rfl, rfl, bl_go B0 b1⟩)
    clear x0 x1 x2
    go_wp2_with fail
    go_ret
    exact HRES.out
  | true =>
    obtain ⟨hs, h128, hpv⟩ := psv_iff.1 hv
    have CT := Lib.hid (fun (z : World) (R : Rd z A (bs.map .bool)) (Q : Rd z D (L.map (.int .i64))) => iTiled_any W T A D c d n m bs L z R Q hn hm hnm hmm)
    rw [hs] at CT
    rw [hv] at CV
    have CR := Lib.hid (fun (ht : tilingB W T bs L = true) (ad : Addr) (z : World) (R : Rd z A (bs.map .bool)) (Q : Rd z (some ad) (L.map (.int .i64))) (P' : RdP z P ps) => run_any W T A P ad c d n k cp bs L ps z R Q P' hs ht hn hpv hk (by omega))
    have HLM := Lib.hid (fun (ht : tilingB W T bs L = true) => show m = n ∧ 0 < L.length ∧ (runL W T L (psN ps)).length = n from by
      obtain ⟨hval, hl, -⟩ := tiling_til ht
      obtain ⟨⟨w1, w6⟩, ⟨t1, t6⟩, hlen, -⟩ := validB_iff.1 hval
      have := (mul_bd w1 w6 t1 t6).1
      exact ⟨by omega, by omega, by rw [(tiling_til (run_til hs (psN ps) L ht)).2.1]; exact hn⟩)
    clear hs h128 hpv hv
    go_enter Tryz.func13, Tryz.ntmps13
    go_wp2_with fail
    refine CV.out.mono ?_
    rintro e w1 ⟨rfl, b1⟩
    have X1 := X0.belo b1
    have B1 := bl_go B0 b1
    have C1 := Lib.hid (CT.out _ (hr.belo B1) (hd.belo B1))
    clear x0 x1 x2 X0 b1 CT CV
    obtain ⟨x0, x1, x2⟩ := id X1
    cases ht : tilingB W T bs L with
    | false =>
      rw [ht] at C1
      have HTF := Lib.hid ht
      clear ht CR HLM
      go_wp2_with fail
      refine C1.out.mono ?_
      rintro e w2 ⟨rfl, b2⟩
      have HRES := Lib.hid (show PrP n (true && tilingB W T bs L) (runL W T L (psN ps)) w (.returned (.slice none 0 0)) w2 from .inr ⟨by rw [HTF.out]; rfl, rfl, bl_go B1 b2⟩)
      clear x0 x1 x2
      go_wp2_with fail
      go_ret
      exact HRES.out
    | true =>
      obtain ⟨hmn, h0, hrl⟩ := HLM.out ht
      have CRR := Lib.hid (CR.out ht)
      obtain ⟨ad, rfl, -⟩ := hd.atM h0
      have HRL := Lib.hid hrl
      rw [ht] at C1
      have HTF := Lib.hid ht
      clear ht CR HLM h0 hrl hm
      subst hmn
      go_wp2_with fail
      refine C1.out.mono ?_
      rintro e w2 ⟨rfl, b2⟩
      have X2 := X1.belo b2
      have B2 := bl_go B1 b2
      have C2 := Lib.hid (CRR.out ad _ (hr.belo B2) (hd.belo B2) (hp.belo B2))
      clear x0 x1 x2 X1 b2 CRR
      obtain ⟨x0, x1, x2⟩ := id X2
      go_wp2_with fail
      refine C2.out.mono ?_
      rintro e w3 ⟨g, rfl, W3, hg1, hg2, b3⟩
      have hsz := B2.size
      have HRES := Lib.hid (show PrP m (true && tilingB W T bs L) (runL W T L (psN ps)) w (.returned (.slice (some ⟨g, 0, none⟩) m m)) w3 from .inl ⟨by rw [HTF.out]; rfl, HRL.out, g, rfl, W3.lower hsz, Nat.le_trans hsz hg1, hg2, bl_go B2 b3⟩)
      clear x0 x1 x2 W3
      go_wp2_with fail
      go_ret
      exact HRES.out
end Go.Proofs.YtafmpgikdhlknaaGreat

/- Contracts: the program's PushOne, TilingOf, TilingHigh and Below. -/
namespace Go.Proofs.YtafmpgikdhlknaaGreat
open Go.RowKit

set_option maxRecDepth 100000 in
set_option maxHeartbeats 1000000 in
theorem iPushOne_any (W T : Int) (A D : Option Addr) (c d n m : Nat) (bs : List Bool) (L : List Int) (x : Int) (up : Bool) (w : World) (hr : Rd w A (bs.map .bool)) (hd : Rd w D (L.map (.int .i64))) (hn : bs.length = n) (hm : L.length = m) (hnm : n ≤ maxLen) (hmm : m ≤ maxLen) :
    Calls Tryz.prog 16 #[.agg #[.int .i64 W, .int .i64 T, .slice A n c], .slice D m d, .agg #[.int .i64 x, .bool up]] w (PrP n (psvB W T bs [(x, up)] && tilingB W T bs L) (pushL W T L (x.toNat, up)) w) := by
  have X0 := C3.new w (.int .i64 W) (.int .i64 T) (.slice A n c) 25
  have B0 := bl_alloc (Below.refl w.heap.size w) (.cells #[.int .i64 W, .int .i64 T, .slice A n c] 25)
  have hz0 : (w.alloc (.cells #[.int .i64 W, .int .i64 T, .slice A n c] 25)).heap.size = w.heap.size + 1 := by simp
  have B1 := bl_alloc B0 (.cells #[.int .i64 x, .bool up] 38)
  have X1 := X0.alloc (.cells #[.int .i64 x, .bool up] 38)
  have KN := heap_alloc_new (w.alloc (.cells #[.int .i64 W, .int .i64 T, .slice A n c] 25)) (.cells #[.int .i64 x, .bool up] 38)
  have p0 := cell_of_row _ _ 0 _ _ _ KN
  have p1 := cell_of_row _ _ 1 _ _ _ KN
  rw [hz0] at p0 p1
  have p0 : ((w.alloc (.cells #[.int .i64 W, .int .i64 T, .slice A n c] 25)).alloc (.cells #[.int .i64 x, .bool up] 38)).cell? ⟨w.heap.size + 1, 0, none⟩ = some (.int .i64 x) := p0
  have p1 : ((w.alloc (.cells #[.int .i64 W, .int .i64 T, .slice A n c] 25)).alloc (.cells #[.int .i64 x, .bool up] 38)).cell? ⟨w.heap.size + 1, 1, none⟩ = some (.bool up) := p1
  have CR := Lib.hid (fun (b : Nat) (z : World) (R : Rd z A (bs.map .bool)) (Q : Rd z D (L.map (.int .i64))) (P : RdP z (some ⟨b, 0, none⟩) [(x, up)]) => iPushRun_any W T A D (some ⟨b, 0, none⟩) c d n m 1 1 bs L [(x, up)] z R Q P hn hm rfl hnm hmm (by unfold maxLen; omega))
  have HRES := Lib.hid (fun (z z' : World) (e : Ending) (Z : Below w.heap.size w z) (h : PrP n (psvB W T bs [(x, up)] && tilingB W T bs L) (runL W T L (psN [(x, up)])) z e z') => show PrP n (psvB W T bs [(x, up)] && tilingB W T bs L) (pushL W T L (x.toNat, up)) w e z' from by
    have hp : runL W T L (psN [(x, up)]) = pushL W T L (x.toNat, up) := rfl
    rw [hp] at h
    rcases h with ⟨h1, h2, g, he, hW, hg1, hg2, hb⟩ | ⟨h1, he, hb⟩
    · exact .inl ⟨h1, h2, g, he, hW.lower Z.size, Nat.le_trans Z.size hg1, hg2, bl_go Z hb⟩
    · exact .inr ⟨h1, he, bl_go Z hb⟩)
  have r1 := hr.belo B1
  have d1 := hd.belo B1
  have hu : (w.alloc (.cells #[.int .i64 W, .int .i64 T, .slice A n c] 25)).heap.size + 1 = ((w.alloc (.cells #[.int .i64 W, .int .i64 T, .slice A n c] 25)).alloc (.cells #[.int .i64 x, .bool up] 38)).heap.size := by simp
  obtain ⟨x0, x1, x2⟩ := id X1
  clear KN X0 B0 hr hd hn hm hnm hmm
  go_enter Tryz.func16, Tryz.ntmps16
  go_wp2_with fail
  have B2 := bl_alloc B1 (.cells #[.int .i64 x, .bool up] 38)
  have KN := heap_alloc_new ((w.alloc (.cells #[.int .i64 W, .int .i64 T, .slice A n c] 25)).alloc (.cells #[.int .i64 x, .bool up] 38)) (.cells #[.int .i64 x, .bool up] 38)
  have q0 := cell_of_row _ _ 0 _ _ _ KN
  have q1 := cell_of_row _ _ 1 _ _ _ KN
  rw [← hu, hz0] at q0 q1
  have RP : RdP (((w.alloc (.cells #[.int .i64 W, .int .i64 T, .slice A n c] 25)).alloc (.cells #[.int .i64 x, .bool up] 38)).alloc (.cells #[.int .i64 x, .bool up] 38)) (some ⟨w.heap.size + 1 + 1, 0, none⟩) [(x, up)] := fun _ => ⟨_, rfl, fun j u hu => by
    match j, hu with
    | 0, hu => injection hu with hu; subst hu; rw [add_off]; exact q0
    | 1, hu => injection hu with hu; subst hu; rw [add_off]; exact q1⟩
  have be := bl_alloc (Below.refl _ ((w.alloc (.cells #[.int .i64 W, .int .i64 T, .slice A n c] 25)).alloc (.cells #[.int .i64 x, .bool up] 38))) (.cells #[.int .i64 x, .bool up] 38)
  refine (CR.out _ _ (r1.belo be) (d1.belo be) RP).mono ?_
  intro e w5 h5
  have HR := Lib.hid (HRES.out _ _ _ B2 h5)
  clear x0 x1 x2 p0 p1 q0 q1
  rcases h5 with ⟨-, -, g, rfl, -⟩ | ⟨-, rfl, -⟩
  · go_wp2_with fail
    go_ret
    exact HR.out
  · go_wp2_with fail
    go_ret
    exact HR.out
set_option maxRecDepth 100000 in
set_option maxHeartbeats 1000000 in
theorem iTilingOf_any (W T : Int) (A : Option Addr) (c n k : Nat) (bs : List Bool) (w : World) (hr : Rd w A (bs.map .bool)) (hv : validB W T bs = true) (hn : bs.length = n) (hk : k < (tlsV W T bs).length) :
    Calls Tryz.prog 18 #[.agg #[.int .i64 W, .int .i64 T, .slice A n c], .int .i64 (k : Int)] w fun e w' => ∃ (D : Option Addr) (d : Nat) (M : List Int), e = .returned (.tuple #[.slice D n d, .bool true]) ∧ tilingB W T bs M = true ∧ Rd w' D (M.map (.int .i64)) ∧ Below w.heap.size w w' := by
  obtain ⟨⟨w1, w6⟩, ⟨t1, t6⟩, hlen, -⟩ := validB_iff.1 hv
  have hf : FldF W T n := ⟨w1, w6, t1, t6, by rw [← hn]; exact hlen⟩
  have n36 : n ≤ 36 := hf.bd
  have X0 := C3.new w (.int .i64 W) (.int .i64 T) (.slice A n c) 25
  have B0 := bl_alloc (Below.refl w.heap.size w) (.cells #[.int .i64 W, .int .i64 T, .slice A n c] 25)
  have r0 := hr.belo B0
  have CV := Lib.hid (by have := iRegionValid_any W T A c bs _ r0 (by rw [hn]; unfold maxLen; omega); rw [hv, hn] at this; exact this)
  have CT := Lib.hid (fun (z : World) (R : Rd z A (bs.map .bool)) => tilings_any W T A c n bs z R hf hn)
  have HT := Lib.hid (fun (t : List Int) (ht : t ∈ tlsV W T bs) => (tlsV_mem hv).1 ht)
  have HLN := Lib.hid (fun (t : List Int) (ht : t ∈ tlsV W T bs) => show t.length = n by rw [← hn]; exact (tiling_til ((tlsV_mem hv).1 ht)).2.1)
  have hlen2 : (tlsV W T bs).length ≤ 100000000000 := by
    have h1 := tlsF_len W T bs bs.length (List.replicate bs.length 0)
    have h2 : 2 ^ bs.length ≤ 2 ^ 36 := Nat.pow_le_pow_right (by omega) (by omega)
    unfold tlsV
    omega
  generalize tlsV W T bs = ts at *
  have CI := Lib.hid (fun (z : World) => by have := in_any (k : Int) 0 ((ts.length : Int) - 1) z; rw [inB_t (by omega) (by omega)] at this; exact this)
  have hkI : (k : Int) < (ts.length : Int) := by omega
  obtain ⟨x0, x1, x2⟩ := id X0
  clear hv hn hf hlen hr w1 w6 t1 t6
  go_enter Tryz.func18, Tryz.ntmps18
  go_wp2_with fail
  refine CV.out.mono ?_
  rintro e w2 ⟨rfl, b2⟩
  have X2 := X0.belo b2
  have R2 := r0.belo b2
  have B2 := bl_go B0 b2
  clear x0 x1 x2 X0 r0 B0 b2 CV
  obtain ⟨x0, x1, x2⟩ := id X2
  go_wp2_with fail
  refine (CT.out _ R2).mono ?_
  rintro e w3 ⟨A3, c3, rfl, hc3, R3, b3⟩
  have B3 := bl_go B2 b3
  obtain ⟨b, off, Bx, cB, rfl, hcell, -, -, RB⟩ := R3.at_ hk
  rw [HLN.out _ (List.getElem_mem hk)] at hcell
  have HTK := Lib.hid (HT.out _ (List.getElem_mem hk))
  have HRES := Lib.hid (show ∃ (D : Option Addr) (d : Nat) (M : List Int), Ending.returned (.tuple #[.slice Bx n cB, .bool true]) = .returned (.tuple #[.slice D n d, .bool true]) ∧ tilingB W T bs M = true ∧ Rd w3 D (M.map (.int .i64)) ∧ Below w.heap.size w w3 from ⟨Bx, cB, ts[k], rfl, HTK.out, RB, B3⟩)
  clear x0 x1 x2 X2 R2 CT R3 RB
  go_wp2_with (go_at_call 42; refine (CI.out _).mono ?_; rintro e w' ⟨rfl, rfl⟩)
  go_ret2
  exact HRES.out
/-- the tiling of the greater heights -/
noncomputable def topL (W T : Int) (bs : List Bool) (L M : List Int) : List Int := tilH W T bs (pickL max (hgtV W T bs L) (hgtV W T bs M))
theorem top_good {W T : Int} {bs : List Bool} (hs : simpB W T bs = true) {L M : List Int} (hL : tilingB W T bs L = true) (hM : tilingB W T bs M = true) : tilingB W T bs (topL W T bs L M) = true ∧ leH W T bs (hgtV W T bs L) (hgtV W T bs (topL W T bs L M)) := by
  have gL := hgtV_good hs hL
  have gM := hgtV_good hs hM
  have g := good_max hs gL gM
  unfold topL
  refine ⟨tilH_til hs g, fun x y hc => ?_⟩
  rw [hgt_tilH hs g, hL_pick (valid_fld (simp_iff.1 hs).1) gL.len gM.len (by decide)]
  omega
theorem le_pick {W T : Int} {bs : List Bool} (hs : simpB W T bs = true) {L M : List Int} (hL : tilingB W T bs L = true) (hM : tilingB W T bs M = true) (h : leH W T bs (hgtV W T bs L) (hgtV W T bs M)) : hgtV W T bs L = pickL min (hgtV W T bs L) (hgtV W T bs M) := by
  have gL := hgtV_good hs hL
  have gM := hgtV_good hs hM
  have hf := valid_fld (simp_iff.1 hs).1
  refine gL.ext hf (good_min hs gL gM) fun x y hc => ?_
  rw [hL_pick hf gL.len gM.len (by decide)]
  have := h x y hc
  omega
set_option maxRecDepth 100000 in
set_option maxHeartbeats 2000000 in
theorem bound_max (W T : Int) (A D E : Option Addr) (c d e9 n : Nat) (bs : List Bool) (L M : List Int) (w : World) (hr : Rd w A (bs.map .bool)) (hd : Rd w D (L.map (.int .i64))) (he : Rd w E (M.map (.int .i64))) (hs : simpB W T bs = true) (hL : tilingB W T bs L = true) (hM : tilingB W T bs M = true) (hn : bs.length = n) :
    Calls Tryz.prog 52 #[.agg #[.int .i64 W, .int .i64 T, .slice A n c], .slice D n d, .slice E n e9, .func (.func 53) #[] #[]] w fun e w' => ∃ g : Nat, e = .returned (.tuple #[.slice (some ⟨g, 0, none⟩) n n, .bool true]) ∧ Rd w' (some ⟨g, 0, none⟩) ((topL W T bs L M).map (.int .i64)) ∧ Below w.heap.size w w' := by
  obtain ⟨hval, hlL, -⟩ := tiling_til hL
  obtain ⟨-, hlM, -⟩ := tiling_til hM
  obtain ⟨⟨w1, w6⟩, ⟨t1, t6⟩, hlen, -⟩ := validB_iff.1 hval
  have hf : FldF W T n := ⟨w1, w6, t1, t6, by rw [← hn]; exact hlen⟩
  have n36 : n ≤ 36 := hf.bd
  obtain ⟨-, hN1, hN49⟩ := nc_bd hf
  have X0 := C3.new w (.int .i64 W) (.int .i64 T) (.slice A n c) 25
  have B0 := bl_alloc (Below.refl w.heap.size w) (.cells #[.int .i64 W, .int .i64 T, .slice A n c] 25)
  have r0 := hr.belo B0
  have d0 := hd.belo B0
  have e0 := he.belo B0
  have C1 := Lib.hid (fun (z : World) (R : Rd z A (bs.map .bool)) (Q : Rd z D (L.map (.int .i64))) => show Calls Tryz.prog 37 #[.agg #[.int .i64 W, .int .i64 T, .slice A n c], .slice D n d] z (fun e w' => e = .returned (.bool true) ∧ Below z.heap.size z w') from by
    have := iTiled_any W T A D c d n n bs L z R Q hn (by omega) (by unfold maxLen; omega) (by unfold maxLen; omega)
    rw [hs, hL] at this
    exact this)
  have C2 := Lib.hid (fun (z : World) (R : Rd z A (bs.map .bool)) (Q : Rd z E (M.map (.int .i64))) => show Calls Tryz.prog 37 #[.agg #[.int .i64 W, .int .i64 T, .slice A n c], .slice E n e9] z (fun e w' => e = .returned (.bool true) ∧ Below z.heap.size z w') from by
    have := iTiled_any W T A E c e9 n n bs M z R Q hn (by omega) (by unfold maxLen; omega) (by unfold maxLen; omega)
    rw [hs, hM] at this
    exact this)
  have gL := hgtV_good hs hL
  have gM := hgtV_good hs hM
  have gX := good_max hs gL gM
  have H1 := Lib.hid (fun (z : World) (R : Rd z A (bs.map .bool)) (Q : Rd z D (L.map (.int .i64))) => heights_any W T A D c d n bs L z R Q hs hL hn)
  have H2 := Lib.hid (fun (z : World) (R : Rd z A (bs.map .bool)) (Q : Rd z E (M.map (.int .i64))) => heights_any W T A E c e9 n bs M z R Q hs hM hn)
  have H3 := Lib.hid (fun (a b : Nat) (z : World) (R : Rd z (some ⟨a, 0, none⟩) ((hgtV W T bs L).map (.int .i64))) (Q : Rd z (some ⟨b, 0, none⟩) ((hgtV W T bs M).map (.int .i64))) => pick_max (some ⟨a, 0, none⟩) (some ⟨b, 0, none⟩) (ncN W T) (ncN W T) (ncN W T) _ _ z R Q gL.len gM.len hN1 (by omega))
  have H4 := Lib.hid (fun (a : Nat) (z : World) (R : Rd z A (bs.map .bool)) (Q : Rd z (some ⟨a, 0, none⟩) ((pickL max (hgtV W T bs L) (hgtV W T bs M)).map (.int .i64))) => by_any W T A (some ⟨a, 0, none⟩) c (ncN W T) n bs _ z R Q hs gX hn)
  have HT := Lib.hid (show tilH W T bs (pickL max (hgtV W T bs L) (hgtV W T bs M)) = topL W T bs L M from rfl)
  obtain ⟨N, hN⟩ : ∃ N, ncN W T = N := ⟨_, rfl⟩
  rw [hN] at H1 H2 H3 H4
  obtain ⟨x0, x1, x2⟩ := id X0
  clear gL gM gX hN hN1 hN49 hlen hf hval hlL hlM hL hM hs hr hd he hn w1 w6 t1 t6
  go_enter Tryz.func52, Tryz.ntmps52
  go_wp2_with fail
  generalize w.alloc (.cells #[.int .i64 W, .int .i64 T, .slice A n c] 25) = u at *
  refine (C1.out _ r0 d0).mono ?_
  rintro e w2 ⟨rfl, b2⟩
  have X2 := X0.belo b2
  have r2 := r0.belo b2
  have d2 := d0.belo b2
  have e2 := e0.belo b2
  have B2 := bl_go B0 b2
  clear x0 x1 x2 X0 r0 d0 e0 B0 b2 C1
  obtain ⟨x0, x1, x2⟩ := id X2
  go_wp2_with fail
  refine (C2.out _ r2 e2).mono ?_
  rintro e w3 ⟨rfl, b3⟩
  have X3 := X2.belo b3
  have r3 := r2.belo b3
  have d3 := d2.belo b3
  have e3 := e2.belo b3
  have B3 := bl_go B2 b3
  clear x0 x1 x2 X2 r2 d2 e2 B2 b3 C2
  obtain ⟨x0, x1, x2⟩ := id X3
  have KS := Lib.hid (fun (z : World) (Z : Below w3.heap.size w3 z) => show z.cell? ⟨w.heap.size, 0, none⟩ = some (.int .i64 W) ∧ z.cell? ⟨w.heap.size, 1, none⟩ = some (.int .i64 T) ∧ z.cell? ⟨w.heap.size, 2, none⟩ = some (.slice A n c) from X3.belo Z)
  have Z0 : Below w3.heap.size w3 w3.drew := (Below.refl _ _).drew
  have G1 := Lib.hid (H1.out _ (r3.belo Z0) (d3.belo Z0))
  have G2 := Lib.hid (fun (z : World) (Z : Below w3.heap.size w3 z) => H2.out z (r3.belo Z) (e3.belo Z))
  have G4 := Lib.hid (fun (a : Nat) (z : World) (Z : Below w3.heap.size w3 z) Q => H4.out a z (r3.belo Z) Q)
  clear H1 H2 H4
  go_upto_region 3 with fail
  go_region_held3 (fun w' => w'.cell? ⟨w.heap.size, 0, none⟩ = some (.int .i64 W) ∧ w'.cell? ⟨w.heap.size, 1, none⟩ = some (.int .i64 T) ∧ w'.cell? ⟨w.heap.size, 2, none⟩ = some (.slice A n c))
    (first | (with_reducible exact KS.out _ Z7) | (with_reducible exact KS.out _ Z6) | (with_reducible exact KS.out _ Z5) | (with_reducible exact KS.out _ Z4) | (with_reducible exact KS.out _ Z0) | (with_reducible exact ⟨x0, x1, x2⟩) | go_keep)
    (first
    | (go_at_call 56; first
      | ((with_reducible refine G1.out.mono ?_); rintro e w4 ⟨g4, rfl, W4, hg4, hgs4, b4⟩; have Z4 := Z0.trans (b4.mono Z0.size); have R4 := W4.rd)
      | ((with_reducible refine (G2.out _ Z4).mono ?_); rintro e w5 ⟨g5, rfl, W5, hg5, hgs5, b5⟩; have Z5 := Z4.trans (b5.mono Z4.size); have R5 := W5.rd; have R45 := R4.belo b5))
    | (go_at_call 58; (with_reducible refine (H3.out _ _ _ R45 R5).mono ?_); rintro e w6 ⟨g6, rfl, W6, hg6, hgs6, b6⟩; have Z6 := Z5.trans (b6.mono Z5.size); have R6 := W6.rd)
    | (go_at_call 93; (with_reducible refine (G4.out _ _ Z6 R6).mono ?_); rintro e w7 ⟨g7, rfl, W7, hg7, hgs7, b7⟩; have Z7 := Z6.trans (b7.mono Z6.size); have R7 := W7.rd))
  rw [HT.out] at R7
  have HRES := Lib.hid (show ∃ g : Nat, Ending.returned (.tuple #[.slice (some ⟨g7, 0, none⟩) n n, .bool true]) = .returned (.tuple #[.slice (some ⟨g, 0, none⟩) n n, .bool true]) ∧ Rd w7 (some ⟨g, 0, none⟩) ((topL W T bs L M).map (.int .i64)) ∧ Below w.heap.size w w7 from ⟨g7, rfl, R7, bl_go B3 Z7⟩)
  clear R7 R6 R45 R5 R4 W7 W6 W5 W4 x0 x1 x2
  go_wp2_with fail
  go_ret2
  exact HRES.out
set_option maxRecDepth 100000 in
set_option maxHeartbeats 1000000 in
theorem iTilingHigh_any (W T : Int) (A D E : Option Addr) (c d e9 n : Nat) (bs : List Bool) (L M : List Int) (w : World) (hr : Rd w A (bs.map .bool)) (hd : Rd w D (L.map (.int .i64))) (he : Rd w E (M.map (.int .i64))) (hs : simpB W T bs = true) (hL : tilingB W T bs L = true) (hM : tilingB W T bs M = true) (hn : bs.length = n) :
    Calls Tryz.prog 20 #[.agg #[.int .i64 W, .int .i64 T, .slice A n c], .slice D n d, .slice E n e9] w fun e w' => ∃ g : Nat, e = .returned (.tuple #[.slice (some ⟨g, 0, none⟩) n n, .bool true]) ∧ Rd w' (some ⟨g, 0, none⟩) ((topL W T bs L M).map (.int .i64)) ∧ Below w.heap.size w w' := by
  have X0 := C3.new w (.int .i64 W) (.int .i64 T) (.slice A n c) 25
  have B0 := bl_alloc (Below.refl w.heap.size w) (.cells #[.int .i64 W, .int .i64 T, .slice A n c] 25)
  have CB := Lib.hid (bound_max W T A D E c d e9 n bs L M _ (hr.belo B0) (hd.belo B0) (he.belo B0) hs hL hM hn)
  obtain ⟨x0, x1, x2⟩ := id X0
  clear hs hL hM hn
  go_enter Tryz.func20, Tryz.ntmps20
  go_wp2_with fail
  refine CB.out.mono ?_
  rintro e w2 ⟨g, rfl, R2, b2⟩
  have HRES := Lib.hid (show ∃ g' : Nat, Ending.returned (.tuple #[.slice (some ⟨g, 0, none⟩) n n, .bool true]) = .returned (.tuple #[.slice (some ⟨g', 0, none⟩) n n, .bool true]) ∧ Rd w2 (some ⟨g', 0, none⟩) ((topL W T bs L M).map (.int .i64)) ∧ Below w.heap.size w w2 from ⟨g, rfl, R2, bl_go B0 b2⟩)
  clear x0 x1 x2 R2
  go_wp2_with fail
  go_ret2
  exact HRES.out
set_option maxRecDepth 100000 in
set_option maxHeartbeats 2000000 in
theorem iBelow_t (W T : Int) (A D E : Option Addr) (c d e9 n : Nat) (bs : List Bool) (L M : List Int) (w : World) (hr : Rd w A (bs.map .bool)) (hd : Rd w D (L.map (.int .i64))) (he : Rd w E (M.map (.int .i64))) (hs : simpB W T bs = true) (hL : tilingB W T bs L = true) (hM : tilingB W T bs M = true) (hle : leH W T bs (hgtV W T bs L) (hgtV W T bs M)) (hn : bs.length = n) :
    Calls Tryz.prog 22 #[.agg #[.int .i64 W, .int .i64 T, .slice A n c], .slice D n d, .slice E n e9] w fun e w' => e = .returned (.bool true) ∧ Below w.heap.size w w' := by
  obtain ⟨hval, hlL, -⟩ := tiling_til hL
  obtain ⟨-, hlM, -⟩ := tiling_til hM
  obtain ⟨⟨w1, w6⟩, ⟨t1, t6⟩, hlen, -⟩ := validB_iff.1 hval
  have hf : FldF W T n := ⟨w1, w6, t1, t6, by rw [← hn]; exact hlen⟩
  have n36 : n ≤ 36 := hf.bd
  obtain ⟨-, hN1, hN49⟩ := nc_bd hf
  have X0 := C3.new w (.int .i64 W) (.int .i64 T) (.slice A n c) 25
  have B0 := bl_alloc (Below.refl w.heap.size w) (.cells #[.int .i64 W, .int .i64 T, .slice A n c] 25)
  have r0 := hr.belo B0
  have d0 := hd.belo B0
  have e0 := he.belo B0
  have C1 := Lib.hid (fun (z : World) (R : Rd z A (bs.map .bool)) (Q : Rd z D (L.map (.int .i64))) => show Calls Tryz.prog 37 #[.agg #[.int .i64 W, .int .i64 T, .slice A n c], .slice D n d] z (fun e w' => e = .returned (.bool true) ∧ Below z.heap.size z w') from by
    have := iTiled_any W T A D c d n n bs L z R Q hn (by omega) (by unfold maxLen; omega) (by unfold maxLen; omega)
    rw [hs, hL] at this
    exact this)
  have C2 := Lib.hid (fun (z : World) (R : Rd z A (bs.map .bool)) (Q : Rd z E (M.map (.int .i64))) => show Calls Tryz.prog 37 #[.agg #[.int .i64 W, .int .i64 T, .slice A n c], .slice E n e9] z (fun e w' => e = .returned (.bool true) ∧ Below z.heap.size z w') from by
    have := iTiled_any W T A E c e9 n n bs M z R Q hn (by omega) (by unfold maxLen; omega) (by unfold maxLen; omega)
    rw [hs, hM] at this
    exact this)
  have gL := hgtV_good hs hL
  have gM := hgtV_good hs hM
  have gX := good_min hs gL gM
  have H1 := Lib.hid (fun (z : World) (R : Rd z A (bs.map .bool)) (Q : Rd z D (L.map (.int .i64))) => heights_any W T A D c d n bs L z R Q hs hL hn)
  have H2 := Lib.hid (fun (z : World) (R : Rd z A (bs.map .bool)) (Q : Rd z E (M.map (.int .i64))) => heights_any W T A E c e9 n bs M z R Q hs hM hn)
  have H3 := Lib.hid (fun (a b : Nat) (z : World) (R : Rd z (some ⟨a, 0, none⟩) ((hgtV W T bs L).map (.int .i64))) (Q : Rd z (some ⟨b, 0, none⟩) ((hgtV W T bs M).map (.int .i64))) => pick_min (some ⟨a, 0, none⟩) (some ⟨b, 0, none⟩) (ncN W T) (ncN W T) (ncN W T) _ _ z R Q gL.len gM.len hN1 (by omega))
  have H4 := Lib.hid (fun (a b : Nat) (z : World) (R : Rd z (some ⟨a, 0, none⟩) ((hgtV W T bs L).map (.int .i64))) (Q : Rd z (some ⟨b, 0, none⟩) ((pickL min (hgtV W T bs L) (hgtV W T bs M)).map (.int .i64))) => by
    have := equalI_any (some ⟨a, 0, none⟩) (some ⟨b, 0, none⟩) (ncN W T) (ncN W T) (ncN W T) _ _ z R Q (by omega) gL.len gX.len
    rw [decide_eq_true (le_pick hs hL hM hle)] at this
    exact this)
  obtain ⟨N, hN⟩ : ∃ N, ncN W T = N := ⟨_, rfl⟩
  rw [hN] at H1 H2 H3 H4
  obtain ⟨x0, x1, x2⟩ := id X0
  clear gL gM gX hN hN1 hN49 hlen hf hval hlL hlM hL hM hs hr hd he hn hle w1 w6 t1 t6
  go_enter Tryz.func22, Tryz.ntmps22
  go_wp2_with fail
  generalize w.alloc (.cells #[.int .i64 W, .int .i64 T, .slice A n c] 25) = u at *
  refine (C1.out _ r0 d0).mono ?_
  rintro e w2 ⟨rfl, b2⟩
  have X2 := X0.belo b2
  have r2 := r0.belo b2
  have d2 := d0.belo b2
  have e2 := e0.belo b2
  have B2 := bl_go B0 b2
  clear x0 x1 x2 X0 r0 d0 e0 B0 b2 C1
  obtain ⟨x0, x1, x2⟩ := id X2
  go_wp2_with fail
  refine (C2.out _ r2 e2).mono ?_
  rintro e w3 ⟨rfl, b3⟩
  have X3 := X2.belo b3
  have r3 := r2.belo b3
  have d3 := d2.belo b3
  have e3 := e2.belo b3
  have B3 := bl_go B2 b3
  clear x0 x1 x2 X2 r2 d2 e2 B2 b3 C2
  obtain ⟨x0, x1, x2⟩ := id X3
  go_wp2_with fail
  refine (H1.out _ r3 d3).mono ?_
  rintro e w4 ⟨g4, rfl, W4, hg4, hgs4, b4⟩
  have X4 := X3.belo b4
  have r4 := r3.belo b4
  have e4 := e3.belo b4
  have B4 := bl_go B3 b4
  have R4 := W4.rd
  clear x0 x1 x2 X3 r3 d3 e3 B3 b4 H1 W4
  obtain ⟨x0, x1, x2⟩ := id X4
  go_wp2_with fail
  refine (H2.out _ r4 e4).mono ?_
  rintro e w5 ⟨g5, rfl, W5, hg5, hgs5, b5⟩
  have B5 := bl_go B4 b5
  have R5 := W5.rd
  have R45 := R4.belo b5
  clear x0 x1 x2 X4 r4 e4 B4 H2 W5 R4
  go_wp2_with fail
  refine (H3.out _ _ _ R45 R5).mono ?_
  rintro e w6 ⟨g6, rfl, W6, hg6, hgs6, b6⟩
  have B6 := bl_go B5 b6
  have R6 := W6.rd
  have R46 := R45.belo b6
  clear B5 H3 W6 R45 R5
  go_wp2_with fail
  refine (H4.out _ _ _ R46 R6).mono ?_
  rintro e w7 ⟨rfl, q, rfl⟩
  clear R46 R6
  go_wp2_with fail
  go_ret
  exact ⟨rfl, below_drewN' B6 q⟩
end Go.Proofs.YtafmpgikdhlknaaGreat

/- Contract: the reference's PushOne for any list. -/
namespace Go.Proofs.YtafmpgikdhlknaaGreat
open Go.RowKit

/-- what is pushed, or an empty list -/
def PsP (n : Nat) (ok : Bool) (M : List Int) (w : World) (e : Ending) (w' : World) : Prop :=
  (ok = true ∧ M.length = n ∧ ∃ (D : Option Addr) (d : Nat), e = .returned (.slice D n d) ∧ Rd w' D (M.map (.int .i64)) ∧ Below w.heap.size w w') ∨ (ok = false ∧ ∃ (D : Option Addr) (d : Nat), e = .returned (.slice D 0 d) ∧ Below w.heap.size w w')
set_option maxRecDepth 100000 in
set_option maxHeartbeats 1000000 in
theorem sPushOneX_any (W T : Int) (A D : Option Addr) (c d n m : Nat) (bs : List Bool) (L : List Int) (x : Int) (up : Bool) (w : World) (hr : Rd w A (bs.map .bool)) (hd : Rd w D (L.map (.int .i64))) (hn : bs.length = n) (hm : L.length = m) (hnm : n ≤ maxLen) (hmm : m ≤ maxLen) :
    Calls Tryz.prog 17 #[.agg #[.int .i64 W, .int .i64 T, .slice A n c], .slice D m d, .agg #[.int .i64 x, .bool up]] w (PsP n (psvB W T bs [(x, up)] && tilingB W T bs L) (pushL W T L (x.toNat, up)) w) := by
  have X0 := C3.new w (.int .i64 W) (.int .i64 T) (.slice A n c) 25
  have B0 := bl_alloc (Below.refl w.heap.size w) (.cells #[.int .i64 W, .int .i64 T, .slice A n c] 25)
  have hz0 : (w.alloc (.cells #[.int .i64 W, .int .i64 T, .slice A n c] 25)).heap.size = w.heap.size + 1 := by simp
  have B1 := bl_alloc B0 (.cells #[.int .i64 x, .bool up] 38)
  have X1 := X0.alloc (.cells #[.int .i64 x, .bool up] 38)
  have KN := heap_alloc_new (w.alloc (.cells #[.int .i64 W, .int .i64 T, .slice A n c] 25)) (.cells #[.int .i64 x, .bool up] 38)
  have p0 := cell_of_row _ _ 0 _ _ _ KN
  have p1 := cell_of_row _ _ 1 _ _ _ KN
  rw [hz0] at p0 p1
  have p0 : ((w.alloc (.cells #[.int .i64 W, .int .i64 T, .slice A n c] 25)).alloc (.cells #[.int .i64 x, .bool up] 38)).cell? ⟨w.heap.size + 1, 0, none⟩ = some (.int .i64 x) := p0
  have p1 : ((w.alloc (.cells #[.int .i64 W, .int .i64 T, .slice A n c] 25)).alloc (.cells #[.int .i64 x, .bool up] 38)).cell? ⟨w.heap.size + 1, 1, none⟩ = some (.bool up) := p1
  have CT := Lib.hid (sTilingOk_any W T A D c d n m bs L _ (hr.belo B1) (hd.belo B1) hn hnm hm hmm)
  have r1 := hr.belo B1
  cases ht : tilingB W T bs L with
  | false =>
    have HEND := Lib.hid (fun (z : World) (Z : Below w.heap.size w z) => show PsP n (psvB W T bs [(x, up)] && false) (pushL W T L (x.toNat, up)) w (.returned (.slice (some ⟨z.heap.size, 0, none⟩) 0 0)) (z.alloc (.cells #[] 3)) from .inr ⟨by simp, _, _, rfl, bl_alloc Z _⟩)
    rw [ht] at CT
    obtain ⟨x0, x1, x2⟩ := id X1
    clear KN X0 B0 ht
    go_enter Tryz.func17, Tryz.ntmps17
    go_wp2_with fail
    refine CT.out.mono ?_
    rintro e w2 ⟨rfl, b2⟩
    have HE := Lib.hid (HEND.out _ (bl_go B1 b2))
    clear x0 x1 x2 p0 p1
    go_wp2_with fail
    go_ret
    exact HE.out
  | true =>
    cases hp : psvB W T bs [(x, up)] with
    | true =>
      obtain ⟨hs, -, hv⟩ := psv_iff.1 hp
      obtain ⟨h1, h2⟩ := hv (x, up) (by simp)
      simp only at h1 h2
      obtain ⟨v, rfl⟩ := Int.eq_ofNat_of_zero_le h1
      have hl := (tiling_til ht).2.1
      obtain rfl : m = n := by omega
      have hpl : (pushL W T L (v, up)).length = m := by
        have h3 := (push_hgt hs ht (v, up)).1
        rw [(tiling_til h3).2.1]; exact hn
      refine (pushOneS_any W T A D c d m bs L v up w hr hd hs ht hn (by omega)).mono fun e w' h => ?_
      obtain ⟨D', d', he, hR, hb⟩ := h
      rw [Int.toNat_natCast]
      exact .inl ⟨rfl, hpl, D', d', he, hR, hb⟩
    | false =>
      have HEND := Lib.hid (fun (z : World) (Z : Below w.heap.size w z) => show PsP n (false && true) (pushL W T L (x.toNat, up)) w (.returned (.slice (some ⟨z.heap.size, 0, none⟩) 0 0)) (z.alloc (.cells #[] 3)) from .inr ⟨rfl, _, _, rfl, bl_alloc Z _⟩)
      have CP := Lib.hid (fun (b : Nat) (z : World) (R : Rd z A (bs.map .bool)) (Q : RdP z (some ⟨b, 0, none⟩) [(x, up)]) => by
        have := sPushesValid_any W T A (some ⟨b, 0, none⟩) c 1 n 1 bs [(x, up)] z R Q hn hnm rfl (by unfold maxLen; omega)
        rw [hp] at this; exact this)
      rw [ht] at CT
      have hwl : w.heap.size + 2 ≤ ((w.alloc (.cells #[.int .i64 W, .int .i64 T, .slice A n c] 25)).alloc (.cells #[.int .i64 x, .bool up] 38)).heap.size := by simp
      obtain ⟨x0, x1, x2⟩ := id X1
      clear KN X0 B0 ht hp
      go_enter Tryz.func17, Tryz.ntmps17
      go_wp2_with fail
      generalize (w.alloc (.cells #[.int .i64 W, .int .i64 T, .slice A n c] 25)).alloc (.cells #[.int .i64 x, .bool up] 38) = u at *
      refine CT.out.mono ?_
      rintro e w2 ⟨rfl, b2⟩
      have X2 := X1.belo b2
      have R2 := r1.belo b2
      have B2 := bl_go B1 b2
      have c0 := (b2.cell (World.block_lt_of_cell? u _ p0)).trans p0
      have c1 := (b2.cell (World.block_lt_of_cell? u _ p1)).trans p1
      have KN := heap_alloc_new w2 (.cells #[.int .i64 x, .bool up] 38)
      have be := bl_alloc (Below.refl w2.heap.size w2) (.cells #[.int .i64 x, .bool up] 38)
      have CPP := Lib.hid (CP.out w2.heap.size _ (R2.belo be) (RdP.one (cell_of_row _ _ 0 _ _ _ KN) (cell_of_row _ _ 1 _ _ _ KN)))
      have B3 := bl_go B2 be
      clear x0 x1 x2 p0 p1 X1 r1 B1 b2 CT KN CP R2
      obtain ⟨x0, x1, x2⟩ := id X2
      go_wp2_with fail
      refine CPP.out.mono ?_
      rintro e w4 ⟨rfl, b4⟩
      have HE := Lib.hid (HEND.out _ (bl_go B3 b4))
      clear x0 x1 x2 c0 c1 X2
      go_wp2_with fail
      go_ret
      exact HE.out
end Go.Proofs.YtafmpgikdhlknaaGreat

/- Lists of numbers, each in a block of its own. -/
namespace Go.Proofs.YtafmpgikdhlknaaGreat
open Go.RowKit

def RowsI (w : World) (lo : Nat) (xs : List Value) (L : List (List Int)) : Prop :=
  xs.length = L.length ∧ ∀ k (h : k < L.length), ∃ gk nk, xs[k]? = some (.slice (some ⟨gk, 0, none⟩) nk nk) ∧ L[k].length = nk ∧ Wr w lo 3 (some ⟨gk, 0, none⟩) (L[k].map (.int .i64)) ∧ gk < w.heap.size ∧ ∀ j, j < k → ∀ gj n c, xs[j]? = some (.slice (some ⟨gj, 0, none⟩) n c) → gj < gk
theorem RowsI.nil (w : World) (lo : Nat) : RowsI w lo [] [] := ⟨rfl, fun k h => by simp at h⟩
theorem RowsI.keep {w w' : World} {lo : Nat} {xs : List Value} {L : List (List Int)} (h : RowsI w lo xs L) (hs : w.heap.size ≤ w'.heap.size) (hk : ∀ b, AtL xs b → w'.heap[b]? = w.heap[b]?) : RowsI w' lo xs L :=
  ⟨h.1, fun k hkl => by
    obtain ⟨gk, nk, a1, a2, a3, a4, a5⟩ := h.2 k hkl
    exact ⟨gk, nk, a1, a2, a3.keep (fun q hq _ => by injection hq with hq; injection hq with hq; subst hq; exact hk gk ⟨k, _, _, _, a1, rfl⟩), Nat.lt_of_lt_of_le a4 hs, a5⟩⟩
theorem RowsI.belo {w w' : World} {lo : Nat} {xs : List Value} {L : List (List Int)} (h : RowsI w lo xs L) (hb : Below w.heap.size w w') : RowsI w' lo xs L :=
  ⟨h.1, fun k hkl => by
    obtain ⟨gk, nk, a1, a2, a3, a4, a5⟩ := h.2 k hkl
    exact ⟨gk, nk, a1, a2, a3.belo hb, Nat.lt_of_lt_of_le a4 hb.size, a5⟩⟩
theorem RowsI.lower {w : World} {lo lo' : Nat} {xs : List Value} {L : List (List Int)} (h : RowsI w lo xs L) (hl : lo' ≤ lo) : RowsI w lo' xs L :=
  ⟨h.1, fun k hkl => by
    obtain ⟨gk, nk, a1, a2, a3, a4, a5⟩ := h.2 k hkl
    exact ⟨gk, nk, a1, a2, a3.lower hl, a4, a5⟩⟩
/-- a further row, in a newer block -/
theorem RowsI.snoc {w : World} {lo : Nat} {xs : List Value} {L : List (List Int)} (h : RowsI w lo xs L) {g n : Nat} {r : List Int} (hr : r.length = n) (hw : Wr w lo 3 (some ⟨g, 0, none⟩) (r.map (.int .i64))) (hg : g < w.heap.size) (hn : ∀ b, AtL xs b → b < g) : RowsI w lo (xs ++ [.slice (some ⟨g, 0, none⟩) n n]) (L ++ [r]) := by
  have hl := h.1
  refine ⟨by simp [hl], fun k hkl => ?_⟩
  rw [List.length_append, List.length_singleton] at hkl
  rcases Nat.lt_or_ge k L.length with h1 | h1
  · obtain ⟨gk, nk, a1, a2, a3, a4, a5⟩ := h.2 k h1
    refine ⟨gk, nk, by rw [List.getElem?_append_left (by omega)]; exact a1, by rw [List.getElem_append_left h1]; exact a2, by rw [List.getElem_append_left h1]; exact a3, a4, fun j hj gj n' c' e => ?_⟩
    rw [List.getElem?_append_left (by omega)] at e
    exact a5 j hj gj n' c' e
  · obtain rfl : k = L.length := by omega
    refine ⟨g, n, by rw [List.getElem?_append_right (by omega), hl, Nat.sub_self]; rfl, by rw [List.getElem_append_right (by omega)]; simpa using hr, by rw [List.getElem_append_right (by omega)]; simpa using hw, hg, fun j hj gj n' c' e => ?_⟩
    rw [List.getElem?_append_left (by omega)] at e
    exact hn gj ⟨j, _, _, _, e, rfl⟩
/-- a new list of lists, each in a block of its own -/
def NewRI (fs : List (List Int)) (w : World) (e : Ending) (w' : World) : Prop :=
  ∃ (A : Option Addr) (c : Nat) (xs : List Value), e = .returned (.slice A fs.length c) ∧ fs.length ≤ c ∧ Rd w' A xs ∧ HeadsI w' xs fs ∧ RowsI w' w.heap.size xs fs ∧ (∀ ad, A = some ad → w.heap.size ≤ ad.block ∧ ad.block < w'.heap.size ∧ ¬ AtL xs ad.block) ∧ Below w.heap.size w w'
theorem NewRI.rd {fs : List (List Int)} {w w' : World} {e : Ending} (h : NewRI fs w e w') : NewLL fs w e w' := by
  obtain ⟨A, c, xs, h1, h2, h3, h4, -, -, h7⟩ := h
  exact ⟨A, c, h1, h2, ⟨xs, h3, h4⟩, h7⟩
end Go.Proofs.YtafmpgikdhlknaaGreat

/- Contracts: laws.sameInts, laws.sameLists. -/
namespace Go.Proofs.YtafmpgikdhlknaaGreat
open Go.RowKit

set_option maxHeartbeats 2000000 in
theorem sameInts_any (A A' : Option Addr) (c c' n m : Nat) (xs ys : List Int) (w : World) (hr : Rd w A (xs.map (.int .i64))) (hr' : Rd w A' (ys.map (.int .i64))) (hx : xs.length = n) (hy : ys.length = m) (hn : n ≤ maxLen) (hm : m ≤ maxLen) :
    Calls Tryz.prog 8 #[.slice A n c, .slice A' m c'] w fun e w' => e = .returned (.bool (decide (xs = ys))) ∧ Below w.heap.size w w' := by
  unfold maxLen at hn hm
  have HX := Lib.hid hx
  have HY := Lib.hid hy
  clear hx hy
  by_cases hnm : n = m
  · subst hnm
    go_enter Tryz.func8, Tryz.ntmps8
    go_wp2_with fail
    go_loopw [5] (fun i wr => ∃ k : Nat, k ≤ n ∧ i = .int .i64 k ∧ Hid (∀ j, j < k → xs[j]? = ys[j]?) ∧ Below w.heap.size w wr) (fun i _ => n - (intOf i).toNat)
    case atStart => exact ⟨0, Nat.zero_le _, rfl, Lib.hid (fun j h => absurd h (Nat.not_lt_zero j)), Below.refl _ _⟩
    case round =>
      obtain ⟨k, hk, rfl, HK, hbel⟩ := hrel
      by_cases hlt : k < n
      · have hkx : k < xs.length := by rw [HX.out]; exact hlt
        have hky : k < ys.length := by rw [HY.out]; exact hlt
        obtain ⟨ad, rfl, hc⟩ := (hr.belo hbel).atM hkx
        obtain ⟨ad', rfl, hc'⟩ := (hr'.belo hbel).atM hky
        have HX1 := Lib.hid (List.getElem?_eq_getElem hkx)
        have HY1 := Lib.hid (List.getElem?_eq_getElem hky)
        generalize xs[k] = a at hc HX1
        generalize ys[k] = b at hc' HY1
        clear hkx hky
        by_cases hab : a = b
        · subst hab
          have hne : (a != a) = false := by simp
          go_wp2_with fail
          go_quiet (fail)
          go_wp2_with fail
          go_roundw
          case rel => exact ⟨k + 1, by omega, by go_num, Lib.hid (fun j hj => by
            rcases Nat.lt_or_ge j k with h | h
            · exact HK.out j h
            · obtain rfl : j = k := by omega
              rw [HX1.out, HY1.out]), below_drewN' hbel _⟩
          case measure => simp [intOf]; omega
        · have hne : (a != b) = true := by simpa using hab
          have HD := Lib.hid (show decide (xs = ys) = false from decide_eq_false (fun e => hab (by
            have := HX1.out
            rw [e, HY1.out] at this
            exact (Option.some.inj this).symm)))
          clear hab
          go_wp2_with fail
          go_quiet (fail)
          go_wp2_with fail
          go_ret
          exact ⟨ret_b HD.out.symm, below_drewN' hbel _⟩
      · obtain rfl : k = n := by omega
        have HD := Lib.hid (show decide (xs = ys) = true from decide_eq_true (List.ext_getElem? fun j => by
          rcases Nat.lt_or_ge j k with h | h
          · exact HK.out j h
          · rw [List.getElem?_eq_none (by rw [HX.out]; exact h), List.getElem?_eq_none (by rw [HY.out]; exact h)]))
        go_wp2_with fail
        go_ret
        exact ⟨ret_b HD.out.symm, hbel⟩
  · have HD := Lib.hid (show decide (xs = ys) = false from decide_eq_false (fun e => hnm (by rw [← HX.out, ← HY.out, e])))
    have hne : ((n : Int) != (m : Int)) = true := by simp; omega
    go_enter Tryz.func8, Tryz.ntmps8
    go_wp2_with fail
    go_ret
    exact ⟨ret_b HD.out.symm, Below.refl _ _⟩
end Go.Proofs.YtafmpgikdhlknaaGreat

/- The arguments of a law, opened: regions by value, slices. -/
namespace Go.Proofs.YtafmpgikdhlknaaGreat
open Go.ChangeShapes Go.WideShapes Go.ChangeAt Go.RowKit Go.Deep

theorem own_knob : ownKnob Tryz.prog.godebug = none := by kernel_rfl
theorem laid_out : laidOutB Tryz.prog = true := by kernel_rfl

/-- a list of cells that are there lies in a block that is there -/
theorem rd_of_cells {w : World} {a : Addr} {xs : List Value} (h : ∀ j u, xs[j]? = some u → w.cell? (a.add j) = some u) : Rd w (some a) xs := fun _ => ⟨a, rfl, h⟩

section
variable {H : Type} {enc : TypeId × Value → H} {w : World} {r : Reach} {b0 base : Nat} {v : Value} {d : DataW H} {p : List MemPlace} {held : Bool} {fuel : Nat} {cs : List Value} {x : DataW H × List MemPlace}

theorem rd_bools (h : DataW.trod enc Tryz.prog w 0 (fun _ => true) held fuel 23 cs = some x) :
    ∃ (A : Option Addr) (c : Nat) (bs : List Bool), cs = [.slice A bs.length c] ∧ bs.length ≤ maxLen ∧ Rd w A (bs.map .bool) := by
  rcases open_bools Tryz.underlying23 Tryz.underlying4 (by kernel_rfl) h with ⟨hcs, _⟩ | ⟨a, len, cap, Z, hcs, _, hl, hm, _, hcell⟩
  · exact ⟨none, 0, [], by simpa using hcs, by simp, Rd.nil _ _⟩
  · refine ⟨some a, cap, (List.range len).map Z, by simpa using hcs, by simpa using (by omega : len ≤ maxLen), rd_of_cells fun j u hu => ?_⟩
    have hj : j < len := by
      rcases Nat.lt_or_ge j len with h1 | h1
      · exact h1
      · rw [List.getElem?_eq_none (by simpa using h1)] at hu; cases hu
    rw [hcell j (by omega)]
    simpa [List.getElem?_eq_getElem, hj] using hu
theorem rd_ints {t e : TypeId} {k : IntKind} (ht : Tryz.prog.underlying t = some (.slice e)) (he : Tryz.prog.underlying e = some (.int k)) (hc : Tryz.prog.cellsOf e = 1) (h : DataW.trod enc Tryz.prog w 0 (fun _ => true) held fuel t cs = some x) :
    ∃ (A : Option Addr) (c : Nat) (zs : List Int), cs = [.slice A zs.length c] ∧ zs.length ≤ maxLen ∧ Rd w A (zs.map (.int k)) ∧ ∀ n ∈ zs, (Lit.int k n).wf = true := by
  rcases open_ints ht he hc h with ⟨hcs, _⟩ | ⟨a, len, cap, zs, hcs, _, hl, hm, hz, _, hcell, hwf⟩
  · exact ⟨none, 0, [], by simpa using hcs, by simp, Rd.nil _ _, by simp⟩
  · have hz' : zs.length = cap := by simpa using hz
    have hlen : (zs.take len).length = len := by simp; omega
    refine ⟨some a, cap, zs.take len, by rw [hlen]; exact hcs, by rw [hlen]; omega, rd_of_cells fun j u hu => ?_, fun n hn => hwf n (List.mem_of_mem_take hn)⟩
    have hj : j < len := by
      rcases Nat.lt_or_ge j len with h1 | h1
      · exact h1
      · rw [List.getElem?_eq_none (by rw [List.length_map, hlen]; exact h1)] at hu; cases hu
    rw [hcell j (by omega)]
    rw [List.getElem?_map, List.getElem?_take_of_lt hj] at hu
    rw [List.getD_eq_getElem?_getD, List.getElem?_eq_getElem (by omega)]
    rw [List.getElem?_eq_getElem (by omega)] at hu
    simpa using hu

set_option maxRecDepth 100000 in
theorem open_ints_arg {t e : TypeId} {k : IntKind} (ht : Tryz.prog.underlying t = some (.slice e)) (he : Tryz.prog.underlying e = some (.int k)) (hc : Tryz.prog.cellsOf e = 1)
    (hv : Value.okWide Tryz.prog w r b0 t v) (h : DataW.Trod enc Tryz.prog w 0 (fun _ => true) held t v d p) :
    ∃ (A : Option Addr) (c : Nat) (zs : List Int), v = .slice A zs.length c ∧ zs.length ≤ maxLen ∧ Rd w A (zs.map (.int k)) ∧ ∀ n ∈ zs, (Lit.int k n).wf = true := by
  obtain ⟨a0, len0, cap0, rfl⟩ := okWide_slice ht hv
  obtain ⟨fuel, hf⟩ := h
  obtain ⟨A, c, zs, hcs, h1, h2, h3⟩ := rd_ints ht he hc hf
  simp only [Value.cells, List.cons.injEq, Value.slice.injEq, and_true] at hcs
  obtain ⟨rfl, rfl, rfl⟩ := hcs
  exact ⟨_, _, zs, rfl, h1, h2, h3⟩
set_option maxRecDepth 100000 in
/-- a slice of bytes that came in -/
theorem open_bytes {t e : TypeId} (ht : Tryz.prog.underlying t = some (.slice e)) (he : Tryz.prog.underlying e = some (.int .u8)) (hc : Tryz.prog.cellsOf e = 1)
    (hv : Value.okWide Tryz.prog w r b0 t v) (h : DataW.Trod enc Tryz.prog w 0 (fun _ => true) held t v d p) :
    ∃ (A : Option Addr) (c : Nat) (zs : List Int), v = .slice A zs.length c ∧ zs.length ≤ c ∧ zs.length ≤ maxLen ∧ Rd w A (zs.map (.int .u8)) ∧ ∀ n ∈ zs, 0 ≤ n ∧ n ≤ 255 := by
  obtain ⟨a0, len0, cap0, rfl⟩ := okWide_slice ht hv
  obtain ⟨fuel, hf⟩ := h
  have bd : ∀ n : Int, (Lit.int .u8 n).wf = true → 0 ≤ n ∧ n ≤ 255 := fun n hn => bounds_u8 hn
  rcases open_ints ht he hc hf with ⟨hcs, _⟩ | ⟨a, len, cap, zs, hcs, _, hl, hm, hz, _, hcell, hwf⟩
  · simp [Value.cells] at hcs
    obtain ⟨rfl, rfl, rfl⟩ := hcs
    exact ⟨none, 0, [], rfl, by simp, by simp, Rd.nil _ _, by simp⟩
  · simp [Value.cells] at hcs
    obtain ⟨rfl, rfl, rfl⟩ := hcs
    have hz' : zs.length = cap0 := by simpa using hz
    have hlen : (zs.take len0).length = len0 := by simp; omega
    refine ⟨some a, cap0, zs.take len0, by rw [hlen], by omega, by omega, rd_of_cells fun j u hu => ?_, fun n hn => bd n (hwf n (List.mem_of_mem_take hn))⟩
    have hj : j < len0 := by
      rcases Nat.lt_or_ge j len0 with h1 | h1
      · exact h1
      · rw [List.getElem?_eq_none (by rw [List.length_map, hlen]; exact h1)] at hu; cases hu
    rw [hcell j (by omega)]
    rw [List.getElem?_map, List.getElem?_take_of_lt hj] at hu
    rw [List.getD_eq_getElem?_getD, List.getElem?_eq_getElem (by omega)]
    rw [List.getElem?_eq_getElem (by omega)] at hu
    simpa using hu
end
end Go.Proofs.YtafmpgikdhlknaaGreat

/- The walk of the law FnPushOne. -/
namespace Go.Proofs.YtafmpgikdhlknaaGreat
open Go.RowKit

theorem two_belo {w w' : World} {b : Nat} {u v : Value} (h : w.cell? ⟨b, 0, none⟩ = some u ∧ w.cell? ⟨b, 1, none⟩ = some v) (hb : Below w.heap.size w w') : w'.cell? ⟨b, 0, none⟩ = some u ∧ w'.cell? ⟨b, 1, none⟩ = some v :=
  ⟨(hb.cell (World.block_lt_of_cell? w _ h.1)).trans h.1, (hb.cell (World.block_lt_of_cell? w _ h.2)).trans h.2⟩
set_option maxRecDepth 100000 in
set_option maxHeartbeats 8000000 in
theorem fnPushOne_walk {w0 : World} (A : Option Addr) (c : Nat) (bs : List Int) (hcap : bs.length ≤ c) (hm : bs.length ≤ maxLen) (hr : Rd w0 A (bs.map (.int .u8))) (hw : ∀ n ∈ bs, 0 ≤ n ∧ n ≤ 255)
    (A' : Option Addr) (c' : Nat) (zs : List Int) (_hcap' : zs.length ≤ c') (hm' : zs.length ≤ maxLen) (_hr' : Rd w0 A' (zs.map (.int .u8))) (_hw' : ∀ n ∈ zs, 0 ≤ n ∧ n ≤ 255) :
    Calls Tryz.prog 4 #[.slice A bs.length c, .slice A' zs.length c'] w0 fun e w' => e = .returned (.bool true) ∧ Below w0.heap.size w0 w' := by
  have HW := Lib.hid hw
  clear hw _hw' _hr' _hcap'
  unfold maxLen at hm hm'
  by_cases hn : bs.length ≤ 1048576
  · have hg : decide ((1048576 : Int) < (bs.length : Int)) = false := by simp; omega
    by_cases hz : zs.length ≤ 1048576
    · have hg' : decide ((1048576 : Int) < (zs.length : Int)) = false := by simp; omega
      go_enter Tryz.func4, Tryz.ntmps4
      go_wp2_with fail
      refine (drawPushOne_any A c bs _ hr HW.out hn hcap).mono ?_
      rintro e w1 ⟨W, T, xs, B, k, L, D, d, x, up, rfl, R1, hl1, RL1, hL1, hx, B1⟩
      clear hg hg' hn hm hm' hr HW hcap
      have hmx : xs.length ≤ maxLen := by unfold maxLen; omega
      have hmL : L.length ≤ maxLen := by unfold maxLen; omega
      have hz1 : (w1.alloc (.cells #[.int .i64 W, .int .i64 T, .slice B xs.length k] 25)).heap.size = w1.heap.size + 1 := by simp
      have Z12 := bl_alloc (bl_alloc (Below.refl w1.heap.size w1) (.cells #[.int .i64 W, .int .i64 T, .slice B xs.length k] 25)) (.cells #[.int .i64 x, .bool up] 38)
      have X2 := (C3.new w1 (.int .i64 W) (.int .i64 T) (.slice B xs.length k) 25).alloc (.cells #[.int .i64 x, .bool up] 38)
      have KN := heap_alloc_new (w1.alloc (.cells #[.int .i64 W, .int .i64 T, .slice B xs.length k] 25)) (.cells #[.int .i64 x, .bool up] 38)
      rw [hz1] at KN
      have Y2 := And.intro (cell_of_row _ _ 0 _ _ _ KN) (cell_of_row _ _ 1 _ _ _ KN)
      have Y2 : ((w1.alloc (.cells #[.int .i64 W, .int .i64 T, .slice B xs.length k] 25)).alloc (.cells #[.int .i64 x, .bool up] 38)).cell? ⟨w1.heap.size + 1, 0, none⟩ = some (.int .i64 x) ∧ ((w1.alloc (.cells #[.int .i64 W, .int .i64 T, .slice B xs.length k] 25)).alloc (.cells #[.int .i64 x, .bool up] 38)).cell? ⟨w1.heap.size + 1, 1, none⟩ = some (.bool up) := Y2
      have R2 := R1.belo Z12
      have RL2 := RL1.belo Z12
      have B2 := bl_go B1 Z12
      have CPI := Lib.hid (fun (z : World) (R : Rd z B (xs.map .bool)) (Q : Rd z D (L.map (.int .i64))) => iPushOne_any W T B D k d xs.length L.length xs L x up z R Q rfl rfl hmx hmL)
      have CPS := Lib.hid (fun (z : World) (R : Rd z B (xs.map .bool)) (Q : Rd z D (L.map (.int .i64))) => sPushOneX_any W T B D k d xs.length L.length xs L x up z R Q rfl rfl hmx hmL)
      clear R1 RL1 B1 Z12 KN hz1
      go_wp2_with fail
      generalize (w1.alloc (.cells #[.int .i64 W, .int .i64 T, .slice B xs.length k] 25)).alloc (.cells #[.int .i64 x, .bool up] 38) = w2 at *
      generalize w1.heap.size = bx at *
      cases hok : (psvB W T xs [(x, up)] && tilingB W T xs L) with
      | false =>
        rw [hok] at CPI CPS
        have CSN := Lib.hid (fun (A' : Option Addr) (c' : Nat) (z : World) => show Calls Tryz.prog 8 #[.slice none 0 0, .slice A' 0 c'] z fun e w' => e = .returned (.bool true) ∧ Below z.heap.size z w' from sameInts_any none A' 0 c' 0 0 [] [] z (Rd.nil _ _) (Rd.nil _ _) rfl rfl (by unfold maxLen; omega) (by unfold maxLen; omega))
        clear hok
        refine (CPI.out _ R2 RL2).mono ?_
        rintro e w3 (⟨h, -⟩ | ⟨-, rfl, b3⟩)
        · cases h
        have R3 := R2.belo b3
        have RL3 := RL2.belo b3
        have B3 := bl_go B2 b3
        have X3 := X2.belo b3
        have Y3 := two_belo Y2 b3
        clear R2 RL2 B2 X2 Y2 b3
        obtain ⟨x0, x1, x2⟩ := id X3
        obtain ⟨y0, y1⟩ := id Y3
        go_wp2_with fail
        refine (CPS.out _ R3 RL3).mono ?_
        rintro e w4 (⟨h, -⟩ | ⟨-, D4, d4, rfl, b4⟩)
        · cases h
        have B4 := bl_go B3 b4
        clear R3 RL3 B3 X3 Y3 b4 x0 x1 x2 y0 y1 CPI CPS
        go_wp2_with fail
        refine (CSN.out _ _ _).mono ?_
        rintro e w5 ⟨rfl, b5⟩
        have B5 := bl_go B4 b5
        clear B4 b5 CSN
        go_wp2_with fail
        refine (alive_any _).mono ?_
        rintro e w6 ⟨rfl, b6⟩
        go_wp2_with fail
        go_ret
        exact ⟨rfl, bl_go B5 b6⟩
      | true =>
        rw [hok] at CPI CPS
        rw [Bool.and_eq_true] at hok
        obtain ⟨hpv, ht⟩ := hok
        obtain ⟨hs, -, -⟩ := psv_iff.1 hpv
        have hval := (simp_iff.1 hs).1
        obtain ⟨-, hlL, -⟩ := tiling_til ht
        obtain ⟨v1, v2, v3, v4, v5, v6⟩ := valid_len hval
        have hn1 : 1 ≤ xs.length := by have := (mul_bd v1 v2 v3 v4).1; omega
        have hX := (push_hgt hs ht (x.toNat, up)).1
        have hXl := (tiling_til hX).2.1
        have CSI := Lib.hid (fun (A A' : Option Addr) (c c' : Nat) (z : World) (R : Rd z A ((pushL W T L (x.toNat, up)).map (.int .i64))) (R' : Rd z A' ((pushL W T L (x.toNat, up)).map (.int .i64))) => show Calls Tryz.prog 8 #[.slice A xs.length c, .slice A' xs.length c'] z fun e w' => e = .returned (.bool true) ∧ Below z.heap.size z w' from by
          have := sameInts_any A A' c c' xs.length xs.length _ _ z R R' hXl hXl hmx hmx
          rw [decide_eq_true rfl] at this; exact this)
        have hlen : ((tlsV W T xs).length : Int) = tilN W T xs := tlsV_cnt (valid_fld hval) (validB_iff.1 hval).2.2.2
        have hpos : 0 < (tlsV W T xs).length := List.length_pos_of_mem ((tlsV_mem hval).2 ht)
        have htb := tilN_bd (W := W) (T := T) xs
        have CTM := Lib.hid (fun (z : World) (R : Rd z B (xs.map .bool)) => show Calls Tryz.prog 19 #[.agg #[.int .i64 W, .int .i64 T, .slice B xs.length k]] z (fun e w' => e = .returned (.int .i64 (tilN W T xs)) ∧ Below z.heap.size z w') from by
          have := iTilingsMany_any W T B k xs z R hmx
          rw [show tilZ W T xs = tilN W T xs by unfold tilZ; rw [if_pos hval]] at this
          exact this)
        have CTO := Lib.hid (fun (kk : Nat) (hk : kk < (tlsV W T xs).length) (z : World) (R : Rd z B (xs.map .bool)) => iTilingOf_any W T B k xs.length kk xs z R hval rfl hk)
        obtain ⟨kk, hkk, hkl⟩ : ∃ kk : Nat, ((zs.length : Int) * 7).tmod (tilN W T xs) = (kk : Int) ∧ kk < (tlsV W T xs).length := by
          have h1 := Int.emod_nonneg ((zs.length : Int) * 7) (show tilN W T xs ≠ 0 by omega)
          have h2 := Int.emod_lt_of_pos ((zs.length : Int) * 7) (show 0 < tilN W T xs by omega)
          refine ⟨(((zs.length : Int) * 7) % (tilN W T xs)).toNat, ?_, by omega⟩
          rw [Int.tmod_eq_emod_of_nonneg (by omega)]
          omega
        have CTK := Lib.hid (CTO.out kk hkl)
        have hkb : kk < (tlsV W T xs).length ∧ 1 ≤ tilN W T xs := ⟨hkl, by omega⟩
        have CTH := Lib.hid (fun (M : List Int) (hM : tilingB W T xs M = true) (E : Option Addr) (e9 : Nat) (z : World) (R : Rd z B (xs.map .bool)) (Q : Rd z D (L.map (.int .i64))) (P : Rd z E (M.map (.int .i64))) => show Calls Tryz.prog 20 #[.agg #[.int .i64 W, .int .i64 T, .slice B xs.length k], .slice D L.length d, .slice E xs.length e9] z _ from by
          rw [hlL]
          exact iTilingHigh_any W T B D E k d e9 xs.length xs L M z R Q P hs ht hM rfl)
        have HTOP := Lib.hid (fun (M : List Int) (hM : tilingB W T xs M = true) => top_good hs ht hM)
        have CPO := Lib.hid (fun (M : List Int) (hM : tilingB W T xs M = true) (D : Option Addr) (d : Nat) (z : World) (R : Rd z B (xs.map .bool)) (Q : Rd z D (M.map (.int .i64))) => show Calls Tryz.prog 16 #[.agg #[.int .i64 W, .int .i64 T, .slice B xs.length k], .slice D xs.length d, .agg #[.int .i64 x, .bool up]] z (NewWI (pushL W T M (x.toNat, up)) xs.length z) from by
          have h := iPushOne_any W T B D k d xs.length xs.length xs M x up z R Q rfl (tiling_til hM).2.1 hmx hmx
          rw [hpv, hM] at h
          refine h.mono fun e w' h => ?_
          rcases h with ⟨-, -, h⟩ | ⟨h, -⟩
          · exact h
          · cases h)
        have HPL := Lib.hid (fun (M : List Int) (hM : tilingB W T xs M = true) (h : leH W T xs (hgtV W T xs L) (hgtV W T xs M)) => push_le hs ht hM h (x.toNat, up))
        have HPT := Lib.hid (fun (M : List Int) (hM : tilingB W T xs M = true) => (push_hgt hs hM (x.toNat, up)).1)
        have HTWO := Lib.hid (push_two hs ht (x.toNat, up))
        have HDIR := Lib.hid (push_dir hs ht x.toNat)
        have CBE := Lib.hid (fun (L1 M1 : List Int) (h1 : tilingB W T xs L1 = true) (h2 : tilingB W T xs M1 = true) (hle : leH W T xs (hgtV W T xs L1) (hgtV W T xs M1)) (D E : Option Addr) (d e9 : Nat) (z : World) (R : Rd z B (xs.map .bool)) (Q : Rd z D (L1.map (.int .i64))) (P : Rd z E (M1.map (.int .i64))) => iBelow_t W T B D E k d e9 xs.length xs L1 M1 z R Q P hs h1 h2 hle rfl)
        have CTI := Lib.hid (fun (D : Option Addr) (d : Nat) (z : World) (R : Rd z B (xs.map .bool)) (Q : Rd z D ((pushL W T L (x.toNat, up)).map (.int .i64))) => show Calls Tryz.prog 21 #[.agg #[.int .i64 W, .int .i64 T, .slice B xs.length k], .slice D xs.length d] z (fun e w' => e = .returned (.bool true) ∧ Below z.heap.size z w') from by
          have := iTilingOk_any W T B D k d xs (pushL W T L (x.toNat, up)) z R Q hmx (by rw [hXl]; exact hmx)
          rw [hX, hXl] at this
          exact this)
        have HX := Lib.hid hX
        have HT := Lib.hid ht
        have HLL := Lib.hid hlL
        obtain ⟨tm, htm⟩ : ∃ tm, tilN W T xs = tm := ⟨_, rfl⟩
        rw [htm] at CTM hkk hkb htb
        have hmax : max tm 1 = tm := by omega
        have hz7 : IntKind.i64.wrap ((zs.length : Int) * 7) = (zs.length : Int) * 7 := IntWalk.i64_in _ (by omega)
        have htm0 : (tm == 0) = false := by rw [beq_eq_false_iff_ne]; omega
        have htmn : tm ≠ 0 := by omega
        have hn0 : ((xs.length : Int) == 0) = false := by rw [beq_eq_false_iff_ne]; omega
        clear hpv ht hs hval hlL v1 v2 v3 v4 v5 v6 hX hXl hlen hpos CTO htm hkl hL1
        obtain ⟨X, hXX⟩ : ∃ X, pushL W T L (x.toNat, up) = X := ⟨_, rfl⟩
        rw [hXX] at CPI CPS
        refine (CPI.out _ R2 RL2).mono ?_
        rintro e w3 (⟨-, -, g3, rfl, W3, hg3, hgs3, b3⟩ | ⟨h, -⟩)
        rotate_left
        · cases h
        have R3 := R2.belo b3
        have RL3 := RL2.belo b3
        have B3 := bl_go B2 b3
        have X3 := X2.belo b3
        have Y3 := two_belo Y2 b3
        have E3 := W3.rd
        clear R2 RL2 B2 X2 Y2 b3 W3 hg3 hgs3
        obtain ⟨x0, x1, x2⟩ := id X3
        obtain ⟨y0, y1⟩ := id Y3
        go_wp2_with fail
        refine (CPS.out _ R3 RL3).mono ?_
        rintro e w4 (⟨-, -, D4, d4, rfl, E4', b4⟩ | ⟨h, -⟩)
        rotate_left
        · cases h
        have R4 := R3.belo b4
        have RL4 := RL3.belo b4
        have B4 := bl_go B3 b4
        have X4 := X3.belo b4
        have Y4 := two_belo Y3 b4
        have E4 := E3.belo b4
        clear R3 RL3 B3 X3 Y3 b4 E3 x0 x1 x2 y0 y1 CPI CPS
        rw [← hXX] at E4 E4'
        go_wp2_with fail
        refine (CSI.out _ _ _ _ _ E4 E4').mono ?_
        rintro e w5 ⟨rfl, b5⟩
        have R5 := R4.belo b5
        have RL5 := RL4.belo b5
        have B5 := bl_go B4 b5
        have X5 := X4.belo b5
        have Y5 := two_belo Y4 b5
        have E5 := E4.belo b5
        clear R4 RL4 B4 X4 Y4 b5 E4 E4'
        obtain ⟨x0, x1, x2⟩ := id X5
        obtain ⟨y0, y1⟩ := id Y5
        go_upto_region 9 with fail
        have Z0 : Below w5.heap.size w5 w5.drew := (Below.refl _ _).drew
        have KS := Lib.hid (fun (z : World) (Z : Below w5.heap.size w5 z) => show (z.cell? ⟨bx, 0, none⟩ = some (.int .i64 W) ∧ z.cell? ⟨bx, 1, none⟩ = some (.int .i64 T) ∧ z.cell? ⟨bx, 2, none⟩ = some (.slice B xs.length k)) ∧ z.cell? ⟨bx + 1, 0, none⟩ = some (.int .i64 x) ∧ z.cell? ⟨bx + 1, 1, none⟩ = some (.bool up) from ⟨X5.belo Z, two_belo Y5 Z⟩)
        have C6 := Lib.hid (CTM.out _ (R5.belo Z0))
        have C7 := Lib.hid (fun (z : World) (Z : Below w5.heap.size w5 z) => CTK.out z (R5.belo Z))
        go_region_held3 (fun w' => (w'.cell? ⟨bx, 0, none⟩ = some (.int .i64 W) ∧ w'.cell? ⟨bx, 1, none⟩ = some (.int .i64 T) ∧ w'.cell? ⟨bx, 2, none⟩ = some (.slice B xs.length k)) ∧ w'.cell? ⟨bx + 1, 0, none⟩ = some (.int .i64 x) ∧ w'.cell? ⟨bx + 1, 1, none⟩ = some (.bool up))
          (first | (with_reducible exact KS.out _ Z7) | (with_reducible exact KS.out _ Z6) | (with_reducible exact KS.out _ Z0) | (with_reducible exact ⟨⟨x0, x1, x2⟩, y0, y1⟩) | go_keep)
          (first
          | (go_at_call 19; (with_reducible refine C6.out.mono ?_); rintro e w6 ⟨rfl, b6⟩; have Z6 := Z0.trans (b6.mono Z0.size))
          | (go_at_call 18; (with_reducible refine (C7.out _ Z6).mono ?_); rintro e w7 ⟨D7, d7, M7, rfl, hM7, RM7, b7⟩; have Z7 := Z6.trans (b7.mono Z6.size)))
        have R7 := R5.belo Z7
        have RL7 := RL5.belo Z7
        have B7 := bl_go B5 Z7
        have X7 := X5.belo Z7
        have Y7 := two_belo Y5 Z7
        have E7 := E5.belo Z7
        have C8 := Lib.hid (CTH.out M7 hM7 D7 d7 _ R7 RL7 RM7)
        obtain ⟨hTT, hLE⟩ := HTOP.out M7 hM7
        have HTT := Lib.hid hTT
        have HLE := Lib.hid hLE
        clear R5 RL5 B5 X5 Y5 E5 Z0 Z6 Z7 b6 b7 RM7 KS C6 C7 CTM CTK CTH HTOP hTT hLE x0 x1 x2 y0 y1 hkk hmax hz7 htm0 htmn hkb htb hXX
        obtain ⟨x0, x1, x2⟩ := id X7
        obtain ⟨y0, y1⟩ := id Y7
        go_wp2_with fail
        refine C8.out.mono ?_
        rintro e w8 ⟨g8, rfl, T8, b8⟩
        have R8 := R7.belo b8
        have RL8 := RL7.belo b8
        have B8 := bl_go B7 b8
        have X8 := X7.belo b8
        have Y8 := two_belo Y7 b8
        have E8 := E7.belo b8
        clear R7 RL7 B7 X7 Y7 E7 b8 C8 x0 x1 x2 y0 y1
        generalize topL W T xs L M7 = TP at *
        clear hM7
        have Z0 : Below w8.heap.size w8 w8.drew := (Below.refl _ _).drew
        have KS := Lib.hid (fun (z : World) (Z : Below w8.heap.size w8 z) => show (z.cell? ⟨bx, 0, none⟩ = some (.int .i64 W) ∧ z.cell? ⟨bx, 1, none⟩ = some (.int .i64 T) ∧ z.cell? ⟨bx, 2, none⟩ = some (.slice B xs.length k)) ∧ z.cell? ⟨bx + 1, 0, none⟩ = some (.int .i64 x) ∧ z.cell? ⟨bx + 1, 1, none⟩ = some (.bool up) from ⟨X8.belo Z, two_belo Y8 Z⟩)
        have K1 := Lib.hid (fun (z : World) (Z : Below w8.heap.size w8 z) => CTI.out (some ⟨g3, 0, none⟩) xs.length z (R8.belo Z) (E8.belo Z))
        have K2 := Lib.hid (fun (z : World) (Z : Below w8.heap.size w8 z) => CPO.out TP HTT.out (some ⟨g8, 0, none⟩) xs.length z (R8.belo Z) (T8.belo Z))
        have K3 := Lib.hid (fun (gb : Nat) (z : World) (Z : Below w8.heap.size w8 z) Rb => CBE.out _ _ HX.out (HPT.out TP HTT.out) (HPL.out TP HTT.out HLE.out) (some ⟨g3, 0, none⟩) (some ⟨gb, 0, none⟩) xs.length xs.length z (R8.belo Z) (E8.belo Z) Rb)
        have K4 := Lib.hid (fun (z : World) (Z : Below w8.heap.size w8 z) => by
          have := CPO.out _ HX.out (some ⟨g3, 0, none⟩) xs.length z (R8.belo Z) (E8.belo Z)
          rw [HTWO.out] at this
          exact this)
        have K5 := Lib.hid (fun (gd : Nat) (z : World) (Z : Below w8.heap.size w8 z) R4 => CSI.out (some ⟨gd, 0, none⟩) (some ⟨g3, 0, none⟩) xs.length xs.length z R4 (E8.belo Z))
        obtain ⟨x0, x1, x2⟩ := id X8
        obtain ⟨y0, y1⟩ := id Y8
        cases up with
        | true =>
          have K6 := Lib.hid (fun (z : World) (Z : Below w8.heap.size w8 z) => show Calls Tryz.prog 22 #[.agg #[.int .i64 W, .int .i64 T, .slice B xs.length k], .slice D L.length d, .slice (some ⟨g3, 0, none⟩) xs.length xs.length] z (fun e w' => e = .returned (.bool true) ∧ Below z.heap.size z w') from by
            rw [HLL.out]
            exact CBE.out L _ HT.out HX.out HDIR.out.1 D (some ⟨g3, 0, none⟩) d xs.length z (R8.belo Z) (RL8.belo Z) (E8.belo Z))
          clear CTI CPO CBE CSI HX HT HTT HLE HPL HPT HTWO HDIR HLL
          go_upto_region 13 with fail
          refine wp_region_held_drew (S := (fun w' => (w'.cell? ⟨bx, 0, none⟩ = some (.int .i64 W) ∧ w'.cell? ⟨bx, 1, none⟩ = some (.int .i64 T) ∧ w'.cell? ⟨bx, 2, none⟩ = some (.slice B xs.length k)) ∧ w'.cell? ⟨bx + 1, 0, none⟩ = some (.int .i64 x) ∧ w'.cell? ⟨bx + 1, 1, none⟩ = some (.bool true))) (by kernel_rfl) ?_ (fun hHeld => ?_)
          · exact KS.out _ Z0
          refine wpAnyH_take (i := 0) (v := ?_) rfl (by kernel_rfl) (by kernel_rfl) (by kernel_rfl) (fun _ _ _ h => h) (Or.inl ⟨by rfl, ?_⟩) (by assumption) ?_
          rotate_left
          · intro w' hSw; (try dsimp only at hSw); (go_simp; try with_reducible rfl)
          simp only [Act.put, List.setIfInBounds_toArray, List.set_cons_zero, List.set_cons_succ, List.getElem_toArray, List.getElem_cons_zero]
          refine wpAnyH_take (i := 1) (v := ?_) rfl (by kernel_rfl) (by kernel_rfl) (by kernel_rfl) (fun _ _ _ h => h) (Or.inl ⟨by rfl, ?_⟩) (by assumption) ?_
          rotate_left
          · intro w' hSw; (try dsimp only at hSw); (go_simp; try with_reducible rfl)
          simp only [Act.put, List.setIfInBounds_toArray, List.set_cons_zero, List.set_cons_succ, List.getElem_toArray, List.getElem_cons_zero, List.getElem_cons_succ]
          refine wpAnyH_ready (rs := [2]) (by kernel_rfl) (by simp) ?_
          refine AllReadyH.cons rfl (fun K hK => ?_) AllReadyH.nil
          simp only [List.getElem_toArray, List.getElem_cons_zero, List.getElem_cons_succ]
          go_simp
          go_at_call 21
          refine (K1.out _ Z0).mono ?_
          rintro e wa ⟨rfl, ba⟩
          have Z1 := Z0.trans (ba.mono Z0.size)
          refine hK.out _ _ ?_ (fun hHeld => ?_)
          · exact KS.out _ Z1
          clear hK K
          refine wpAnyH_take (i := 3) (v := ?_) rfl (by kernel_rfl) (by kernel_rfl) (by kernel_rfl) (fun _ _ _ h => h) (Or.inl ⟨by rfl, ?_⟩) (by assumption) ?_
          rotate_left
          · intro w' hSw; (try dsimp only at hSw); (go_simp; try with_reducible rfl)
          simp only [Act.put, List.setIfInBounds_toArray, List.set_cons_zero, List.set_cons_succ, List.getElem_toArray, List.getElem_cons_zero, List.getElem_cons_succ]
          refine wpAnyH_take (i := 4) (v := ?_) rfl (by kernel_rfl) (by kernel_rfl) (by kernel_rfl) (fun _ _ _ h => h) (Or.inl ⟨by rfl, ?_⟩) (by assumption) ?_
          rotate_left
          · intro w' hSw; (try dsimp only at hSw); (go_simp; try with_reducible rfl)
          simp only [Act.put, List.setIfInBounds_toArray, List.set_cons_zero, List.set_cons_succ, List.getElem_toArray, List.getElem_cons_zero, List.getElem_cons_succ]
          refine wpAnyH_take (i := 5) (v := ?_) rfl (by kernel_rfl) (by kernel_rfl) (by kernel_rfl) (fun _ _ _ h => h) (Or.inl ⟨by rfl, ?_⟩) (by assumption) ?_
          rotate_left
          · intro w' hSw; (try dsimp only at hSw); (go_simp; try with_reducible rfl)
          simp only [Act.put, List.setIfInBounds_toArray, List.set_cons_zero, List.set_cons_succ, List.getElem_toArray, List.getElem_cons_zero, List.getElem_cons_succ]
          refine wpAnyH_take (i := 6) (v := ?_) rfl (by kernel_rfl) (by kernel_rfl) (by kernel_rfl) (fun _ _ _ h => h) (Or.inl ⟨by rfl, ?_⟩) (by assumption) ?_
          rotate_left
          · intro w' hSw; (try dsimp only at hSw); (go_simp; try with_reducible rfl)
          simp only [Act.put, List.setIfInBounds_toArray, List.set_cons_zero, List.set_cons_succ, List.getElem_toArray, List.getElem_cons_zero, List.getElem_cons_succ]
          refine wpAnyH_take (i := 7) (v := ?_) rfl (by kernel_rfl) (by kernel_rfl) (by kernel_rfl) (fun _ _ _ h => h) (Or.inl ⟨by rfl, ?_⟩) (by assumption) ?_
          rotate_left
          · intro w' hSw; (try dsimp only at hSw); (go_simp; try with_reducible rfl)
          simp only [Act.put, List.setIfInBounds_toArray, List.set_cons_zero, List.set_cons_succ, List.getElem_toArray, List.getElem_cons_zero, List.getElem_cons_succ]
          refine wpAnyH_take (i := 8) (v := ?_) rfl (by kernel_rfl) (by kernel_rfl) (by kernel_rfl) (fun _ _ _ h => h) (Or.inl ⟨by rfl, ?_⟩) (by assumption) ?_
          rotate_left
          · intro w' hSw; (try dsimp only at hSw); (go_simp; try with_reducible rfl)
          simp only [Act.put, List.setIfInBounds_toArray, List.set_cons_zero, List.set_cons_succ, List.getElem_toArray, List.getElem_cons_zero, List.getElem_cons_succ]
          refine wpAnyH_ready (rs := [9]) (by kernel_rfl) (by simp) ?_
          refine AllReadyH.cons rfl (fun K hK => ?_) AllReadyH.nil
          simp only [List.getElem_toArray, List.getElem_cons_zero, List.getElem_cons_succ]
          go_simp
          go_at_call 16
          refine (K2.out _ Z1).mono ?_
          rintro e wb ⟨gb, rfl, Wb, hgb, hgsb, bb⟩
          have Z2 := Z1.trans (bb.mono Z1.size)
          have Rb := Wb.rd
          refine hK.out _ _ ?_ (fun hHeld => ?_)
          · exact KS.out _ Z2
          clear hK K
          refine wpAnyH_ready (rs := [10]) (by kernel_rfl) (by simp) ?_
          refine AllReadyH.cons rfl (fun K hK => ?_) AllReadyH.nil
          simp only [List.getElem_toArray, List.getElem_cons_zero, List.getElem_cons_succ]
          go_simp
          go_at_call 22
          refine (K3.out _ _ Z2 Rb).mono ?_
          rintro e wc ⟨rfl, bc⟩
          have Z3 := Z2.trans (bc.mono Z2.size)
          refine hK.out _ _ ?_ (fun hHeld => ?_)
          · exact KS.out _ Z3
          clear hK K
          refine wpAnyH_take (i := 11) (v := ?_) rfl (by kernel_rfl) (by kernel_rfl) (by kernel_rfl) (fun _ _ _ h => h) (Or.inl ⟨by rfl, ?_⟩) (by assumption) ?_
          rotate_left
          · intro w' hSw; (try dsimp only at hSw); (go_simp; try with_reducible rfl)
          simp only [Act.put, List.setIfInBounds_toArray, List.set_cons_zero, List.set_cons_succ, List.getElem_toArray, List.getElem_cons_zero, List.getElem_cons_succ]
          refine wpAnyH_take (i := 12) (v := ?_) rfl (by kernel_rfl) (by kernel_rfl) (by kernel_rfl) (fun _ _ _ h => h) (Or.inl ⟨by rfl, ?_⟩) (by assumption) ?_
          rotate_left
          · intro w' hSw; (try dsimp only at hSw); (go_simp; try with_reducible rfl)
          simp only [Act.put, List.setIfInBounds_toArray, List.set_cons_zero, List.set_cons_succ, List.getElem_toArray, List.getElem_cons_zero, List.getElem_cons_succ]
          refine wpAnyH_take (i := 13) (v := ?_) rfl (by kernel_rfl) (by kernel_rfl) (by kernel_rfl) (fun _ _ _ h => h) (Or.inl ⟨by rfl, ?_⟩) (by assumption) ?_
          rotate_left
          · intro w' hSw; (try dsimp only at hSw); (go_simp; try with_reducible rfl)
          simp only [Act.put, List.setIfInBounds_toArray, List.set_cons_zero, List.set_cons_succ, List.getElem_toArray, List.getElem_cons_zero, List.getElem_cons_succ]
          refine wpAnyH_take (i := 14) (v := ?_) rfl (by kernel_rfl) (by kernel_rfl) (by kernel_rfl) (fun _ _ _ h => h) (Or.inl ⟨by rfl, ?_⟩) (by assumption) ?_
          rotate_left
          · intro w' hSw; (try dsimp only at hSw); (go_simp; try with_reducible rfl)
          simp only [Act.put, List.setIfInBounds_toArray, List.set_cons_zero, List.set_cons_succ, List.getElem_toArray, List.getElem_cons_zero, List.getElem_cons_succ]
          refine wpAnyH_take (i := 15) (v := ?_) rfl (by kernel_rfl) (by kernel_rfl) (by kernel_rfl) (fun _ _ _ h => h) (Or.inl ⟨by rfl, ?_⟩) (by assumption) ?_
          rotate_left
          · intro w' hSw; (try dsimp only at hSw); (go_simp; try with_reducible rfl)
          simp only [Act.put, List.setIfInBounds_toArray, List.set_cons_zero, List.set_cons_succ, List.getElem_toArray, List.getElem_cons_zero, List.getElem_cons_succ]
          refine wpAnyH_take (i := 17) (v := ?_) rfl (by kernel_rfl) (by kernel_rfl) (by kernel_rfl) (fun _ _ _ h => h) (Or.inl ⟨by rfl, ?_⟩) (by assumption) ?_
          rotate_left
          · intro w' hSw; (try dsimp only at hSw); (go_simp; try with_reducible rfl)
          simp only [Act.put, List.setIfInBounds_toArray, List.set_cons_zero, List.set_cons_succ, List.getElem_toArray, List.getElem_cons_zero, List.getElem_cons_succ]
          refine wpAnyH_ready (rs := [16]) (by kernel_rfl) (by simp) ?_
          refine AllReadyH.cons rfl (fun K hK => ?_) AllReadyH.nil
          simp only [List.getElem_toArray, List.getElem_cons_zero, List.getElem_cons_succ]
          go_simp
          go_at_call 16
          refine (K4.out _ Z3).mono ?_
          rintro e wd ⟨gd, rfl, Wd, hgd, hgsd, bd⟩
          have Z4 := Z3.trans (bd.mono Z3.size)
          have Rd4 := Wd.rd
          refine hK.out _ _ ?_ (fun hHeld => ?_)
          · exact KS.out _ Z4
          clear hK K
          refine wpAnyH_ready (rs := [18]) (by kernel_rfl) (by simp) ?_
          refine AllReadyH.cons rfl (fun K hK => ?_) AllReadyH.nil
          simp only [List.getElem_toArray, List.getElem_cons_zero, List.getElem_cons_succ]
          go_simp
          go_at_call 8
          refine (K5.out _ _ Z4 Rd4).mono ?_
          rintro e we ⟨rfl, be⟩
          have Z5 := Z4.trans (be.mono Z4.size)
          refine hK.out _ _ ?_ (fun hHeld => ?_)
          · exact KS.out _ Z5
          clear hK K
          refine wpAnyH_take (i := 19) (v := ?_) rfl (by kernel_rfl) (by kernel_rfl) (by kernel_rfl) (fun _ _ _ h => h) (Or.inl ⟨by rfl, ?_⟩) (by assumption) ?_
          rotate_left
          · intro w' hSw; (try dsimp only at hSw); (go_simp; try with_reducible rfl)
          simp only [Act.put, List.setIfInBounds_toArray, List.set_cons_zero, List.set_cons_succ, List.getElem_toArray, List.getElem_cons_zero, List.getElem_cons_succ]
          refine wpAnyH_take (i := 20) (v := ?_) rfl (by kernel_rfl) (by kernel_rfl) (by kernel_rfl) (fun _ _ _ h => h) (Or.inl ⟨by rfl, ?_⟩) (by assumption) ?_
          rotate_left
          · intro w' hSw; (try dsimp only at hSw); (go_simp; try with_reducible rfl)
          simp only [Act.put, List.setIfInBounds_toArray, List.set_cons_zero, List.set_cons_succ, List.getElem_toArray, List.getElem_cons_zero, List.getElem_cons_succ]
          refine wpAnyH_take (i := 21) (v := ?_) rfl (by kernel_rfl) (by kernel_rfl) (by kernel_rfl) (fun _ _ _ h => h) (Or.inl ⟨by rfl, ?_⟩) (by assumption) ?_
          rotate_left
          · intro w' hSw; (try dsimp only at hSw); (go_simp; try with_reducible rfl)
          simp only [Act.put, List.setIfInBounds_toArray, List.set_cons_zero, List.set_cons_succ, List.getElem_toArray, List.getElem_cons_zero, List.getElem_cons_succ]
          refine wpAnyH_take (i := 22) (v := ?_) rfl (by kernel_rfl) (by kernel_rfl) (by kernel_rfl) (fun _ _ _ h => h) (Or.inl ⟨by rfl, ?_⟩) (by assumption) ?_
          rotate_left
          · intro w' hSw; (try dsimp only at hSw); (go_simp; try with_reducible rfl)
          simp only [Act.put, List.setIfInBounds_toArray, List.set_cons_zero, List.set_cons_succ, List.getElem_toArray, List.getElem_cons_zero, List.getElem_cons_succ]
          refine wpAnyH_take (i := 23) (v := ?_) rfl (by kernel_rfl) (by kernel_rfl) (by kernel_rfl) (fun _ _ _ h => h) (Or.inl ⟨by rfl, ?_⟩) (by assumption) ?_
          rotate_left
          · intro w' hSw; (try dsimp only at hSw); (go_simp; try with_reducible rfl)
          simp only [Act.put, List.setIfInBounds_toArray, List.set_cons_zero, List.set_cons_succ, List.getElem_toArray, List.getElem_cons_zero, List.getElem_cons_succ]
          refine wpAnyH_take (i := 24) (v := ?_) rfl (by kernel_rfl) (by kernel_rfl) (by kernel_rfl) (fun _ _ _ h => h) (Or.inl ⟨by rfl, ?_⟩) (by assumption) ?_
          rotate_left
          · intro w' hSw; (try dsimp only at hSw); (go_simp; try with_reducible rfl)
          simp only [Act.put, List.setIfInBounds_toArray, List.set_cons_zero, List.set_cons_succ, List.getElem_toArray, List.getElem_cons_zero, List.getElem_cons_succ]
          refine wpAnyH_take (i := 25) (v := ?_) rfl (by kernel_rfl) (by kernel_rfl) (by kernel_rfl) (fun _ _ _ h => h) (Or.inl ⟨by rfl, ?_⟩) (by assumption) ?_
          rotate_left
          · intro w' hSw; (try dsimp only at hSw); (go_simp; try with_reducible rfl)
          simp only [Act.put, List.setIfInBounds_toArray, List.set_cons_zero, List.set_cons_succ, List.getElem_toArray, List.getElem_cons_zero, List.getElem_cons_succ]
          refine wpAnyH_take (i := 26) (v := ?_) rfl (by kernel_rfl) (by kernel_rfl) (by kernel_rfl) (fun _ _ _ h => h) (Or.inl ⟨by rfl, ?_⟩) (by assumption) ?_
          rotate_left
          · intro w' hSw; (try dsimp only at hSw); (go_simp; try with_reducible rfl)
          simp only [Act.put, List.setIfInBounds_toArray, List.set_cons_zero, List.set_cons_succ, List.getElem_toArray, List.getElem_cons_zero, List.getElem_cons_succ]
          refine wpAnyH_ready (rs := [27]) (by kernel_rfl) (by simp) ?_
          refine AllReadyH.cons rfl (fun K hK => ?_) AllReadyH.nil
          simp only [List.getElem_toArray, List.getElem_cons_zero, List.getElem_cons_succ]
          go_simp
          go_at_call 22
          refine (K6.out _ Z5).mono ?_
          rintro e wf ⟨rfl, bf⟩
          have Z6 := Z5.trans (bf.mono Z5.size)
          refine hK.out _ _ ?_ (fun hHeld => ?_)
          · exact KS.out _ Z6
          clear hK K
          refine wpAnyH_take (i := 28) (v := ?_) rfl (by kernel_rfl) (by kernel_rfl) (by kernel_rfl) (fun _ _ _ h => h) (Or.inl ⟨by rfl, ?_⟩) (by assumption) ?_
          rotate_left
          · intro w' hSw; (try dsimp only at hSw); (go_simp; try with_reducible rfl)
          simp only [Act.put, List.setIfInBounds_toArray, List.set_cons_zero, List.set_cons_succ, List.getElem_toArray, List.getElem_cons_zero, List.getElem_cons_succ]
          refine wpAnyH_take (i := 29) (v := ?_) rfl (by kernel_rfl) (by kernel_rfl) (by kernel_rfl) (fun _ _ _ h => h) (Or.inl ⟨by rfl, ?_⟩) (by assumption) ?_
          rotate_left
          · intro w' hSw; (try dsimp only at hSw); (go_simp; try with_reducible rfl)
          simp only [Act.put, List.setIfInBounds_toArray, List.set_cons_zero, List.set_cons_succ, List.getElem_toArray, List.getElem_cons_zero, List.getElem_cons_succ]
          refine wpAnyH_take (i := 30) (v := undef) rfl (by kernel_rfl) (by kernel_rfl) (by kernel_rfl) (fun _ _ _ h => h) (Or.inr ⟨by rfl, rfl⟩) (by assumption) ?_
          simp only [Act.put, List.setIfInBounds_toArray, List.set_cons_zero, List.set_cons_succ, List.getElem_toArray, List.getElem_cons_zero, List.getElem_cons_succ]
          refine wpAnyH_take (i := 31) (v := undef) rfl (by kernel_rfl) (by kernel_rfl) (by kernel_rfl) (fun _ _ _ h => h) (Or.inr ⟨by rfl, rfl⟩) (by assumption) ?_
          simp only [Act.put, List.setIfInBounds_toArray, List.set_cons_zero, List.set_cons_succ, List.getElem_toArray, List.getElem_cons_zero, List.getElem_cons_succ]
          refine wpAnyH_take (i := 32) (v := undef) rfl (by kernel_rfl) (by kernel_rfl) (by kernel_rfl) (fun _ _ _ h => h) (Or.inr ⟨by rfl, rfl⟩) (by assumption) ?_
          simp only [Act.put, List.setIfInBounds_toArray, List.set_cons_zero, List.set_cons_succ, List.getElem_toArray, List.getElem_cons_zero, List.getElem_cons_succ]
          refine wpAnyH_take (i := 33) (v := undef) rfl (by kernel_rfl) (by kernel_rfl) (by kernel_rfl) (fun _ _ _ h => h) (Or.inr ⟨by rfl, rfl⟩) (by assumption) ?_
          simp only [Act.put, List.setIfInBounds_toArray, List.set_cons_zero, List.set_cons_succ, List.getElem_toArray, List.getElem_cons_zero, List.getElem_cons_succ]
          refine wpAnyH_take (i := 34) (v := undef) rfl (by kernel_rfl) (by kernel_rfl) (by kernel_rfl) (fun _ _ _ h => h) (Or.inr ⟨by rfl, rfl⟩) (by assumption) ?_
          simp only [Act.put, List.setIfInBounds_toArray, List.set_cons_zero, List.set_cons_succ, List.getElem_toArray, List.getElem_cons_zero, List.getElem_cons_succ]
          refine wpAnyH_take (i := 35) (v := undef) rfl (by kernel_rfl) (by kernel_rfl) (by kernel_rfl) (fun _ _ _ h => h) (Or.inr ⟨by rfl, rfl⟩) (by assumption) ?_
          simp only [Act.put, List.setIfInBounds_toArray, List.set_cons_zero, List.set_cons_succ, List.getElem_toArray, List.getElem_cons_zero, List.getElem_cons_succ]
          refine wpAnyH_take (i := 36) (v := undef) rfl (by kernel_rfl) (by kernel_rfl) (by kernel_rfl) (fun _ _ _ h => h) (Or.inr ⟨by rfl, rfl⟩) (by assumption) ?_
          simp only [Act.put, List.setIfInBounds_toArray, List.set_cons_zero, List.set_cons_succ, List.getElem_toArray, List.getElem_cons_zero, List.getElem_cons_succ]
          refine wpAnyH_take (i := 37) (v := undef) rfl (by kernel_rfl) (by kernel_rfl) (by kernel_rfl) (fun _ _ _ h => h) (Or.inr ⟨by rfl, rfl⟩) (by assumption) ?_
          simp only [Act.put, List.setIfInBounds_toArray, List.set_cons_zero, List.set_cons_succ, List.getElem_toArray, List.getElem_cons_zero, List.getElem_cons_succ]
          refine wpAnyH_take (i := 38) (v := undef) rfl (by kernel_rfl) (by kernel_rfl) (by kernel_rfl) (fun _ _ _ h => h) (Or.inr ⟨by rfl, rfl⟩) (by assumption) ?_
          simp only [Act.put, List.setIfInBounds_toArray, List.set_cons_zero, List.set_cons_succ, List.getElem_toArray, List.getElem_cons_zero, List.getElem_cons_succ]
          refine wpAnyH_take (i := 39) (v := ?_) rfl (by kernel_rfl) (by kernel_rfl) (by kernel_rfl) (fun _ _ _ h => h) (Or.inl ⟨by rfl, ?_⟩) (by assumption) ?_
          rotate_left
          · intro w' hSw; (try dsimp only at hSw); (go_simp; try with_reducible rfl)
          simp only [Act.put, List.setIfInBounds_toArray, List.set_cons_zero, List.set_cons_succ, List.getElem_toArray, List.getElem_cons_zero, List.getElem_cons_succ]
          refine wpAnyH_take (i := 40) (v := ?_) rfl (by kernel_rfl) (by kernel_rfl) (by kernel_rfl) (fun _ _ _ h => h) (Or.inl ⟨by rfl, ?_⟩) (by assumption) ?_
          rotate_left
          · intro w' hSw; (try dsimp only at hSw); (go_simp; try with_reducible rfl)
          simp only [Act.put, List.setIfInBounds_toArray, List.set_cons_zero, List.set_cons_succ, List.getElem_toArray, List.getElem_cons_zero, List.getElem_cons_succ]
          refine wpAnyH_take (i := 41) (v := ?_) rfl (by kernel_rfl) (by kernel_rfl) (by kernel_rfl) (fun _ _ _ h => h) (Or.inl ⟨by rfl, ?_⟩) (by assumption) ?_
          rotate_left
          · intro w' hSw; (try dsimp only at hSw); (go_simp; try with_reducible rfl)
          simp only [Act.put, List.setIfInBounds_toArray, List.set_cons_zero, List.set_cons_succ, List.getElem_toArray, List.getElem_cons_zero, List.getElem_cons_succ]
          refine wpAnyH_done (by kernel_rfl) ?_ _
          go_wp2_with fail
          go_ret
          exact ⟨rfl, bl_go B8 Z6⟩
        | false =>
          have K6 := Lib.hid (fun (z : World) (Z : Below w8.heap.size w8 z) => show Calls Tryz.prog 22 #[.agg #[.int .i64 W, .int .i64 T, .slice B xs.length k], .slice (some ⟨g3, 0, none⟩) xs.length xs.length, .slice D L.length d] z (fun e w' => e = .returned (.bool true) ∧ Below z.heap.size z w') from by
            rw [HLL.out]
            exact CBE.out _ L HX.out HT.out HDIR.out.2 (some ⟨g3, 0, none⟩) D xs.length d z (R8.belo Z) (E8.belo Z) (RL8.belo Z))
          clear CTI CPO CBE CSI HX HT HTT HLE HPL HPT HTWO HDIR HLL
          go_upto_region 13 with fail
          refine wp_region_held_drew (S := (fun w' => (w'.cell? ⟨bx, 0, none⟩ = some (.int .i64 W) ∧ w'.cell? ⟨bx, 1, none⟩ = some (.int .i64 T) ∧ w'.cell? ⟨bx, 2, none⟩ = some (.slice B xs.length k)) ∧ w'.cell? ⟨bx + 1, 0, none⟩ = some (.int .i64 x) ∧ w'.cell? ⟨bx + 1, 1, none⟩ = some (.bool false))) (by kernel_rfl) ?_ (fun hHeld => ?_)
          · exact KS.out _ Z0
          refine wpAnyH_take (i := 0) (v := ?_) rfl (by kernel_rfl) (by kernel_rfl) (by kernel_rfl) (fun _ _ _ h => h) (Or.inl ⟨by rfl, ?_⟩) (by assumption) ?_
          rotate_left
          · intro w' hSw; (try dsimp only at hSw); (go_simp; try with_reducible rfl)
          simp only [Act.put, List.setIfInBounds_toArray, List.set_cons_zero, List.set_cons_succ, List.getElem_toArray, List.getElem_cons_zero]
          refine wpAnyH_take (i := 1) (v := ?_) rfl (by kernel_rfl) (by kernel_rfl) (by kernel_rfl) (fun _ _ _ h => h) (Or.inl ⟨by rfl, ?_⟩) (by assumption) ?_
          rotate_left
          · intro w' hSw; (try dsimp only at hSw); (go_simp; try with_reducible rfl)
          simp only [Act.put, List.setIfInBounds_toArray, List.set_cons_zero, List.set_cons_succ, List.getElem_toArray, List.getElem_cons_zero, List.getElem_cons_succ]
          refine wpAnyH_ready (rs := [2]) (by kernel_rfl) (by simp) ?_
          refine AllReadyH.cons rfl (fun K hK => ?_) AllReadyH.nil
          simp only [List.getElem_toArray, List.getElem_cons_zero, List.getElem_cons_succ]
          go_simp
          go_at_call 21
          refine (K1.out _ Z0).mono ?_
          rintro e wa ⟨rfl, ba⟩
          have Z1 := Z0.trans (ba.mono Z0.size)
          refine hK.out _ _ ?_ (fun hHeld => ?_)
          · exact KS.out _ Z1
          clear hK K
          refine wpAnyH_take (i := 3) (v := ?_) rfl (by kernel_rfl) (by kernel_rfl) (by kernel_rfl) (fun _ _ _ h => h) (Or.inl ⟨by rfl, ?_⟩) (by assumption) ?_
          rotate_left
          · intro w' hSw; (try dsimp only at hSw); (go_simp; try with_reducible rfl)
          simp only [Act.put, List.setIfInBounds_toArray, List.set_cons_zero, List.set_cons_succ, List.getElem_toArray, List.getElem_cons_zero, List.getElem_cons_succ]
          refine wpAnyH_take (i := 4) (v := ?_) rfl (by kernel_rfl) (by kernel_rfl) (by kernel_rfl) (fun _ _ _ h => h) (Or.inl ⟨by rfl, ?_⟩) (by assumption) ?_
          rotate_left
          · intro w' hSw; (try dsimp only at hSw); (go_simp; try with_reducible rfl)
          simp only [Act.put, List.setIfInBounds_toArray, List.set_cons_zero, List.set_cons_succ, List.getElem_toArray, List.getElem_cons_zero, List.getElem_cons_succ]
          refine wpAnyH_take (i := 5) (v := ?_) rfl (by kernel_rfl) (by kernel_rfl) (by kernel_rfl) (fun _ _ _ h => h) (Or.inl ⟨by rfl, ?_⟩) (by assumption) ?_
          rotate_left
          · intro w' hSw; (try dsimp only at hSw); (go_simp; try with_reducible rfl)
          simp only [Act.put, List.setIfInBounds_toArray, List.set_cons_zero, List.set_cons_succ, List.getElem_toArray, List.getElem_cons_zero, List.getElem_cons_succ]
          refine wpAnyH_take (i := 6) (v := ?_) rfl (by kernel_rfl) (by kernel_rfl) (by kernel_rfl) (fun _ _ _ h => h) (Or.inl ⟨by rfl, ?_⟩) (by assumption) ?_
          rotate_left
          · intro w' hSw; (try dsimp only at hSw); (go_simp; try with_reducible rfl)
          simp only [Act.put, List.setIfInBounds_toArray, List.set_cons_zero, List.set_cons_succ, List.getElem_toArray, List.getElem_cons_zero, List.getElem_cons_succ]
          refine wpAnyH_take (i := 7) (v := ?_) rfl (by kernel_rfl) (by kernel_rfl) (by kernel_rfl) (fun _ _ _ h => h) (Or.inl ⟨by rfl, ?_⟩) (by assumption) ?_
          rotate_left
          · intro w' hSw; (try dsimp only at hSw); (go_simp; try with_reducible rfl)
          simp only [Act.put, List.setIfInBounds_toArray, List.set_cons_zero, List.set_cons_succ, List.getElem_toArray, List.getElem_cons_zero, List.getElem_cons_succ]
          refine wpAnyH_take (i := 8) (v := ?_) rfl (by kernel_rfl) (by kernel_rfl) (by kernel_rfl) (fun _ _ _ h => h) (Or.inl ⟨by rfl, ?_⟩) (by assumption) ?_
          rotate_left
          · intro w' hSw; (try dsimp only at hSw); (go_simp; try with_reducible rfl)
          simp only [Act.put, List.setIfInBounds_toArray, List.set_cons_zero, List.set_cons_succ, List.getElem_toArray, List.getElem_cons_zero, List.getElem_cons_succ]
          refine wpAnyH_ready (rs := [9]) (by kernel_rfl) (by simp) ?_
          refine AllReadyH.cons rfl (fun K hK => ?_) AllReadyH.nil
          simp only [List.getElem_toArray, List.getElem_cons_zero, List.getElem_cons_succ]
          go_simp
          go_at_call 16
          refine (K2.out _ Z1).mono ?_
          rintro e wb ⟨gb, rfl, Wb, hgb, hgsb, bb⟩
          have Z2 := Z1.trans (bb.mono Z1.size)
          have Rb := Wb.rd
          refine hK.out _ _ ?_ (fun hHeld => ?_)
          · exact KS.out _ Z2
          clear hK K
          refine wpAnyH_ready (rs := [10]) (by kernel_rfl) (by simp) ?_
          refine AllReadyH.cons rfl (fun K hK => ?_) AllReadyH.nil
          simp only [List.getElem_toArray, List.getElem_cons_zero, List.getElem_cons_succ]
          go_simp
          go_at_call 22
          refine (K3.out _ _ Z2 Rb).mono ?_
          rintro e wc ⟨rfl, bc⟩
          have Z3 := Z2.trans (bc.mono Z2.size)
          refine hK.out _ _ ?_ (fun hHeld => ?_)
          · exact KS.out _ Z3
          clear hK K
          refine wpAnyH_take (i := 11) (v := ?_) rfl (by kernel_rfl) (by kernel_rfl) (by kernel_rfl) (fun _ _ _ h => h) (Or.inl ⟨by rfl, ?_⟩) (by assumption) ?_
          rotate_left
          · intro w' hSw; (try dsimp only at hSw); (go_simp; try with_reducible rfl)
          simp only [Act.put, List.setIfInBounds_toArray, List.set_cons_zero, List.set_cons_succ, List.getElem_toArray, List.getElem_cons_zero, List.getElem_cons_succ]
          refine wpAnyH_take (i := 12) (v := ?_) rfl (by kernel_rfl) (by kernel_rfl) (by kernel_rfl) (fun _ _ _ h => h) (Or.inl ⟨by rfl, ?_⟩) (by assumption) ?_
          rotate_left
          · intro w' hSw; (try dsimp only at hSw); (go_simp; try with_reducible rfl)
          simp only [Act.put, List.setIfInBounds_toArray, List.set_cons_zero, List.set_cons_succ, List.getElem_toArray, List.getElem_cons_zero, List.getElem_cons_succ]
          refine wpAnyH_take (i := 13) (v := ?_) rfl (by kernel_rfl) (by kernel_rfl) (by kernel_rfl) (fun _ _ _ h => h) (Or.inl ⟨by rfl, ?_⟩) (by assumption) ?_
          rotate_left
          · intro w' hSw; (try dsimp only at hSw); (go_simp; try with_reducible rfl)
          simp only [Act.put, List.setIfInBounds_toArray, List.set_cons_zero, List.set_cons_succ, List.getElem_toArray, List.getElem_cons_zero, List.getElem_cons_succ]
          refine wpAnyH_take (i := 14) (v := ?_) rfl (by kernel_rfl) (by kernel_rfl) (by kernel_rfl) (fun _ _ _ h => h) (Or.inl ⟨by rfl, ?_⟩) (by assumption) ?_
          rotate_left
          · intro w' hSw; (try dsimp only at hSw); (go_simp; try with_reducible rfl)
          simp only [Act.put, List.setIfInBounds_toArray, List.set_cons_zero, List.set_cons_succ, List.getElem_toArray, List.getElem_cons_zero, List.getElem_cons_succ]
          refine wpAnyH_take (i := 15) (v := ?_) rfl (by kernel_rfl) (by kernel_rfl) (by kernel_rfl) (fun _ _ _ h => h) (Or.inl ⟨by rfl, ?_⟩) (by assumption) ?_
          rotate_left
          · intro w' hSw; (try dsimp only at hSw); (go_simp; try with_reducible rfl)
          simp only [Act.put, List.setIfInBounds_toArray, List.set_cons_zero, List.set_cons_succ, List.getElem_toArray, List.getElem_cons_zero, List.getElem_cons_succ]
          refine wpAnyH_take (i := 17) (v := ?_) rfl (by kernel_rfl) (by kernel_rfl) (by kernel_rfl) (fun _ _ _ h => h) (Or.inl ⟨by rfl, ?_⟩) (by assumption) ?_
          rotate_left
          · intro w' hSw; (try dsimp only at hSw); (go_simp; try with_reducible rfl)
          simp only [Act.put, List.setIfInBounds_toArray, List.set_cons_zero, List.set_cons_succ, List.getElem_toArray, List.getElem_cons_zero, List.getElem_cons_succ]
          refine wpAnyH_ready (rs := [16]) (by kernel_rfl) (by simp) ?_
          refine AllReadyH.cons rfl (fun K hK => ?_) AllReadyH.nil
          simp only [List.getElem_toArray, List.getElem_cons_zero, List.getElem_cons_succ]
          go_simp
          go_at_call 16
          refine (K4.out _ Z3).mono ?_
          rintro e wd ⟨gd, rfl, Wd, hgd, hgsd, bd⟩
          have Z4 := Z3.trans (bd.mono Z3.size)
          have Rd4 := Wd.rd
          refine hK.out _ _ ?_ (fun hHeld => ?_)
          · exact KS.out _ Z4
          clear hK K
          refine wpAnyH_ready (rs := [18]) (by kernel_rfl) (by simp) ?_
          refine AllReadyH.cons rfl (fun K hK => ?_) AllReadyH.nil
          simp only [List.getElem_toArray, List.getElem_cons_zero, List.getElem_cons_succ]
          go_simp
          go_at_call 8
          refine (K5.out _ _ Z4 Rd4).mono ?_
          rintro e we ⟨rfl, be⟩
          have Z5 := Z4.trans (be.mono Z4.size)
          refine hK.out _ _ ?_ (fun hHeld => ?_)
          · exact KS.out _ Z5
          clear hK K
          refine wpAnyH_take (i := 19) (v := ?_) rfl (by kernel_rfl) (by kernel_rfl) (by kernel_rfl) (fun _ _ _ h => h) (Or.inl ⟨by rfl, ?_⟩) (by assumption) ?_
          rotate_left
          · intro w' hSw; (try dsimp only at hSw); (go_simp; try with_reducible rfl)
          simp only [Act.put, List.setIfInBounds_toArray, List.set_cons_zero, List.set_cons_succ, List.getElem_toArray, List.getElem_cons_zero, List.getElem_cons_succ]
          refine wpAnyH_take (i := 20) (v := ?_) rfl (by kernel_rfl) (by kernel_rfl) (by kernel_rfl) (fun _ _ _ h => h) (Or.inl ⟨by rfl, ?_⟩) (by assumption) ?_
          rotate_left
          · intro w' hSw; (try dsimp only at hSw); (go_simp; try with_reducible rfl)
          simp only [Act.put, List.setIfInBounds_toArray, List.set_cons_zero, List.set_cons_succ, List.getElem_toArray, List.getElem_cons_zero, List.getElem_cons_succ]
          refine wpAnyH_take (i := 21) (v := ?_) rfl (by kernel_rfl) (by kernel_rfl) (by kernel_rfl) (fun _ _ _ h => h) (Or.inl ⟨by rfl, ?_⟩) (by assumption) ?_
          rotate_left
          · intro w' hSw; (try dsimp only at hSw); (go_simp; try with_reducible rfl)
          simp only [Act.put, List.setIfInBounds_toArray, List.set_cons_zero, List.set_cons_succ, List.getElem_toArray, List.getElem_cons_zero, List.getElem_cons_succ]
          refine wpAnyH_take (i := 22) (v := ?_) rfl (by kernel_rfl) (by kernel_rfl) (by kernel_rfl) (fun _ _ _ h => h) (Or.inl ⟨by rfl, ?_⟩) (by assumption) ?_
          rotate_left
          · intro w' hSw; (try dsimp only at hSw); (go_simp; try with_reducible rfl)
          simp only [Act.put, List.setIfInBounds_toArray, List.set_cons_zero, List.set_cons_succ, List.getElem_toArray, List.getElem_cons_zero, List.getElem_cons_succ]
          refine wpAnyH_take (i := 23) (v := ?_) rfl (by kernel_rfl) (by kernel_rfl) (by kernel_rfl) (fun _ _ _ h => h) (Or.inl ⟨by rfl, ?_⟩) (by assumption) ?_
          rotate_left
          · intro w' hSw; (try dsimp only at hSw); (go_simp; try with_reducible rfl)
          simp only [Act.put, List.setIfInBounds_toArray, List.set_cons_zero, List.set_cons_succ, List.getElem_toArray, List.getElem_cons_zero, List.getElem_cons_succ]
          refine wpAnyH_take (i := 24) (v := undef) rfl (by kernel_rfl) (by kernel_rfl) (by kernel_rfl) (fun _ _ _ h => h) (Or.inr ⟨by rfl, rfl⟩) (by assumption) ?_
          simp only [Act.put, List.setIfInBounds_toArray, List.set_cons_zero, List.set_cons_succ, List.getElem_toArray, List.getElem_cons_zero, List.getElem_cons_succ]
          refine wpAnyH_take (i := 25) (v := undef) rfl (by kernel_rfl) (by kernel_rfl) (by kernel_rfl) (fun _ _ _ h => h) (Or.inr ⟨by rfl, rfl⟩) (by assumption) ?_
          simp only [Act.put, List.setIfInBounds_toArray, List.set_cons_zero, List.set_cons_succ, List.getElem_toArray, List.getElem_cons_zero, List.getElem_cons_succ]
          refine wpAnyH_take (i := 26) (v := undef) rfl (by kernel_rfl) (by kernel_rfl) (by kernel_rfl) (fun _ _ _ h => h) (Or.inr ⟨by rfl, rfl⟩) (by assumption) ?_
          simp only [Act.put, List.setIfInBounds_toArray, List.set_cons_zero, List.set_cons_succ, List.getElem_toArray, List.getElem_cons_zero, List.getElem_cons_succ]
          refine wpAnyH_take (i := 27) (v := undef) rfl (by kernel_rfl) (by kernel_rfl) (by kernel_rfl) (fun _ _ _ h => h) (Or.inr ⟨by rfl, rfl⟩) (by assumption) ?_
          simp only [Act.put, List.setIfInBounds_toArray, List.set_cons_zero, List.set_cons_succ, List.getElem_toArray, List.getElem_cons_zero, List.getElem_cons_succ]
          refine wpAnyH_take (i := 28) (v := ?_) rfl (by kernel_rfl) (by kernel_rfl) (by kernel_rfl) (fun _ _ _ h => h) (Or.inl ⟨by rfl, ?_⟩) (by assumption) ?_
          rotate_left
          · intro w' hSw; (try dsimp only at hSw); (go_simp; try with_reducible rfl)
          simp only [Act.put, List.setIfInBounds_toArray, List.set_cons_zero, List.set_cons_succ, List.getElem_toArray, List.getElem_cons_zero, List.getElem_cons_succ]
          refine wpAnyH_take (i := 29) (v := ?_) rfl (by kernel_rfl) (by kernel_rfl) (by kernel_rfl) (fun _ _ _ h => h) (Or.inl ⟨by rfl, ?_⟩) (by assumption) ?_
          rotate_left
          · intro w' hSw; (try dsimp only at hSw); (go_simp; try with_reducible rfl)
          simp only [Act.put, List.setIfInBounds_toArray, List.set_cons_zero, List.set_cons_succ, List.getElem_toArray, List.getElem_cons_zero, List.getElem_cons_succ]
          refine wpAnyH_take (i := 30) (v := ?_) rfl (by kernel_rfl) (by kernel_rfl) (by kernel_rfl) (fun _ _ _ h => h) (Or.inl ⟨by rfl, ?_⟩) (by assumption) ?_
          rotate_left
          · intro w' hSw; (try dsimp only at hSw); (go_simp; try with_reducible rfl)
          simp only [Act.put, List.setIfInBounds_toArray, List.set_cons_zero, List.set_cons_succ, List.getElem_toArray, List.getElem_cons_zero, List.getElem_cons_succ]
          refine wpAnyH_take (i := 31) (v := ?_) rfl (by kernel_rfl) (by kernel_rfl) (by kernel_rfl) (fun _ _ _ h => h) (Or.inl ⟨by rfl, ?_⟩) (by assumption) ?_
          rotate_left
          · intro w' hSw; (try dsimp only at hSw); (go_simp; try with_reducible rfl)
          simp only [Act.put, List.setIfInBounds_toArray, List.set_cons_zero, List.set_cons_succ, List.getElem_toArray, List.getElem_cons_zero, List.getElem_cons_succ]
          refine wpAnyH_take (i := 32) (v := ?_) rfl (by kernel_rfl) (by kernel_rfl) (by kernel_rfl) (fun _ _ _ h => h) (Or.inl ⟨by rfl, ?_⟩) (by assumption) ?_
          rotate_left
          · intro w' hSw; (try dsimp only at hSw); (go_simp; try with_reducible rfl)
          simp only [Act.put, List.setIfInBounds_toArray, List.set_cons_zero, List.set_cons_succ, List.getElem_toArray, List.getElem_cons_zero, List.getElem_cons_succ]
          refine wpAnyH_take (i := 33) (v := ?_) rfl (by kernel_rfl) (by kernel_rfl) (by kernel_rfl) (fun _ _ _ h => h) (Or.inl ⟨by rfl, ?_⟩) (by assumption) ?_
          rotate_left
          · intro w' hSw; (try dsimp only at hSw); (go_simp; try with_reducible rfl)
          simp only [Act.put, List.setIfInBounds_toArray, List.set_cons_zero, List.set_cons_succ, List.getElem_toArray, List.getElem_cons_zero, List.getElem_cons_succ]
          refine wpAnyH_take (i := 34) (v := ?_) rfl (by kernel_rfl) (by kernel_rfl) (by kernel_rfl) (fun _ _ _ h => h) (Or.inl ⟨by rfl, ?_⟩) (by assumption) ?_
          rotate_left
          · intro w' hSw; (try dsimp only at hSw); (go_simp; try with_reducible rfl)
          simp only [Act.put, List.setIfInBounds_toArray, List.set_cons_zero, List.set_cons_succ, List.getElem_toArray, List.getElem_cons_zero, List.getElem_cons_succ]
          refine wpAnyH_take (i := 35) (v := ?_) rfl (by kernel_rfl) (by kernel_rfl) (by kernel_rfl) (fun _ _ _ h => h) (Or.inl ⟨by rfl, ?_⟩) (by assumption) ?_
          rotate_left
          · intro w' hSw; (try dsimp only at hSw); (go_simp; try with_reducible rfl)
          simp only [Act.put, List.setIfInBounds_toArray, List.set_cons_zero, List.set_cons_succ, List.getElem_toArray, List.getElem_cons_zero, List.getElem_cons_succ]
          refine wpAnyH_take (i := 36) (v := ?_) rfl (by kernel_rfl) (by kernel_rfl) (by kernel_rfl) (fun _ _ _ h => h) (Or.inl ⟨by rfl, ?_⟩) (by assumption) ?_
          rotate_left
          · intro w' hSw; (try dsimp only at hSw); (go_simp; try with_reducible rfl)
          simp only [Act.put, List.setIfInBounds_toArray, List.set_cons_zero, List.set_cons_succ, List.getElem_toArray, List.getElem_cons_zero, List.getElem_cons_succ]
          refine wpAnyH_ready (rs := [37]) (by kernel_rfl) (by simp) ?_
          refine AllReadyH.cons rfl (fun K hK => ?_) AllReadyH.nil
          simp only [List.getElem_toArray, List.getElem_cons_zero, List.getElem_cons_succ]
          go_simp
          go_at_call 22
          refine (K6.out _ Z5).mono ?_
          rintro e wf ⟨rfl, bf⟩
          have Z6 := Z5.trans (bf.mono Z5.size)
          refine hK.out _ _ ?_ (fun hHeld => ?_)
          · exact KS.out _ Z6
          clear hK K
          refine wpAnyH_take (i := 38) (v := ?_) rfl (by kernel_rfl) (by kernel_rfl) (by kernel_rfl) (fun _ _ _ h => h) (Or.inl ⟨by rfl, ?_⟩) (by assumption) ?_
          rotate_left
          · intro w' hSw; (try dsimp only at hSw); (go_simp; try with_reducible rfl)
          simp only [Act.put, List.setIfInBounds_toArray, List.set_cons_zero, List.set_cons_succ, List.getElem_toArray, List.getElem_cons_zero, List.getElem_cons_succ]
          refine wpAnyH_take (i := 39) (v := ?_) rfl (by kernel_rfl) (by kernel_rfl) (by kernel_rfl) (fun _ _ _ h => h) (Or.inl ⟨by rfl, ?_⟩) (by assumption) ?_
          rotate_left
          · intro w' hSw; (try dsimp only at hSw); (go_simp; try with_reducible rfl)
          simp only [Act.put, List.setIfInBounds_toArray, List.set_cons_zero, List.set_cons_succ, List.getElem_toArray, List.getElem_cons_zero, List.getElem_cons_succ]
          refine wpAnyH_take (i := 40) (v := ?_) rfl (by kernel_rfl) (by kernel_rfl) (by kernel_rfl) (fun _ _ _ h => h) (Or.inl ⟨by rfl, ?_⟩) (by assumption) ?_
          rotate_left
          · intro w' hSw; (try dsimp only at hSw); (go_simp; try with_reducible rfl)
          simp only [Act.put, List.setIfInBounds_toArray, List.set_cons_zero, List.set_cons_succ, List.getElem_toArray, List.getElem_cons_zero, List.getElem_cons_succ]
          refine wpAnyH_take (i := 41) (v := ?_) rfl (by kernel_rfl) (by kernel_rfl) (by kernel_rfl) (fun _ _ _ h => h) (Or.inl ⟨by rfl, ?_⟩) (by assumption) ?_
          rotate_left
          · intro w' hSw; (try dsimp only at hSw); (go_simp; try with_reducible rfl)
          simp only [Act.put, List.setIfInBounds_toArray, List.set_cons_zero, List.set_cons_succ, List.getElem_toArray, List.getElem_cons_zero, List.getElem_cons_succ]
          refine wpAnyH_done (by kernel_rfl) ?_ _
          go_wp2_with fail
          go_ret
          exact ⟨rfl, bl_go B8 Z6⟩
    · have hg' : decide ((1048576 : Int) < (zs.length : Int)) = true := by simp; omega
      go_enter Tryz.func4, Tryz.ntmps4
      go_wp2
      go_ret
      exact ⟨rfl, Below.refl _ _⟩
  · have hg : decide ((1048576 : Int) < (bs.length : Int)) = true := by simp; omega
    go_enter Tryz.func4, Tryz.ntmps4
    go_wp2
    go_ret
    exact ⟨rfl, Below.refl _ _⟩
end Go.Proofs.YtafmpgikdhlknaaGreat
