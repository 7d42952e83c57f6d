/- Contracts: dominoes on a region, in the program: lays, full, LaidOk, TilingOk. -/
import Derived.Test.YthkpiacanfajbaaLayN
import Derived.Test.YthkpiacanfajbaaStep
import Derived.Test.YthkpiacanfajbaaMemE
import Derived.Test.YthkpiacanfajbaaCellApp
namespace Go.Proofs.Ythkpiacanfajbaa
open Go.RowKit

set_option maxRecDepth 100000 in
set_option maxHeartbeats 1000000 in
theorem lays_any (W T : Int) (A A' : Option Addr) (c c' : Nat) (bs : List Bool) (L : List Int) (w : World) (h1 : 1 ≤ W) (h2 : W ≤ 6) (h3 : 1 ≤ T) (h4 : T ≤ 6) (hl : (bs.length : Int) = W * T)
    (hr : Rd w A (bs.map .bool)) (hr' : Rd w A' (L.map (.int .i64))) (hn : L.length ≤ maxLen) :
    Calls Try.prog 108 #[.agg #[.int .i64 W, .int .i64 T, .slice A bs.length c], .slice A' L.length c'] w fun e w' => e = .returned (.bool (laysB W T bs L)) ∧ Below w.heap.size w w' := by
  have n36 := mul_bd h1 h2 h3 h4
  have hb36 : bs.length ≤ 36 := by omega
  unfold maxLen at hn
  have X0 := C3.new w (.int .i64 W) (.int .i64 T) (.slice A bs.length c) 31
  have B0 := bl_alloc (Below.refl w.heap.size w) (.cells #[.int .i64 W, .int .i64 T, .slice A bs.length c] 31)
  have HL := Lib.hid hl
  clear hl
  by_cases hll : L.length = bs.length
  · have hq : ((L.length : Int) != (bs.length : Int)) = false := by simp [hll]
    have HLL := Lib.hid hll
    have hn36 : L.length ≤ 36 := by omega
    clear hll
    go_enter Try.func108, Try.ntmps108
    go_wp2_with fail
    generalize w.alloc (.cells #[.int .i64 W, .int .i64 T, .slice A bs.length c] 31) = wq at *
    go_loopw [16] (fun i wr => ∃ k : Nat, k ≤ L.length ∧ i = .int .i64 k ∧ Hid (∀ j, j < k → laidAt W T bs L j = true) ∧ Below w.heap.size w wr ∧ C3 wr w.heap.size (.int .i64 W) (.int .i64 T) (.slice A bs.length c)) (fun i _ => L.length - (intOf i).toNat)
    case atStart => exact ⟨0, Nat.zero_le _, rfl, fun j h => by omega, B0, X0⟩
    case round =>
      clear B0 X0
      obtain ⟨k, hk, rfl, HK, B1, X1⟩ := hrel
      by_cases hlt : k < L.length
      · have hkb : k < bs.length := by have := HLL.out; omega
        have r1 := hr.belo B1
        have r2 := hr'.belo B1
        obtain ⟨b, off, rfl, ck⟩ := r2.atEM hlt
        obtain ⟨b', off', rfl, -⟩ := r1.atEM hkb
        have HD := Lib.hid (getD_in L 0 hlt)
        generalize L[k] = d at ck HD
        by_cases hd : d = 0
        · have HS := Lib.hid (laidAt_0 (W := W) (T := T) (bs := bs) (HD.out.trans hd))
          have hd1 : (d == 0) = true := by simpa using hd
          clear hd
          go_wp2_with fail
          go_roundw
          case rel =>
            refine ⟨k + 1, by omega, by go_num, fun j hj => ?_, B1, X1⟩
            rcases Nat.lt_or_ge j k with h | h
            · exact HK.out j h
            · obtain rfl : j = k := by omega
              exact HS.out
          case measure => simp [intOf]; omega
        · have HD0 := Lib.hid (show L.getD k 0 ≠ 0 by rw [HD.out]; exact hd)
          have hd1 : (d == 0) = false := by simpa using hd
          have kl : (k : Int) < W * T := by have := HL.out; omega
          have hsb := step_bd d h1 h2 h3 h4 (show 0 ≤ (k : Int) by omega) kl
          have HKL := Lib.hid kl
          clear hd kl
          obtain ⟨x0, x1, x2⟩ := id X1
          go_wp2_with fail
          refine (step_any W T _ k d _ h1 h2 h3 h4 (by omega) HKL.out).mono ?_
          rintro e w2 ⟨rfl, b2⟩
          have B2 := bl_go B1 b2
          have X2 := X1.belo b2
          have r3 := r1.belo b2
          have r4 := r2.belo b2
          clear x0 x1 x2 ck X1 r1 r2 B1 b2
          obtain ⟨x0, x1, x2⟩ := id X2
          obtain ⟨t, ht⟩ : ∃ t, stepZ W T k d = t := ⟨_, rfl⟩
          have HT := Lib.hid ht
          rw [ht] at hsb ⊢
          clear ht
          rcases hsb with rfl | ⟨s0, s1⟩
          · have HF := Lib.hid (laysB_f k hlt (laidAt_out (bs := bs) HD0.out (by rw [HD.out, HT.out]; omega)))
            go_wp2_with fail
            go_quiet (fail)
            go_wp2
            go_ret
            exact ⟨ret_b HF.out.symm, below_drewN' B2 _⟩
          · obtain ⟨t, rfl⟩ := Int.eq_ofNat_of_zero_le s0
            have htb : t < bs.length := by have := HL.out; omega
            have htl : t < L.length := by have := HLL.out; omega
            have hdir := step_dir (W := W) (T := T) (c := k) (d := d) (by rw [HT.out]; omega)
            have HS := Lib.hid (laidAt_in (bs := bs) HD0.out (show stepZ W T k (L.getD k 0) = (t : Int) by rw [HD.out, HT.out]))
            have HBK := Lib.hid (fun z => iback_any d z (by omega) (by omega))
            have ck := r3.cellEM hkb
            have ct := r3.cellEM htb
            have lt := r4.cellEM htl
            have HG1 := Lib.hid (getD_in bs false hkb)
            have HG2 := Lib.hid (getD_in bs false htb)
            have HG3 := Lib.hid (getD_in L 0 htl)
            generalize bs[k] = bk at ck HG1
            generalize bs[t] = bt at ct HG2
            generalize L[t] = lv at lt HG3
            have I0 : (0 : Int) ≤ (k : Int) := by omega
            have I1 : (k : Int) < (bs.length : Int) := by omega
            have I2 : (0 : Int) ≤ (t : Int) := by omega
            have I3 : (t : Int) < (bs.length : Int) := by omega
            have I4 : (t : Int) < (L.length : Int) := by omega
            have hneg : decide ((t : Int) < 0) = false := by simp
            clear s0 s1 hdir
            cases bk with
            | false =>
              have HF := Lib.hid (laysB_f k hlt (by rw [HS.out, HG1.out]; rfl))
              go_wp2_with fail
              go_quiet (fail)
              go_wp2
              go_ret
              exact ⟨ret_b HF.out.symm, below_drewN' B2 _⟩
            | true =>
              cases bt with
              | false =>
                have HF := Lib.hid (laysB_f k hlt (by rw [HS.out, HG1.out, HG2.out]; rfl))
                go_wp2_with fail
                go_quiet (fail)
                go_wp2
                go_ret
                exact ⟨ret_b HF.out.symm, below_drewN' B2 _⟩
              | true =>
                by_cases hv : lv = backZ d
                · have HF := Lib.hid (show laidAt W T bs L k = true by rw [HS.out, HG1.out, HG2.out, HG3.out, HD.out, decide_eq_true hv]; rfl)
                  have hv1 : (lv != backZ d) = false := by simp [hv]
                  clear hv
                  go_wp2_with fail
                  go_quiet ((go_at_call 83; with_reducible exact quietL (HBK.out _)))
                  clear hneg
                  go_wp2
                  go_roundw
                  case rel =>
                    refine ⟨k + 1, by omega, by go_num, fun j hj => ?_, below_drewN' B2 _, X2⟩
                    rcases Nat.lt_or_ge j k with h | h
                    · exact HK.out j h
                    · obtain rfl : j = k := by omega
                      exact HF.out
                  case measure => simp [intOf]; omega
                · have HF := Lib.hid (laysB_f k hlt (by rw [HS.out, HG1.out, HG2.out, HG3.out, HD.out, decide_eq_false hv]; rfl))
                  have hv1 : (lv != backZ d) = true := by simpa using hv
                  clear hv
                  go_wp2_with fail
                  go_quiet ((go_at_call 83; with_reducible exact quietL (HBK.out _)))
                  clear hneg
                  go_wp2
                  go_ret
                  exact ⟨ret_b HF.out.symm, below_drewN' B2 _⟩
      · have HF := Lib.hid (laysB_t (W := W) (T := T) HLL.out (fun j hj => HK.out j (by omega)))
        go_wp2
        go_ret
        exact ⟨ret_b HF.out.symm, B1⟩
  · have HF := Lib.hid (laysB_len (W := W) (T := T) hll)
    have hq : ((L.length : Int) != (bs.length : Int)) = true := by simp; omega
    clear hll
    go_enter Try.func108, Try.ntmps108
    go_wp2
    go_ret
    exact ⟨ret_b HF.out.symm, B0⟩
set_option maxRecDepth 100000 in
set_option maxHeartbeats 1000000 in
theorem full_any (W T : Int) (A A' : Option Addr) (c c' : Nat) (bs : List Bool) (L : List Int) (w : World) (hl : L.length = bs.length) (hr : Rd w A (bs.map .bool)) (hr' : Rd w A' (L.map (.int .i64))) (hn : bs.length ≤ maxLen) :
    Calls Try.prog 89 #[.agg #[.int .i64 W, .int .i64 T, .slice A bs.length c], .slice A' L.length c'] w fun e w' => e = .returned (.bool (fullB bs L)) ∧ Below w.heap.size w w' := by
  unfold maxLen at hn
  have B0 := bl_alloc (Below.refl w.heap.size w) (.cells #[.int .i64 W, .int .i64 T, .slice A bs.length c] 31)
  have r1 := hr.belo B0
  have r2 := hr'.belo B0
  have HL := Lib.hid hl
  have hln : L.length ≤ 9223372036854775807 := by omega
  have hle : bs.length ≤ L.length := by omega
  clear hl hr hr'
  go_enter Try.func89, Try.ntmps89
  go_wp2_with fail
  generalize w.alloc (.cells #[.int .i64 W, .int .i64 T, .slice A bs.length c] 31) = wq at *
  go_loop [10] (fun i => ∃ k : Nat, k ≤ bs.length ∧ i = .int .i64 k ∧ Hid (∀ j, j < k → (bs.getD j false && decide (L.getD j 0 = 0)) = false)) (fun i => bs.length - (intOf i).toNat)
  case atStart => exact ⟨0, Nat.zero_le _, rfl, fun j h => by omega⟩
  case round =>
    obtain ⟨k, hk, rfl, HK⟩ := hrel
    by_cases hlt : k < bs.length
    · have hkl : k < L.length := by omega
      obtain ⟨b, off, rfl, ck⟩ := r1.atEM hlt
      obtain ⟨b', off', rfl, lk⟩ := r2.atEM hkl
      have HG1 := Lib.hid (getD_in bs false hlt)
      have HG2 := Lib.hid (getD_in L 0 hkl)
      generalize bs[k] = bk at ck HG1
      generalize L[k] = lv at lk HG2
      cases bk with
      | false =>
        have HF := Lib.hid (show (bs.getD k false && decide (L.getD k 0 = 0)) = false by rw [HG1.out]; rfl)
        go_wp2
        go_round
        case rel =>
          refine ⟨k + 1, by omega, by go_num, fun j hj => ?_⟩
          rcases Nat.lt_or_ge j k with h | h
          · exact HK.out j h
          · obtain rfl : j = k := by omega
            exact HF.out
        case measure => simp [intOf]; omega
      | true =>
        by_cases hv : lv = 0
        · have HF := Lib.hid (fullB_f k hlt (show (bs.getD k false && decide (L.getD k 0 = 0)) = true by rw [HG1.out, HG2.out, decide_eq_true hv]; rfl))
          have hv1 : (lv == 0) = true := by simpa using hv
          clear hv
          go_wp2
          go_ret
          exact ⟨ret_b HF.out.symm, B0⟩
        · have HF := Lib.hid (show (bs.getD k false && decide (L.getD k 0 = 0)) = false by rw [HG1.out, HG2.out, decide_eq_false hv]; rfl)
          have hv1 : (lv == 0) = false := by simpa using hv
          clear hv
          go_wp2
          go_round
          case rel =>
            refine ⟨k + 1, by omega, by go_num, fun j hj => ?_⟩
            rcases Nat.lt_or_ge j k with h | h
            · exact HK.out j h
            · obtain rfl : j = k := by omega
              exact HF.out
          case measure => simp [intOf]; omega
    · have HF := Lib.hid (fullB_t (bs := bs) (L := L) (fun j hj => HK.out j (by omega)))
      go_wp2
      go_ret
      exact ⟨ret_b HF.out.symm, B0⟩
set_option maxRecDepth 100000 in
set_option maxHeartbeats 1000000 in
theorem iLaidOk_any (W T : Int) (A A' : Option Addr) (c c' : Nat) (bs : List Bool) (L : List Int) (w : World) (hr : Rd w A (bs.map .bool)) (hr' : Rd w A' (L.map (.int .i64))) (hb : bs.length ≤ maxLen) (hn : L.length ≤ maxLen) :
    Calls Try.prog 88 #[.agg #[.int .i64 W, .int .i64 T, .slice A bs.length c], .slice A' L.length c'] w fun e w' => e = .returned (.bool (laidOkB W T bs L)) ∧ Below w.heap.size w w' := by
  have X0 := C3.new w (.int .i64 W) (.int .i64 T) (.slice A bs.length c) 31
  cases hv : validB W T bs with
  | true =>
    obtain ⟨h1, h2, h3, h4, h5, h6⟩ := valid_len hv
    have HF := Lib.hid (show laidOkB W T bs L = laysB W T bs L by unfold laidOkB; rw [hv]; rfl)
    have H6 := Lib.hid h6
    clear h6
    go_enter Try.func88, Try.ntmps88
    go_wp2_with fail
    refine (iRegionValid_any _ _ _ _ _ _ (hr.alloc _) hb).mono ?_
    rintro e w1 ⟨rfl, b1⟩
    rw [hv]
    have B1 := bl_go (bl_alloc (Below.refl w.heap.size w) _) b1
    obtain ⟨x0, x1, x2⟩ := X0.belo b1
    go_wp2_with fail
    refine (lays_any W T A A' c c' bs L _ h1 h2 h3 h4 H6.out (hr.belo B1) (hr'.belo B1) hn).mono ?_
    rintro e w2 ⟨rfl, b2⟩
    go_wp2
    go_ret
    exact ⟨ret_b HF.out.symm, bl_go B1 b2⟩
  | false =>
    have HF := Lib.hid (show laidOkB W T bs L = false by unfold laidOkB; rw [hv]; rfl)
    go_enter Try.func88, Try.ntmps88
    go_wp2_with fail
    refine (iRegionValid_any _ _ _ _ _ _ (hr.alloc _) hb).mono ?_
    rintro e w1 ⟨rfl, b1⟩
    rw [hv]
    have B1 := bl_go (bl_alloc (Below.refl w.heap.size w) _) b1
    go_wp2
    go_ret
    exact ⟨ret_b HF.out.symm, B1⟩
set_option maxRecDepth 100000 in
set_option maxHeartbeats 1000000 in
theorem iTilingOk_any (W T : Int) (A A' : Option Addr) (c c' : Nat) (bs : List Bool) (L : List Int) (w : World) (hr : Rd w A (bs.map .bool)) (hr' : Rd w A' (L.map (.int .i64))) (hb : bs.length ≤ maxLen) (hn : L.length ≤ maxLen) :
    Calls Try.prog 41 #[.agg #[.int .i64 W, .int .i64 T, .slice A bs.length c], .slice A' L.length c'] w fun e w' => e = .returned (.bool (tilingB W T bs L)) ∧ Below w.heap.size w w' := by
  have X0 := C3.new w (.int .i64 W) (.int .i64 T) (.slice A bs.length c) 31
  cases hv : laidOkB W T bs L with
  | true =>
    have hlen : L.length = bs.length := by
      unfold laidOkB at hv
      cases h : laysB W T bs L with
      | true => unfold laysB at h; simp at h; exact h.1
      | false => rw [h] at hv; simp at hv
    have HF := Lib.hid (show tilingB W T bs L = fullB bs L by unfold tilingB; rw [hv]; rfl)
    have HLN := Lib.hid hlen
    clear hlen
    go_enter Try.func41, Try.ntmps41
    go_wp2_with fail
    refine (iLaidOk_any _ _ _ _ _ _ _ _ _ (hr.alloc _) (hr'.alloc _) hb hn).mono ?_
    rintro e w1 ⟨rfl, b1⟩
    rw [hv]
    have B1 := bl_go (bl_alloc (Below.refl w.heap.size w) _) b1
    obtain ⟨x0, x1, x2⟩ := X0.belo b1
    go_wp2_with fail
    refine (full_any W T A A' c c' bs L _ HLN.out (hr.belo B1) (hr'.belo B1) hb).mono ?_
    rintro e w2 ⟨rfl, b2⟩
    go_wp2
    go_ret
    exact ⟨ret_b HF.out.symm, bl_go B1 b2⟩
  | false =>
    have HF := Lib.hid (show tilingB W T bs L = false by unfold tilingB; rw [hv]; rfl)
    go_enter Try.func41, Try.ntmps41
    go_wp2_with fail
    refine (iLaidOk_any _ _ _ _ _ _ _ _ _ (hr.alloc _) (hr'.alloc _) hb hn).mono ?_
    rintro e w1 ⟨rfl, b1⟩
    rw [hv]
    have B1 := bl_go (bl_alloc (Below.refl w.heap.size w) _) b1
    go_wp2
    go_ret
    exact ⟨ret_b HF.out.symm, B1⟩
end Go.Proofs.Ythkpiacanfajbaa
