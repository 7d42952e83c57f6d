
/- Contracts: dominoes on a region, in the reference: LaidOk, LaidBare, LayOne. -/
import Derived.Test.YtafmpgikdhlknaaGreatLayN
import Derived.Test.YtafmpgikdhlknaaGreatStepTo
import Derived.Test.YtafmpgikdhlknaaGreatMemE
import Derived.Test.YtafmpgikdhlknaaGreatBw
import Derived.Test.YtafmpgikdhlknaaGreatGb
namespace Go.Proofs.YtafmpgikdhlknaaGreat
open Go.RowKit

set_option maxRecDepth 100000 in
set_option maxHeartbeats 1000000 in
theorem sLaidOk_any (W T : Int) (A A' : Option Addr) (c c' : Nat) (bs : List Bool) (L : List Int) (w : World) (hr : Rd w A (bs.map .bool)) (hr' : Rd w A' (L.map (.int .i64))) (hbm : bs.length ≤ maxLen) (_hnm : L.length ≤ maxLen) :
    Calls Tryz.prog 87 #[.agg #[.int .i64 W, .int .i64 T, .slice A bs.length c], .slice A' L.length c'] w fun e w' => e = .returned (.bool (laidOkB W T bs L)) ∧ Below w.heap.size w w' := by
  have X0 := C3.new w (.int .i64 W) (.int .i64 T) (.slice A bs.length c) 25
  have B0 := bl_alloc (Below.refl w.heap.size w) (.cells #[.int .i64 W, .int .i64 T, .slice A bs.length c] 25)
  cases hv : validB W T bs with
  | false =>
    have HF := Lib.hid (show laidOkB W T bs L = false by unfold laidOkB; rw [hv]; rfl)
    go_enter Tryz.func87, Tryz.ntmps87
    go_wp2_with fail
    refine (sRegionValid_any _ _ _ _ _ _ (hr.alloc _) hbm).mono ?_
    rintro e w1 ⟨rfl, b1⟩
    rw [hv]
    have B1 := bl_go B0 b1
    go_wp2
    go_ret
    exact ⟨ret_b HF.out.symm, B1⟩
  | true =>
    obtain ⟨h1, h2, h3, h4, hb36, hl⟩ := valid_len hv
    have HF0 := Lib.hid (show laidOkB W T bs L = laysB W T bs L by unfold laidOkB; rw [hv]; rfl)
    have HL := Lib.hid hl
    have HRV := Lib.hid (fun z R => by have := sRegionValid_any W T A c bs z R hbm; rw [hv] at this; exact this)
    clear hl hv
    by_cases hll : L.length = bs.length
    · have hq : ((L.length : Int) != (bs.length : Int)) = false := by simp [hll]
      have HLL := Lib.hid hll
      have hn36 : L.length ≤ 36 := by omega
      clear hll
      go_enter Tryz.func87, Tryz.ntmps87
      go_wp2_with fail
      refine (HRV.out _ (hr.alloc _)).mono ?_
      rintro e w1 ⟨rfl, b1⟩
      have B1 := bl_go B0 b1
      have X1 := X0.belo b1
      obtain ⟨x0, x1, x2⟩ := id X1
      clear B0 X0 b1
      go_wp2_with fail
      clear x0 x1 x2 hq
      go_loopw [5] (fun i wr => ∃ k : Nat, k ≤ L.length ∧ i = .int .i64 k ∧ Hid (∀ j, j < k → laidAt W T bs L j = true) ∧ Below w.heap.size w wr ∧ C3 wr w.heap.size (.int .i64 W) (.int .i64 T) (.slice A bs.length c)) (fun i _ => L.length - (intOf i).toNat)
      case atStart => exact ⟨0, Nat.zero_le _, rfl, fun j h => by omega, B1, X1⟩
      case round =>
        clear B1 X1
        obtain ⟨k, hk, rfl, HK, B1, X1⟩ := hrel
        by_cases hlt : k < L.length
        · have hkb : k < bs.length := by have := HLL.out; omega
          have r1 := hr.belo B1
          have r2 := hr'.belo B1
          obtain ⟨b, off, rfl, lk⟩ := r2.atEM hlt
          obtain ⟨b', off', rfl, bk⟩ := r1.atEM hkb
          have HD := Lib.hid (getD_in L 0 hlt)
          have HG1 := Lib.hid (getD_in bs false hkb)
          obtain ⟨d, hdv⟩ : ∃ d, L[k] = d := ⟨_, rfl⟩
          have HDV := Lib.hid hdv
          rw [hdv] at lk HD
          clear hdv
          have I0 : (0 : Int) ≤ (k : Int) := by omega
          have I1 : (k : Int) < (bs.length : Int) := by omega
          have I1L : (k : Int) < (L.length : Int) := by omega
          obtain ⟨x0, x1, x2⟩ := id X1
          by_cases hd : d = 0
          · have HS := Lib.hid (laidAt_0 (W := W) (T := T) (bs := bs) (HD.out.trans hd))
            have hd1 : (d == 0) = true := by simpa using hd
            clear hd
            go_wp2_with fail
            go_roundw
            case rel =>
              refine ⟨k + 1, by omega, by go_num, fun j hj => ?_, B1, X1⟩
              rcases Nat.lt_or_ge j k with h | h
              · exact HK.out j h
              · obtain rfl : j = k := by omega
                exact HS.out
            case measure => simp [intOf]; omega
          · have HD0 := Lib.hid (show L.getD k 0 ≠ 0 by rw [HD.out]; exact hd)
            have hd1 : (d == 0) = false := by simpa using hd
            have kl : (k : Int) < W * T := by have := HL.out; omega
            have hsb := step_bd d h1 h2 h3 h4 I0 kl
            have HKL := Lib.hid kl
            clear hd kl
            by_cases hdir : 1 ≤ d ∧ d ≤ 4
            · obtain ⟨dd1, dd2⟩ := hdir
              cases hbk : bs[k] with
              | false =>
                rw [hbk] at bk HG1
                have HF := Lib.hid (laysB_f (W := W) (T := T) (bs := bs) k hlt (by
                  unfold laidAt; rw [if_neg HD0.out, HG1.out]; simp))
                clear hbk
                go_wp2_with (go_at_call 71; refine (l1in_t _ _ _ _ dd1 dd2).mono ?_; rintro e w' ⟨rfl, rfl⟩)
                go_ret
                exact ⟨ret_b (by rw [HF0.out, HF.out]), B1⟩
              | true =>
                rw [hbk] at bk HG1
                clear hbk
                have s0 := World.block_lt_of_cell? wr _ x0
                have s1 := World.block_lt_of_cell? wr _ lk
                simp only at s0 s1
                have L0 : ∀ z : BW wr, z.wo.cell? ⟨w.heap.size, 0, none⟩ = some (.int .i64 W) := fun z => z.cell s0 x0
                have L1 : ∀ z : BW wr, z.wo.cell? ⟨w.heap.size, 1, none⟩ = some (.int .i64 T) := fun z => z.cell s0 x1
                have L2 : ∀ z : BW wr, z.wo.cell? ⟨w.heap.size, 2, none⟩ = some (.slice (some ⟨b', off', none⟩) bs.length c) := fun z => z.cell s0 x2
                have L3 : ∀ z : BW wr, z.wo.cell? ⟨b, off + k, none⟩ = some (.int .i64 d) := fun z => z.cell s1 lk
                have HST := Lib.hid (fun z => l2step_any W T (.slice (some ⟨b', off', none⟩) bs.length c) k d z h1 h2 h3 h4 I0 HKL.out)
                go_wp2_with (go_at_call 71; refine (l1in_t _ _ _ _ dd1 dd2).mono ?_; rintro e w' ⟨rfl, rfl⟩)
                (refine region_bw (by kernel_rfl) (by kernel_rfl) ?_; (repeat (first | go_big_quiet_skip | (go_big_quiet_want; go_big_quiet_op; first | go_big_quiet_on | (refine ⟨.int .i64 (stepZ W T k d), fun zz => ?_, ?_⟩; (go_at_call 102; with_reducible exact zz.on (HST.out zz.wo)); go_big_quiet_on)))); refine wpQuiet_nil ?_; intro wz hw'; obtain ⟨zw, hw''⟩ := hw'; subst hw'')
                have B2 := bl_go B1 zw.ok
                have X2 := X1.belo zw.ok
                have r3 := r1.belo zw.ok
                have r4 := r2.belo zw.ok
                have lk2 := L3 zw
                clear x0 x1 x2 L0 L1 L2 L3 lk bk X1 r1 r2 B1 HST
                generalize zw.wo = wz at *
                clear zw
                obtain ⟨x0, x1, x2⟩ := id X2
                obtain ⟨t, ht⟩ : ∃ t, stepZ W T k d = t := ⟨_, rfl⟩
                have HT := Lib.hid ht
                rw [ht] at hsb ⊢
                clear ht
                rcases hsb with rfl | ⟨u0, u1⟩
                · have HF := Lib.hid (laysB_f k hlt (laidAt_out (bs := bs) HD0.out (by rw [HD.out, HT.out]; omega)))
                  go_wp2_with fail
                  go_quiet (fail)
                  go_wp2
                  go_ret
                  exact ⟨ret_b (by rw [HF0.out, HF.out]), below_drewN' B2 _⟩
                · obtain ⟨t, rfl⟩ := Int.eq_ofNat_of_zero_le u0
                  have htb : t < bs.length := by have := HL.out; omega
                  have htl : t < L.length := by have := HLL.out; omega
                  have HS := Lib.hid (laidAt_in (bs := bs) HD0.out (show stepZ W T k (L.getD k 0) = (t : Int) by rw [HD.out, HT.out]))
                  have HBK := Lib.hid (fun z => sback_any d z (by omega) (by omega))
                  have ct := r3.cellEM htb
                  have lt := r4.cellEM htl
                  have HG2 := Lib.hid (getD_in bs false htb)
                  have HG3 := Lib.hid (getD_in L 0 htl)
                  generalize bs[t] = bt at ct HG2
                  generalize L[t] = lv at lt HG3
                  have I2 : (0 : Int) ≤ (t : Int) := by omega
                  have I3 : (t : Int) < (bs.length : Int) := by omega
                  have I4 : (t : Int) < (L.length : Int) := by omega
                  have hneg : decide ((t : Int) < 0) = false := by simp
                  clear u0 u1
                  cases bt with
                  | false =>
                    have HF := Lib.hid (laysB_f k hlt (by rw [HS.out, HG1.out, HG2.out]; rfl))
                    go_wp2_with fail
                    go_quiet (fail)
                    go_wp2
                    go_ret
                    exact ⟨ret_b (by rw [HF0.out, HF.out]), below_drewN' B2 _⟩
                  | true =>
                    by_cases hv : lv = backZ d
                    · have HF := Lib.hid (show laidAt W T bs L k = true by rw [HS.out, HG1.out, HG2.out, HG3.out, HD.out, decide_eq_true hv]; rfl)
                      have hv1 : (lv != backZ d) = false := by simp [hv]
                      clear hv
                      go_wp2_with fail
                      go_quiet ((go_at_call 123; with_reducible exact quietL (HBK.out _)))
                      clear hneg
                      go_wp2
                      go_roundw
                      case rel =>
                        refine ⟨k + 1, by omega, by go_num, fun j hj => ?_, below_drewN' B2 _, X2⟩
                        rcases Nat.lt_or_ge j k with h | h
                        · exact HK.out j h
                        · obtain rfl : j = k := by omega
                          exact HF.out
                      case measure => simp [intOf]; omega
                    · have HF := Lib.hid (laysB_f k hlt (by rw [HS.out, HG1.out, HG2.out, HG3.out, HD.out, decide_eq_false hv]; rfl))
                      have hv1 : (lv != backZ d) = true := by simpa using hv
                      clear hv
                      go_wp2_with fail
                      go_quiet ((go_at_call 123; with_reducible exact quietL (HBK.out _)))
                      clear hneg
                      go_wp2
                      go_ret
                      exact ⟨ret_b (by rw [HF0.out, HF.out]), below_drewN' B2 _⟩
            · have hdir' : d < 1 ∨ 4 < d := by omega
              have HF := Lib.hid (laysB_f (W := W) (T := T) (bs := bs) k hlt (laidAt_out HD0.out (by rw [HD.out, step0 hdir']; omega)))
              clear hdir
              go_wp2_with (go_at_call 71; refine (l1in_f _ _ _ _ hdir').mono ?_; rintro e w' ⟨rfl, rfl⟩)
              go_ret
              exact ⟨ret_b (by rw [HF0.out, HF.out]), B1⟩
        · have HF := Lib.hid (laysB_t (W := W) (T := T) HLL.out (fun j hj => HK.out j (by omega)))
          go_wp2
          go_ret
          exact ⟨ret_b (by rw [HF0.out, HF.out]), B1⟩
    · have HF := Lib.hid (laysB_len (W := W) (T := T) hll)
      have hq : ((L.length : Int) != (bs.length : Int)) = true := by simp; omega
      clear hll
      go_enter Tryz.func87, Tryz.ntmps87
      go_wp2_with fail
      refine (HRV.out _ (hr.alloc _)).mono ?_
      rintro e w1 ⟨rfl, b1⟩
      have B1 := bl_go B0 b1
      obtain ⟨x0, x1, x2⟩ := X0.belo b1
      go_wp2
      go_ret
      exact ⟨ret_b (by rw [HF0.out, HF.out]), B1⟩
/-- the list without dominoes -/
def bareL (W T : Int) (bs : List Bool) : List Int := if validB W T bs = true then List.replicate bs.length 0 else []
set_option maxRecDepth 100000 in
set_option maxHeartbeats 1000000 in
theorem sLaidBare_any (W T : Int) (A : Option Addr) (c : Nat) (bs : List Bool) (w : World) (hr : Rd w A (bs.map .bool)) (hbm : bs.length ≤ maxLen) :
    Calls Tryz.prog 85 #[.agg #[.int .i64 W, .int .i64 T, .slice A bs.length c]] w (NewRd (bareL W T bs) w) := by
  have X0 := C3.new w (.int .i64 W) (.int .i64 T) (.slice A bs.length c) 25
  have B0 := bl_alloc (Below.refl w.heap.size w) (.cells #[.int .i64 W, .int .i64 T, .slice A bs.length c] 25)
  cases hv : validB W T bs with
  | false =>
    rw [show bareL W T bs = [] by unfold bareL; rw [hv]; rfl]
    go_enter Tryz.func85, Tryz.ntmps85
    go_wp2_with fail
    refine (sRegionValid_any _ _ _ _ _ _ (hr.alloc _) hbm).mono ?_
    rintro e w1 ⟨rfl, b1⟩
    rw [hv]
    have B1 := bl_go B0 b1
    go_wp2
    go_ret
    exact (OwnI.empty w1).newRd (bl_alloc B1 _) B1.size
  | true =>
    obtain ⟨h1, h2, h3, h4, hb36, hl⟩ := valid_len hv
    rw [show bareL W T bs = List.replicate bs.length 0 by unfold bareL; rw [if_pos hv]]
    obtain ⟨i0, hi, hz0, hz1, hz2⟩ := info_parts Tryz.infoI
    have hb1 : i0.bytes * bs.length ≤ 281474976710656 := by rw [hz2]; omega
    have HZ := Lib.hid (And.intro hz0 (And.intro hz1 hz2))
    clear hz0 hz1 hz2 hl
    have HRV := Lib.hid (fun z R => by have := sRegionValid_any W T A c bs z R hbm; rw [hv] at this; exact this)
    clear hv
    go_enter Tryz.func85, Tryz.ntmps85
    go_wp2_with fail
    refine (HRV.out _ (hr.alloc _)).mono ?_
    rintro e w1 ⟨rfl, b1⟩
    have B1 := bl_go B0 b1
    obtain ⟨x0, x1, x2⟩ := X0.belo b1
    go_wp2_with (at_make; refine wpList_make_full _ rfl _ _ 29 rfl w1.heap.size 3 i0 (.int .i64 0) 1 Tryz.underlying29 hi HZ.out.1 HZ.out.2.1 .i64 .i64 _ _ bs.length rfl rfl rfl rfl hb1 (by unfold maxLen; omega) (Nat.le_refl _) ?_; intro w2 hown2 hgrow2)
    go_ret
    have hw2 := Rd.own hown2
    rw [show (Value.int .i64 0).cells = #[.int .i64 0] from rfl, toList_madeCells_one, show List.replicate (bs.length * 1) (Value.int .i64 0) = (List.replicate bs.length (0 : Int)).map (.int .i64) by simp] at hw2
    exact ⟨some ⟨w1.heap.size, 0, none⟩, bs.length, by simp, hw2, B1.grown hgrow2 B1.size (fun k hk => by cases hk), fun ad e => by injection e with e; subst e; exact B1.size⟩
/-- a list, and whether a domino was laid: it has as many entries then -/
def SomeLay (n : Nat) (w : World) (e : Ending) (w' : World) : Prop :=
  ∃ (L : List Int) (A : Option Addr) (c : Nat) (ok : Bool), e = .returned (.tuple #[.slice A L.length c, .bool ok]) ∧ Rd w' A (L.map (.int .i64)) ∧ (ok = true → L.length = n) ∧ Below w.heap.size w w' ∧ ∀ ad, A = some ad → w.heap.size ≤ ad.block
set_option maxRecDepth 100000 in
set_option maxHeartbeats 1000000 in
theorem sLayOne_any (W T cell d : Int) (A A' : Option Addr) (c c' : Nat) (bs : List Bool) (L : List Int) (w : World) (hr : Rd w A (bs.map .bool)) (hr' : Rd w A' (L.map (.int .i64))) (hbm : bs.length ≤ maxLen) (hnm : L.length ≤ maxLen) (d1 : 0 ≤ d) (d2 : d ≤ 1000) :
    Calls Tryz.prog 121 #[.agg #[.int .i64 W, .int .i64 T, .slice A bs.length c], .slice A' L.length c', .int .i64 cell, .int .i64 d] w (SomeLay L.length w) := by
  have X0 := C3.new w (.int .i64 W) (.int .i64 T) (.slice A bs.length c) 25
  have B0 := bl_alloc (Below.refl w.heap.size w) (.cells #[.int .i64 W, .int .i64 T, .slice A bs.length c] 25)
  cases hv : laidOkB W T bs L with
  | false =>
    go_enter Tryz.func121, Tryz.ntmps121
    go_wp2_with fail
    refine (sLaidOk_any _ _ _ _ _ _ _ _ _ (hr.alloc _) (hr'.alloc _) hbm hnm).mono ?_
    rintro e w1 ⟨rfl, b1⟩
    rw [hv]
    have B1 := bl_go B0 b1
    go_wp2
    go_ret2
    exact ⟨[], _, _, false, rfl, Rd.nil _ _, fun h => (by cases h), bl_alloc B1 _, fun ad ha => by injection ha with ha; subst ha; exact B1.size⟩
  | true =>
    have hval : validB W T bs = true := by unfold laidOkB at hv; simp at hv; exact hv.1
    have hlen : L.length = bs.length := by
      cases h : laysB W T bs L with
      | true => unfold laysB at h; simp at h; exact h.1
      | false => unfold laidOkB at hv; rw [h] at hv; simp at hv
    obtain ⟨h1, h2, h3, h4, hb36, hl⟩ := valid_len hval
    have hpos := mul_bd h1 h2 h3 h4
    have HLE := Lib.hid hlen
    have hL36 : L.length ≤ 36 := by omega
    have hL1 : 1 ≤ L.length := by omega
    have HLO := Lib.hid (fun z R R2 => by have := sLaidOk_any W T A A' c c' bs L z R R2 hbm hnm; rw [hv] at this; exact this)
    have HVL := Lib.hid hval
    have HBL := Lib.hid hl
    obtain ⟨i0, hi, hz0, hz1, hz2⟩ := info_parts Tryz.infoI
    have HZ := Lib.hid (And.intro hz0 (And.intro hz1 hz2))
    obtain ⟨b, off, rfl, -⟩ := hr'.atEM (k := 0) (by omega)
    obtain ⟨b', off', rfl, -⟩ := hr.atEM (k := 0) (by omega)
    clear hz0 hz1 hz2 hv hval hlen hl hpos
    go_enter Tryz.func121, Tryz.ntmps121
    go_wp2_with fail
    refine (HLO.out _ (hr.alloc _) (hr'.alloc _)).mono ?_
    rintro e w1 ⟨rfl, b1⟩
    have B1 := bl_go B0 b1
    have X1 := X0.belo b1
    have hown0 := World.ownsRow_lit (e := 3) (size := 1) w1 #[] 0 (Nat.le_refl _) (by unfold maxLen; omega) (by simp)
    have R1 := (hr'.belo B1).alloc (.cells #[] 3)
    obtain ⟨ad', e', hcell⟩ := R1 (by intro e; simp at e; subst e; simp at hL1)
    have HC := Lib.hid (show ∀ j y, (L.map (Value.int .i64))[j]? = some y → (w1.alloc (.cells #[] 3)).cell? ((⟨b, off, none⟩ : Addr).add j) = some y from fun j y hy => by injection e' with e'; rw [e']; exact hcell j y hy)
    clear hcell e' B0 X0 b1
    go_wp2_with (at_builtin; refine wpList_append_own _ rfl _ _ 29 rfl w1.heap.size 3 i0 (.int .i64 0) 1 8 Tryz.underlying29 hi HZ.out.1 HZ.out.2.1 HZ.out.2.2 rfl (by decide) _ _ _ rfl hown0 ⟨b, off, none⟩ L.length c' (L.map (.int .i64)) rfl (by simp) HC.out (by intro y hy; obtain ⟨b, _, rfl⟩ := List.mem_map.1 hy; rfl) (by unfold maxLen; omega) (by omega) (by simp) ?_; intro v' w3 hown3 hg3 _; have b3 : Below w1.heap.size w1 w3 := (bl_alloc (Below.refl w1.heap.size w1) _).grown hg3 (by simp) (fun k hk => by have h2 : some w1.heap.size = some k := hk; injection h2 with h2; omega); obtain ⟨x0, x1, x2⟩ := X1.belo b3)
    simp only [Nat.zero_add, List.nil_append] at hown3
    obtain ⟨g, cap, rfl, hg, hgl⟩ := hown3.form (by omega)
    have B3 := bl_go B1 b3
    have X3 := X1.belo b3
    refine (sStepTo_any W T (some ⟨b', off', none⟩) c bs cell d _ (hr.belo B3) hbm).mono ?_
    rintro e w4 ⟨rfl, b4⟩
    have B4 := bl_go B3 b4
    have X4 := X3.belo b4
    have hw4 := (Wr.of_own hown3).belo b4
    have r4 := hr.belo B4
    have l4 := hr'.belo B4
    clear x0 x1 x2 hown3 hg3 B3 X3 b3 R1 hown0 HC HZ X1
    obtain ⟨x0, x1, x2⟩ := id X4
    obtain ⟨t, ht⟩ : ∃ t, stepTo W T bs cell d = t := ⟨_, rfl⟩
    have HT := Lib.hid ht
    rw [ht]
    have hin : t < 0 ∨ (∃ cn tn : Nat, cell = cn ∧ t = tn ∧ cn < bs.length ∧ tn < bs.length ∧ cn < L.length ∧ tn < L.length ∧ ¬ (tn = cn)) := by
      rcases Int.lt_or_le t 0 with h | h
      · exact .inl h
      · right
        unfold stepTo at ht
        split at ht
        · rename_i hc
          obtain ⟨cn, rfl⟩ := Int.eq_ofNat_of_zero_le hc.2.1
          obtain ⟨tn, rfl⟩ := Int.eq_ofNat_of_zero_le h
          have hsb := step_bd d h1 h2 h3 h4 (show 0 ≤ (cn : Int) by omega) (by have := HBL.out; omega)
          rw [ht] at hsb
          have := HLE.out
          have := HBL.out
          have hne := step_neq (W := W) (T := T) (c := cn) (d := d) h1 (by omega)
          rw [ht] at hne
          exact ⟨cn, tn, rfl, rfl, by omega, by omega, by omega, by omega, by omega⟩
        · omega
    clear ht
    have hgo : w.heap.size ≤ g := by have := B1.size; have := hw4.1 _ rfl; simp only at this; omega
    have HOLD := Lib.hid (show SomeLay L.length w (.returned (.tuple #[.slice (some ⟨g, 0, none⟩) L.length cap, .bool false])) w4 from ⟨L, _, _, false, rfl, hw4.rd, fun h => (by cases h), B4, fun ad ha => by injection ha with ha; subst ha; exact hgo⟩)
    rcases hin with hneg | ⟨cn, tn, rfl, rfl, hcb, htb, hcl, htl, htc⟩
    · go_wp2
      go_ret2
      exact HOLD.out
    · have cb := r4.cellEM hcb
      have tb := r4.cellEM htb
      have cl := l4.cellEM hcl
      have tl := l4.cellEM htl
      have I1 : (cn : Int) < (bs.length : Int) := by omega
      have I2 : (tn : Int) < (bs.length : Int) := by omega
      have I3 : (cn : Int) < (L.length : Int) := by omega
      have I4 : (tn : Int) < (L.length : Int) := by omega
      have hneg : decide ((tn : Int) < 0) = false := by simp
      generalize bs[cn] = v1 at cb
      generalize bs[tn] = v2 at tb
      cases v1 with
      | false =>
        go_wp2
        go_ret2
        exact HOLD.out
      | true =>
        cases v2 with
        | false =>
          go_wp2
          go_ret2
          exact HOLD.out
        | true =>
          generalize L[cn] = u1 at cl
          generalize L[tn] = u2 at tl
          by_cases e1 : u1 = 0
          · have e1' : (u1 != 0) = false := by simp [e1]
            by_cases e2 : u2 = 0
            · have e2' : (u2 != 0) = false := by simp [e2]
              obtain ⟨g', hg', _, _, hfz⟩ := hw4.form (by intro e; simp at e; subst e; simp at hL1)
              have hgg : g = g' := by injection hg' with h; injection h
              subst hgg
              have f1 := hfz cn
              have f2 := hfz tn
              have gc := hw4.rd.cellEM hcl
              have gt := hw4.rd.cellEM htl
              simp only [Nat.zero_add] at gc gt
              have hct : ¬ (cn = tn) := fun e => htc e.symm
              have HW4 := Lib.hid hw4
              clear e1 e2 hw4 hfz hg' HOLD
              obtain ⟨ov1, gc'⟩ : ∃ ov, w4.cell? ⟨g, cn, none⟩ = some ov := ⟨_, gc⟩
              obtain ⟨ov2, gt'⟩ : ∃ ov, w4.cell? ⟨g, tn, none⟩ = some ov := ⟨_, gt⟩
              clear gc gt
              go_wp2_with (go_at_call 123; refine (sback_any _ _ d1 d2).mono ?_; rintro e w' ⟨rfl, rfl⟩)
              go_ret2
              have hfin := (HW4.out.store cn (.int .i64 d)).store tn (.int .i64 (backZ d))
              refine ⟨(L.set cn d).set tn (backZ d), some ⟨g, 0, none⟩, cap, true, by simp, ?_, fun _ => by simp, ?_, fun ad ha => by injection ha with ha; subst ha; exact hgo⟩
              · rw [List.map_set, List.map_set]; exact hfin.rd
              · exact (B4.setCell (by simpa using hgo) _).setCell (by simpa using hgo) _
            · have e2' : (u2 != 0) = true := by simpa using e2
              clear e1 e2
              go_wp2
              go_ret2
              exact HOLD.out
          · have e1' : (u1 != 0) = true := by simpa using e1
            clear e1
            go_wp2
            go_ret2
            exact HOLD.out
end Go.Proofs.YtafmpgikdhlknaaGreat
