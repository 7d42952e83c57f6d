/- The walk of the law FnRoundOf. -/
import Derived.Test.YthkpiacanfajbaaERoundOf
import Derived.Test.YthkpiacanfajbaaStepTo
import Derived.Test.YthkpiacanfajbaaDraw
import Derived.Test.YthkpiacanfajbaaAlive
import Derived.Test.YthkpiacanfajbaaMemE
import Derived.Test.YthkpiacanfajbaaBw
namespace Go.Proofs.Ythkpiacanfajbaa
open Go.RowKit

/-- two numbers are handed back -/
def TwoD (P : Int → Int → Prop) (w : World) (e : Ending) (w' : World) : Prop := ∃ a b : Int, e = .returned (.tuple #[.int .i64 a, .int .i64 b]) ∧ P a b ∧ Below w.heap.size w w'
set_option maxHeartbeats 2000000 in
theorem drawRoundOf_any (A : Option Addr) (c : Nat) (bs : List Int) (w : World) (hr : Rd w A (bs.map (.int .u8))) (hw : ∀ x ∈ bs, 0 ≤ x ∧ x ≤ 255) (hn : bs.length ≤ 1048576) (hcap : bs.length ≤ c) :
    Calls Try.prog 11 #[.slice A bs.length c] w (TwoD (fun a b => 0 ≤ a ∧ a ≤ 7 ∧ 0 ≤ b ∧ b ≤ 7) w) := by
  have HW := Lib.hid hw
  clear hw
  go_enter Try.func11, Try.ntmps11
  go_wp2_with fail
  refine (open_any A c bs _ hr HW.out hn hcap).mono ?_
  rintro e w1 ⟨g, A1, c1, by1, rfl, O1⟩
  go_wp2_with fail
  refine (pick_any 8 _ g A1 c1 by1 0 O1.1 (by omega) (by omega)).mono ?_
  rintro e w2 ⟨r1, rfl, ⟨p1, q1⟩, S2, G2⟩
  have O2 := O1.pick S2 G2
  have q1' : r1 ≤ 7 := by omega
  clear q1 S2 G2 O1
  go_wp2_with fail
  refine (pick_any 8 _ g A1 c1 by1 _ O2.1 (by omega) (by omega)).mono ?_
  rintro e w3 ⟨r2, rfl, ⟨p2, q2⟩, S3, G3⟩
  have O3 := O2.pick S3 G3
  have q2' : r2 ≤ 7 := by omega
  clear q2 S3 G3 O2
  go_wp2
  go_ret2
  exact ⟨_, _, rfl, by omega, O3.2.2⟩

/-- one of the first directions leads there -/
def nearTo (W T c nx : Int) : Nat → Bool
  | 0 => false
  | n + 1 => nearTo W T c nx n || (stepZ W T c ((n : Int) + 1) == nx)
def roundGood (W T : Nat) : Bool :=
  let X := roundL W T
  (X.length == W * T) && (X.getD 0 9 == 0) && (List.range X.length).all fun k =>
    nearTo W T (X.getD k 0) (X.getD ((k + 1) % X.length) 0) 4 && !(X.take k).contains (X.getD k 0) && decide (0 ≤ X.getD k 0) && decide (X.getD k 0 < (W : Int) * T)
theorem round_good : ∀ W, W ≤ 6 → ∀ T, T ≤ 6 → roundOk (W : Nat) (T : Nat) = true → roundGood W T = true := by decide +kernel

set_option maxRecDepth 100000 in
set_option maxHeartbeats 4000000 in
theorem fnRoundOf_walk {w0 : World} (A : Option Addr) (c : Nat) (bs : List Int) (hcap : bs.length ≤ c) (hm : bs.length ≤ maxLen) (hr : Rd w0 A (bs.map (.int .u8))) (hw : ∀ n ∈ bs, 0 ≤ n ∧ n ≤ 255) :
    Calls Try.prog 3 #[.slice A bs.length c] w0 fun e w' => e = .returned (.bool true) ∧ Below w0.heap.size w0 w' := by
  have HW := Lib.hid hw
  clear hw
  unfold maxLen at hm
  by_cases hn : bs.length ≤ 1048576
  · have hg : decide ((1048576 : Int) < (bs.length : Int)) = false := by simp; omega
    go_enter Try.func3, Try.ntmps3
    go_wp2_with fail
    refine (drawRoundOf_any A c bs _ hr HW.out hn hcap).mono ?_
    rintro e w1 ⟨a, b, rfl, -, B1⟩
    clear hg hn hm hr HW hcap
    cases hok : roundOk a b with
    | true =>
      have hok' := hok
      unfold roundOk at hok'
      simp at hok'
      obtain ⟨⟨a1, a2⟩, ⟨b1, b2⟩, hab, -⟩ := hok'
      obtain ⟨W, rfl⟩ := Int.eq_ofNat_of_zero_le (show 0 ≤ a by omega)
      obtain ⟨T, rfl⟩ := Int.eq_ofNat_of_zero_le (show 0 ≤ b by omega)
      have hX : roundOf (W : Int) (T : Int) = roundL W T := by unfold roundOf; rw [if_pos hok]; simp
      have hgood := round_good W (by omega) T (by omega) hok
      obtain ⟨n, hnn⟩ : ∃ n : Nat, W * T = n := ⟨_, rfl⟩
      have hWT : (W : Int) * (T : Int) = (n : Int) := by rw [← hnn]; exact (Int.natCast_mul W T).symm
      have hv : validB W T (List.replicate n true) = true := validB_iff.2 ⟨⟨by omega, a2⟩, ⟨by omega, b2⟩, by simp [hWT], by unfold cnt; simp; omega⟩
      have cS := fun w => sRoundOf_any W T w
      have cI := fun w => iRoundOf_any W T w
      have cB := fun w => iRegionBox_ok W T n w (by omega) a2 (by omega) b2 hWT hab
      simp only [hX] at cS cI
      unfold roundGood at hgood
      simp only [Bool.and_eq_true] at hgood
      obtain ⟨⟨g1, g2⟩, g3⟩ := hgood
      generalize roundL W T = X at cS cI g1 g2 g3
      simp only [beq_iff_eq] at g1 g2
      rw [hnn] at g1
      have hXl : X.length = n := g1
      have n24 : n ≤ 24 := by omega
      have n4 : 4 ≤ n := by
        have := Int.mul_le_mul a1 b1 (by omega) (by omega)
        omega
      have hXlt : X.length ≤ 24 := by omega
      have hX4 : 4 ≤ X.length := by omega
      have CS := Lib.hid cS
      have CI := Lib.hid cI
      have CB := Lib.hid cB
      have G2 := Lib.hid g2
      have G3 := Lib.hid (fun k (hk : k < X.length) => by
        have := List.all_eq_true.1 g3 k (List.mem_range.2 hk)
        simp only [Bool.and_eq_true] at this
        obtain ⟨⟨⟨t1, t2⟩, t3⟩, t4⟩ := this
        exact (⟨t1, by simpa using t2, of_decide_eq_true t3, of_decide_eq_true t4⟩ : nearTo W T (X.getD k 0) (X.getD ((k + 1) % X.length) 0) 4 = true ∧ X.getD k 0 ∉ X.take k ∧ 0 ≤ X.getD k 0 ∧ X.getD k 0 < (W : Int) * T))
      have hmul : ((X.length : Int) == (W : Int) * (T : Int)) = true := by rw [beq_iff_eq, hWT, hXl]
      have HV := Lib.hid hv
      have HXN := Lib.hid hXl
      have hX0 : ((X.length : Int) == 0) = false := by rw [beq_eq_false_iff_ne]; omega
      have hmx : X.length ≤ maxLen := by unfold maxLen; omega
      have m36 : (W : Int) * (T : Int) ≤ 24 := hab
      have m0 : 0 ≤ (W : Int) * (T : Int) := by omega
      clear cS cI cB g1 g2 g3 hX hnn hWT hv hXl hok hab n24 n4
      go_wp2_with fail
      refine (CI.out _).mono ?_
      rintro e w2 ⟨A2, rfl, g2, b2'⟩
      have B2 := bl_go B1 b2'
      go_wp2_with fail
      refine (CS.out _).mono ?_
      rintro e w3 ⟨A3, c3, rfl, r3, b3, -⟩
      have B3 := bl_go B2 b3
      have g3 := g2.rd.belo b3
      go_wp2_with fail
      refine (sameInts_t _ _ _ _ X _ g3 r3 hmx).mono ?_
      rintro e w4 ⟨rfl, b4⟩
      have B4 := bl_go B3 b4
      have g4 := g3.belo b4
      clear g3 r3 b3 b2' g2 B3 B2 B1
      go_wp2_with fail
      refine (CB.out _).mono ?_
      rintro e w5 ⟨A5, c5, rfl, q5, b5⟩
      have B5 := bl_go B4 b5
      have g5 := g4.belo b5
      have hR : Rd w5 A5 ((List.replicate n true).map .bool) := q5.rd
      have CST := Lib.hid (fun (z : World) (k d : Int) (R : Rd z A5 ((List.replicate n true).map .bool)) (k0 : 0 ≤ k) (k1 : k < (W : Int) * T) => by
        have := iStepTo_any W T A5 c5 (List.replicate n true) k d z R (by unfold maxLen; have := HXN.out; simp; omega)
        rw [stepTo_in HV.out k0 (by rw [← (validB_iff.1 HV.out).2.2.1] at k1; exact k1)] at this
        exact this)
      have hlen : (List.replicate n true).length = n := by simp
      rw [hlen] at CST
      simp only [hlen]
      clear hlen g4 b4 B4 b5 q5
      go_wp2_with fail
      have X6 := C3.new w5 (.int .i64 W) (.int .i64 T) (.slice A5 n c5) 31
      have B6 := bl_alloc B5 (.cells #[.int .i64 W, .int .i64 T, .slice A5 n c5] 31)
      have g6 := g5.alloc (.cells #[.int .i64 W, .int .i64 T, .slice A5 n c5] 31)
      have R6 := hR.alloc (.cells #[.int .i64 W, .int .i64 T, .slice A5 n c5] 31)
      clear g5 hR B5
      generalize w5.alloc (.cells #[.int .i64 W, .int .i64 T, .slice A5 n c5] 31) = w6 at *
      generalize w5.heap.size = r5 at *
      obtain ⟨b, off, rfl, -⟩ := g6.atEM (k := 0) (by omega)
      go_loopw [7] (fun i wr => ∃ k : Nat, k ≤ X.length ∧ i = .int .i64 k ∧ Below w6.heap.size w6 wr) (fun i _ => X.length - (intOf i).toNat)
      case atStart => exact ⟨0, Nat.zero_le _, rfl, Below.refl _ _⟩
      case round =>
        obtain ⟨k, hk, rfl, Z1⟩ := hrel
        by_cases hlt : k < X.length
        · obtain ⟨q, hq⟩ : ∃ q, (k + 1) % X.length = q := ⟨_, rfl⟩
          have hql : q < X.length := by rw [← hq]; exact Nat.mod_lt _ (by omega)
          obtain ⟨t1, t2, t3, t4⟩ := G3.out k hlt
          rw [hq, getD_at X 0 hql, getD_at X 0 hlt] at t1
          rw [getD_at X 0 hlt] at t2 t3 t4
          have hqi : ((k : Int) + 1) % (X.length : Int) = (q : Int) := by rw [← hq]; simp
          have g7 := g6.belo Z1
          have c0 := g7.cellEM hlt
          have c1 := g7.cellEM hql
          obtain ⟨cc, hcc⟩ : ∃ cc, X[k] = cc := ⟨_, rfl⟩
          rw [hcc] at c0 t1 t2 t3 t4
          have HCC := Lib.hid hcc
          clear hcc
          generalize X[q] = nx at c1 t1
          have HNE := Lib.hid t1
          have HHI := Lib.hid (fun z (R : Rd z (some ⟨b, off, none⟩) ((X.take k).map (.int .i64))) => by
            have := hasInt_any (some ⟨b, off, none⟩) k X.length (X.take k) cc z R (by rw [List.length_take]; omega) (by unfold maxLen; omega)
            rw [decide_eq_false t2] at this; exact this)
          have hkI : (k : Int) ≤ (X.length : Int) := by omega
          have hkJ : (k : Int) < (X.length : Int) := by omega
          have k0 : (0 : Int) ≤ (k : Int) := by omega
          clear t1 t2 hq g7
          go_wp2_with fail
          clear hqi c0 c1
          obtain ⟨wo, hwo⟩ : ∃ wo : World, wo = wr := ⟨_, rfl⟩
          subst hwo
          go_loopw [9, 10] (fun v d wr => ∃ m : Nat, m ≤ 4 ∧ d = .int .i64 ((m : Int) + 1) ∧ v = .bool (nearTo W T cc nx m) ∧ Below w6.heap.size w6 wr) (fun _ d _ => (5 - intOf d).toNat)
          case atStart => exact ⟨0, by omega, by go_num, rfl, Z1⟩
          case round =>
            clear Z1
            obtain ⟨m, hm, rfl, hv, Z1⟩ := hrel
            have g7 := g6.belo Z1
            have c0 := g7.cellEM hlt
            have R7 := R6.belo Z1
            obtain ⟨x0, x1, x2⟩ := X6.belo Z1
            have s0 := World.block_lt_of_cell? wr _ x0
            have s1 := World.block_lt_of_cell? wr _ c0
            simp only at s0 s1
            rw [HCC.out] at c0
            by_cases hlm : m < 4
            · cases hb : nearTo W T cc nx m with
              | true =>
                have HS := Lib.hid (show nearTo W T cc nx (m + 1) = true by unfold nearTo; rw [hb]; rfl)
                rw [hb] at hv
                subst hv
                clear hb
                go_wp2_with fail
                go_quiet (fail)
                go_wp2
                go_roundw
                case rel => exact ⟨m + 1, by omega, by go_num, by rw [HS.out], below_drewN' Z1 _⟩
                case measure => simp [intOf]; omega
              | false =>
                have HS := Lib.hid (show nearTo W T cc nx (m + 1) = (stepZ W T cc ((m : Int) + 1) == nx) by rw [nearTo, hb]; rfl)
                rw [hb] at hv
                subst hv
                clear hb
                have L0 : ∀ z : BW wr, z.wo.cell? ⟨r5, 0, none⟩ = some (.int .i64 W) := fun z => z.cell s0 x0
                have L1 : ∀ z : BW wr, z.wo.cell? ⟨r5, 1, none⟩ = some (.int .i64 T) := fun z => z.cell s0 x1
                have L2 : ∀ z : BW wr, z.wo.cell? ⟨r5, 2, none⟩ = some (.slice A5 n c5) := fun z => z.cell s0 x2
                have L3 : ∀ z : BW wr, z.wo.cell? ⟨b, off + k, none⟩ = some (.int .i64 cc) := fun z => z.cell s1 c0
                cases hs : (stepZ W T cc ((m : Int) + 1) == nx) with
                | true =>
                  go_wp2_with fail
                  (refine region_bw (by kernel_rfl) (by kernel_rfl) ?_; (repeat (first | go_big_quiet_skip | (go_big_quiet_want; go_big_quiet_op; first | go_big_quiet_on | (refine ⟨.int .i64 (stepZ W T cc ((m : Int) + 1)), fun zz => ?_, ?_⟩; (go_at_call 17; exact zz.on (CST.out _ _ _ (R7.belo zz.ok) t3 t4)); go_big_quiet_on)))); refine wpQuiet_nil ?_; intro wz hw'; obtain ⟨zw, hw''⟩ := hw'; subst hw'')
                  go_wp2
                  go_roundw
                  case rel => exact ⟨m + 1, by omega, by go_num, by rw [HS.out, hs], bl_go Z1 zw.ok⟩
                  case measure => simp [intOf]; omega
                | false =>
                  go_wp2_with fail
                  (refine region_bw (by kernel_rfl) (by kernel_rfl) ?_; (repeat (first | go_big_quiet_skip | (go_big_quiet_want; go_big_quiet_op; first | go_big_quiet_on | (refine ⟨.int .i64 (stepZ W T cc ((m : Int) + 1)), fun zz => ?_, ?_⟩; (go_at_call 17; exact zz.on (CST.out _ _ _ (R7.belo zz.ok) t3 t4)); go_big_quiet_on)))); refine wpQuiet_nil ?_; intro wz hw'; obtain ⟨zw, hw''⟩ := hw'; subst hw'')
                  go_wp2
                  go_roundw
                  case rel => exact ⟨m + 1, by omega, by go_num, by rw [HS.out, hs], bl_go Z1 zw.ok⟩
                  case measure => simp [intOf]; omega
            · obtain rfl : m = 4 := by omega
              rw [HNE.out] at hv
              subst hv
              have gT := g7.takeM k
              clear hlm g7
              go_wp2_with fail
              go_quiet ((go_at_call 18; exact quietL (HHI.out _ gT)))
              go_wp2
              go_roundw
              case rel => exact ⟨k + 1, by omega, by go_num, below_drewN' Z1 _⟩
              case measure => simp [intOf]; omega
        · have g7 := g6.belo Z1
          have c0 := g7.cellEM (k := 0) (by omega)
          have e0 : X[0]'(by omega) = 0 := by have := G2.out; rw [getD_at X 9 (by omega)] at this; exact this
          rw [e0] at c0
          simp only [Nat.add_zero] at c0
          clear g7 e0
          obtain rfl : k = X.length := by omega
          go_wp2
          go_ret
          exact ⟨rfl, bl_go B6 Z1⟩
    | false =>
      have HR := Lib.hid (show roundOf a b = [] by unfold roundOf; rw [hok]; rfl)
      have cI := fun w => iRoundOf_any a b w
      have cS := fun w => sRoundOf_any a b w
      simp only [HR.out] at cI cS
      have CI := Lib.hid cI
      have CS := Lib.hid cS
      clear cI cS hok
      go_wp2_with fail
      refine (CI.out _).mono ?_
      rintro e w2 ⟨A2, rfl, g2, b2'⟩
      go_wp2_with fail
      refine (CS.out _).mono ?_
      rintro e w3 ⟨A3, c3, rfl, r3, b3, -⟩
      go_wp2_with fail
      refine (sameInts_t _ _ _ _ [] _ (g2.rd.belo b3) r3 (by unfold maxLen; simp)).mono ?_
      rintro e w4 ⟨rfl, b4⟩
      go_wp2_with fail
      refine (alive_any _).mono ?_
      rintro e w5 ⟨rfl, b5⟩
      go_wp2
      go_ret
      exact ⟨rfl, bl_go (bl_go (bl_go (bl_go B1 b2') b3) b4) b5⟩
  · have hg : decide ((1048576 : Int) < (bs.length : Int)) = true := by simp; omega
    go_enter Try.func3, Try.ntmps3
    go_wp2
    go_ret
    exact ⟨rfl, Below.refl _ _⟩
end Go.Proofs.Ythkpiacanfajbaa
