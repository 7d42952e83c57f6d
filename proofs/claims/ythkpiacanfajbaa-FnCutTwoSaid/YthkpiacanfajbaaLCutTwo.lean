/- The walk of the law FnCutTwo. -/
import Derived.Test.YthkpiacanfajbaaCutX
import Derived.Test.YthkpiacanfajbaaCutT
import Derived.Test.YthkpiacanfajbaaLayI
import Derived.Test.YthkpiacanfajbaaSet
import Derived.Test.YthkpiacanfajbaaDraw
namespace Go.Proofs.Ythkpiacanfajbaa
open Go.RowKit

/-- four numbers are handed back -/
def Four (P : Int → Int → Int → Int → Prop) (w : World) (e : Ending) (w' : World) : Prop := ∃ a b c d : Int, e = .returned (.tuple #[.int .i64 a, .int .i64 b, .int .i64 c, .int .i64 d]) ∧ P a b c d ∧ Below w.heap.size w w'
set_option maxHeartbeats 2000000 in
theorem drawCutTwo_any (A : Option Addr) (c : Nat) (bs : List Int) (w : World) (hr : Rd w A (bs.map (.int .u8))) (hw : ∀ x ∈ bs, 0 ≤ x ∧ x ≤ 255) (hn : bs.length ≤ 1048576) (hcap : bs.length ≤ c) :
    Calls Try.prog 37 #[.slice A bs.length c] w (Four (fun W T a b => 2 ≤ W ∧ W ≤ 5 ∧ 2 ≤ T ∧ T ≤ 9 ∧ -1 ≤ a ∧ a ≤ 50 ∧ 0 ≤ b ∧ b < W * T) w) := by
  have HW := Lib.hid hw
  clear hw
  go_enter Try.func37, Try.ntmps37
  go_wp2_with fail
  refine (open_any A c bs _ hr HW.out hn hcap).mono ?_
  rintro e w1 ⟨g, A1, c1, by1, rfl, O1⟩
  go_wp2_with fail
  refine (pick_any 4 _ g A1 c1 by1 0 O1.1 (by omega) (by omega)).mono ?_
  rintro e w2 ⟨r1, rfl, ⟨p1, q1⟩, S2, G2⟩
  have O2 := O1.pick S2 G2
  have q1' : r1 ≤ 3 := by omega
  clear q1 S2 G2 O1
  go_wp2_with fail
  refine (pick_any 4 _ g A1 c1 by1 _ O2.1 (by omega) (by omega)).mono ?_
  rintro e w3 ⟨r2, rfl, ⟨p2, q2⟩, S3, G3⟩
  have O3 := O2.pick S3 G3
  have q2' : r2 ≤ 3 := by omega
  clear q2 S3 G3 O2
  go_wp2_with fail
  refine (pick_any 20 _ g A1 c1 by1 _ O3.1 (by omega) (by omega)).mono ?_
  rintro e w4 ⟨r3, rfl, ⟨p3, q3⟩, S4, G4⟩
  have O4 := O3.pick S4 G4
  have q3' : r3 ≤ 19 := by omega
  clear q3 S4 G4 O3
  obtain ⟨W, hW⟩ : ∃ W, 2 + r1 = W := ⟨_, rfl⟩
  obtain ⟨T, hT⟩ : ∃ T, 2 + r2 + r3 / 19 * 4 = T := ⟨_, rfl⟩
  have W2 : 2 ≤ W := by omega
  have W5 : W ≤ 5 := by omega
  have T2 : 2 ≤ T := by omega
  have T9 : T ≤ 9 := by omega
  have hm : 4 ≤ W * T ∧ W * T ≤ 45 := by
    rcases (show W = 2 ∨ W = 3 ∨ W = 4 ∨ W = 5 from by omega) with rfl | rfl | rfl | rfl <;> omega
  obtain ⟨m1, m2⟩ := hm
  go_wp2_with fail
  have HWT := Lib.hid (And.intro hW hT)
  clear hW hT
  refine (pick_any (W * T + 1) _ g A1 c1 by1 _ O4.1 (by omega) (by omega)).mono ?_
  rintro e w5 ⟨r4, rfl, ⟨p4, q4⟩, S5, G5⟩
  have O5 := O4.pick S5 G5
  have q4' : r4 ≤ 50 := by omega
  clear q4 S5 G5 O4
  go_wp2_with fail
  refine (pick_any 20 _ g A1 c1 by1 _ O5.1 (by omega) (by omega)).mono ?_
  rintro e w6 ⟨r5, rfl, ⟨p5, q5⟩, S6, G6⟩
  have O6 := O5.pick S6 G6
  have q5' : r5 ≤ 19 := by omega
  clear q5 S6 G6 O5
  go_wp2_with fail
  refine (pick_any (W * T) _ g A1 c1 by1 _ O6.1 (by omega) (by omega)).mono ?_
  rintro e w7 ⟨r6, rfl, ⟨p6, q6⟩, S7, G7⟩
  have O7 := O6.pick S7 G7
  have q6' : r6 < W * T := by omega
  clear q6 S7 G7 O6
  go_wp2
  refine bodyPost_ret (v := .tuple #[.int .i64 W, .int .i64 T, .int .i64 (r4 - r5 / 19), .int .i64 r6]) (by simp [results, Try.results37, go_sem]) rfl ⟨_, _, _, _, rfl, ⟨W2, W5, T2, T9, by omega, by omega, p6, q6'⟩, O7.2.2⟩

theorem cnt_set_f (l : List Bool) (k : Nat) : cnt (l.set k false) ≤ cnt l := by
  unfold cnt
  induction l generalizing k with
  | nil => simp
  | cons a l ih =>
    cases k with
    | zero => cases a <;> simp <;> omega
    | succ k =>
      have := ih k
      cases a <;> simp at this ⊢ <;> omega
theorem valid_set_f {W T : Int} {bs : List Bool} (k : Nat) (h : validB W T bs = true) : validB W T (bs.set k false) = true := by
  obtain ⟨a, b, c, d⟩ := validB_iff.1 h
  exact validB_iff.2 ⟨a, b, by rw [List.length_set]; exact c, by have := cnt_set_f bs k; omega⟩

set_option maxRecDepth 100000 in
set_option maxHeartbeats 2000000 in
theorem fnCutTwo_walk {w0 : World} (A : Option Addr) (c : Nat) (bs : List Int) (hcap : bs.length ≤ c) (hm : bs.length ≤ maxLen) (hr : Rd w0 A (bs.map (.int .u8))) (hw : ∀ n ∈ bs, 0 ≤ n ∧ n ≤ 255) :
    Calls Try.prog 8 #[.slice A bs.length c] w0 fun e w' => e = .returned (.bool true) ∧ Below w0.heap.size w0 w' := by
  have HW := Lib.hid hw
  clear hw
  unfold maxLen at hm
  by_cases hn : bs.length ≤ 1048576
  · have hg : decide ((1048576 : Int) < (bs.length : Int)) = false := by simp; omega
    go_enter Try.func8, Try.ntmps8
    go_wp2_with fail
    refine (drawCutTwo_any A c bs _ hr HW.out hn hcap).mono ?_
    rintro e w1 ⟨W, T, a, b, rfl, ⟨W2, W5, T2, T9, a0, a1, b0, b1⟩, B1⟩
    clear hg hn hm hr HW hcap
    have cS := fun w => sCutTwo_any W T a b w
    have cI := fun w => iCutTwo_any W T a b w
    have hl := cutOf_len W T a b
    simp only [cut_same] at cS
    have hmul : 4 ≤ W * T ∧ W * T ≤ 45 := by
      rcases (show W = 2 ∨ W = 3 ∨ W = 4 ∨ W = 5 from by omega) with rfl | rfl | rfl | rfl <;> omega
    obtain ⟨m1, m2⟩ := hmul
    cases hok : cutOk W T a b with
    | true =>
      rw [hok] at cS cI
      have hok' := hok
      unfold cutOk at hok'
      simp only [Bool.and_eq_true] at hok'
      obtain ⟨hr, ha, hb, ho⟩ := hok'
      obtain ⟨w2, w6, t2, t6, hwt, Wn, Tn, n, rfl, rfl, hn, hX, hXl, hXb, hXi, n4, n24⟩ := cut_facts hr
      unfold inB at ha hb
      simp at ha hb
      obtain ⟨an, rfl⟩ := Int.eq_ofNat_of_zero_le (show 0 ≤ a by omega)
      obtain ⟨bn, rfl⟩ := Int.eq_ofNat_of_zero_le b0
      have hnn : Wn * Tn = n := by rw [← Int.natCast_mul] at hn; omega
      have han : an < n := by omega
      have hbn : bn < n := by omega
      have hv : validB Wn Tn (List.replicate n true) = true := validB_iff.2 ⟨⟨by omega, w6⟩, ⟨by omega, t6⟩, by simp [hn], by unfold cnt; simp; omega⟩
      have hT := til_eq (a := an) (b := bn) (by omega) (by omega) hr (by omega) (by omega) ho
      rw [hnn, show cutI Wn Tn (roundL Wn Tn) an bn = cutOf Wn Tn an bn by unfold cutOf; rw [if_pos hok]; simp] at hT
      have hv1 := valid_set_f an hv
      have hv2 := valid_set_f bn hv1
      have cB := fun w => iRegionBox_ok Wn Tn n w (by omega) w6 (by omega) t6 hn hwt
      generalize cutOf Wn Tn an bn = X at cS cI hl hT
      have CS := Lib.hid cS
      have CI := Lib.hid cI
      have CB := Lib.hid cB
      have HTT := Lib.hid hT
      have HV := Lib.hid (And.intro hv (And.intro hv1 hv2))
      have hmx : X.length ≤ maxLen := by unfold maxLen; omega
      have c1 : (an : Int) < (Wn : Int) * (Tn : Int) := by omega
      have c2 : (bn : Int) < (Wn : Int) * (Tn : Int) := by omega
      have c3 : (0 : Int) < (Wn : Int) := by omega
      have HN := Lib.hid hn
      clear cS cI cB hT hv hv1 hv2 hok hr ha hb ho hX hXl hXb hXi hn hnn b1 hwt
      go_wp2_with fail
      refine (CI.out _).mono ?_
      rintro e v2 ⟨A2, rfl, g2, b2⟩
      have B2 := bl_go B1 b2
      go_wp2_with fail
      refine (CS.out _).mono ?_
      rintro e v3 ⟨A3, k3, rfl, r3, b3⟩
      have B3 := bl_go B2 b3
      have g3 := g2.rd.belo b3
      go_wp2_with fail
      refine (sameInts_t _ _ _ _ X _ g3 r3 hmx).mono ?_
      rintro e v4 ⟨rfl, b4⟩
      have B4 := bl_go B3 b4
      have g4 := g3.belo b4
      clear g3 r3 b3 b2 g2 B3 B2 B1 b4
      go_wp2_with fail
      refine (CB.out _).mono ?_
      rintro e v5 ⟨A5, k5, rfl, q5, b5⟩
      have B5 := bl_go B4 b5
      have g5 := g4.belo b5
      have q6 := q5.rd
      have hlen : (List.replicate n true).length = n := by simp
      have CR1 := Lib.hid (fun (z : World) (R : Rd z A5 ((List.replicate n true).map .bool)) => by
        have := iRegionSet_ok Wn Tn A5 k5 an (List.replicate n true) false z R HV.out.1 (by rw [hlen]; exact han) HV.out.2.1
        rw [hlen] at this; exact this)
      rw [hlen]
      generalize hY : (List.replicate n true).set an false = Y at CR1 HV HTT
      have hYl : Y.length = n := by rw [← hY]; simp
      clear hY
      generalize hZ : Y.set bn false = Z at HV HTT
      have hZl : Z.length = n := by rw [← hZ]; simp [hYl]
      have HZY := Lib.hid hZ
      have HYL := Lib.hid hYl
      have HZL := Lib.hid hZl
      clear hZ hYl hZl hlen g4 b5 B4 q5
      go_wp2_with fail
      have X6 := C3.new v5 (.int .i64 Wn) (.int .i64 Tn) (.slice A5 n k5) 31
      have B6 := bl_alloc B5 (.cells #[.int .i64 Wn, .int .i64 Tn, .slice A5 n k5] 31)
      have g6 := g5.alloc (.cells #[.int .i64 Wn, .int .i64 Tn, .slice A5 n k5] 31)
      have q7 := q6.alloc (.cells #[.int .i64 Wn, .int .i64 Tn, .slice A5 n k5] 31)
      clear g5 q6 B5
      generalize v5.alloc (.cells #[.int .i64 Wn, .int .i64 Tn, .slice A5 n k5] 31) = v6 at *
      obtain ⟨x0, x1, x2⟩ := id X6
      refine (CR1.out _ q7).mono ?_
      rintro e v7 ⟨A7, k7, rfl, q8, b7⟩
      rw [HYL.out]
      have B7 := bl_go B6 b7
      have g7 := g6.belo b7
      have q9 := q8.rd
      have CR2 := Lib.hid (fun (z : World) (R : Rd z A7 (Y.map .bool)) => by
        have := iRegionSet_ok Wn Tn A7 k7 bn Y false z R HV.out.2.1 (by rw [HYL.out]; exact hbn) (by rw [HZY.out]; exact HV.out.2.2)
        rw [HYL.out, HZY.out] at this; exact this)
      clear x0 x1 x2 X6 g6 q7 B6 b7 q8
      have B8 := bl_alloc B7 (.cells #[.int .i64 Wn, .int .i64 Tn, .slice A7 n k7] 31)
      have g8 := g7.alloc (.cells #[.int .i64 Wn, .int .i64 Tn, .slice A7 n k7] 31)
      have q10 := q9.alloc (.cells #[.int .i64 Wn, .int .i64 Tn, .slice A7 n k7] 31)
      go_wp2_with fail
      refine (CR2.out _ q10).mono ?_
      rintro e v9 ⟨A9, k9, rfl, q11, b9⟩
      rw [HZL.out]
      have B9 := bl_alloc (bl_go B8 b9) (.cells #[.int .i64 Wn, .int .i64 Tn, .slice A9 n k9] 31)
      have g9 := (g8.belo b9).alloc (.cells #[.int .i64 Wn, .int .i64 Tn, .slice A9 n k9] 31)
      have q12 := q11.rd.alloc (.cells #[.int .i64 Wn, .int .i64 Tn, .slice A9 n k9] 31)
      clear B7 B8 g7 g8 q9 q10 q11 b9
      have CT := Lib.hid (fun (z : World) (R : Rd z A9 (Z.map .bool)) (R2 : Rd z A2 (X.map (.int .i64))) => by
        have := iTilingOk_any Wn Tn A9 A2 k9 X.length Z X z R R2 (by rw [HZL.out]; unfold maxLen; omega) hmx
        rw [HZL.out, HTT.out] at this; exact this)
      go_wp2_with fail
      refine (CT.out _ q12 g9).mono ?_
      rintro e v10 ⟨rfl, b10⟩
      go_wp2
      go_ret
      exact ⟨rfl, bl_go B9 b10⟩
    | false =>
      rw [hok] at cS cI
      have hX : cutOf W T a b = [] := by unfold cutOf; rw [hok]; rfl
      rw [hX] at cS cI
      have CS := Lib.hid cS
      have CI := Lib.hid cI
      have HOK := Lib.hid hok
      have HT := Lib.hid b1
      clear cS cI hX hl hok b1
      go_wp2_with fail
      refine (CI.out _).mono ?_
      rintro e v2 ⟨A2, rfl, g2, b2⟩
      have B2 := bl_go B1 b2
      go_wp2_with fail
      refine (CS.out _).mono ?_
      rintro e v3 ⟨A3, k3, rfl, r3, b3⟩
      have B3 := bl_go B2 b3
      have g3 := g2.rd.belo b3
      go_wp2_with fail
      refine (sameInts_t _ _ _ _ [] _ g3 r3 (by unfold maxLen; simp)).mono ?_
      rintro e v4 ⟨rfl, b4⟩
      have B4 := bl_go B3 b4
      clear g3 r3 b3 b2 g2 B3 B2 B1 b4
      go_wp2_with fail
      refine (iRegionBox_any W T _).mono ?_
      rintro e v5 ⟨A5, k5, rfl, q5, b5⟩
      have B5 := bl_alloc (bl_go B4 b5) (.cells #[.int .i64 (boxW W T), .int .i64 (boxT W T), .slice A5 (boxB W T).length k5] 31)
      have X6 := C3.new v5 (.int .i64 (boxW W T)) (.int .i64 (boxT W T)) (.slice A5 (boxB W T).length k5) 31
      clear q5 b5 B4
      cases hbx : boxOk W T with
      | false =>
        have hw0 := (boxV_no hbx).1
        rw [hw0] at X6 B5 ⊢
        clear hbx hw0
        have Wz : ¬ (W = 0) := by omega
        go_wp2_with fail
        obtain ⟨x0, x1, x2⟩ := id X6
        generalize v5.alloc (.cells #[.int .i64 0, .int .i64 (boxT W T), .slice A5 (boxB W T).length k5] 31) = v6 at *
        (refine region_bw (by kernel_rfl) (by kernel_rfl) ?_; (repeat (first | go_big_quiet_skip | (go_big_quiet_want; go_big_quiet_op; first | go_big_quiet_on | (refine ⟨.bool true, fun zz => ?_, ?_⟩; (go_at_call 15; with_reducible exact zz.on (alive_any _)); go_big_quiet_on)))); refine wpQuiet_nil ?_; intro wz hw'; obtain ⟨zw, hw''⟩ := hw'; subst hw'')
        go_wp2
        go_ret
        exact ⟨rfl, bl_go B5 zw.ok⟩
      | true =>
        have hw0 := (boxV_ok hbx).1
        have hbx' := hbx
        unfold boxOk at hbx'
        simp at hbx'
        rw [hw0] at X6 B5 ⊢
        have Wz : ¬ (W = 0) := by omega
        have hWp : 0 < W := by omega
        by_cases an : a < 0
        · have hd : decide (0 ≤ a) = false := by simp; omega
          clear hbx hw0 hbx'
          go_wp2_with fail
          generalize v5.alloc (.cells #[.int .i64 W, .int .i64 (boxT W T), .slice A5 (boxB W T).length k5] 31) = v6 at *
          (refine region_bw (by kernel_rfl) (by kernel_rfl) ?_; (repeat (first | go_big_quiet_skip | (go_big_quiet_want; go_big_quiet_op; first | go_big_quiet_on | (refine ⟨.bool true, fun zz => ?_, ?_⟩; (go_at_call 15; with_reducible exact zz.on (alive_any _)); go_big_quiet_on)))); refine wpQuiet_nil ?_; intro wz hw'; obtain ⟨zw, hw''⟩ := hw'; subst hw'')
          go_wp2
          go_ret
          exact ⟨rfl, bl_go B5 zw.ok⟩
        · have a0' : 0 ≤ a := by omega
          by_cases ab : a < W * T
          · have hbb := HT.out
            have hd1 : decide (W < 2) = false := by simp; omega
            have hd2 : decide (T < 2) = false := by simp; omega
            have wm : IntKind.i64.wrap (W * T) = W * T := IntWalk.i64_in _ (by omega)
            have wm2 : IntKind.i64.wrap (W * T % 2) = W * T % 2 := IntWalk.i64_in _ (by omega)
            obtain ⟨P1, Q1, eP1, eQ1, tP1, tQ1, p11, p12, q11, q12, wp1, wq1⟩ := xy_draw (W := W) (c := a) (by omega) (by omega) a0' (by omega)
            obtain ⟨P2, Q2, eP2, eQ2, tP2, tQ2, p21, p22, q21, q22, wp2, wq2⟩ := xy_draw (W := W) (c := b) (by omega) (by omega) b0 (by omega)
            have ws1 : IntKind.i64.wrap (P1 + Q1) = P1 + Q1 := IntWalk.i64_in _ (by omega)
            have ws2 : IntKind.i64.wrap (P1 + Q1 + P2) = P1 + Q1 + P2 := IntWalk.i64_in _ (by omega)
            have ws3 : IntKind.i64.wrap (P1 + Q1 + P2 + Q2) = P1 + Q1 + P2 + Q2 := IntWalk.i64_in _ (by omega)
            have ws5 : IntKind.i64.wrap ((P1 + Q1 + P2 + Q2) % 2) = (P1 + Q1 + P2 + Q2) % 2 := IntWalk.i64_in _ (by omega)
            by_cases hodd : W * T % 2 = 1
            · have ho1 : (W * T % 2 == 1) = true := by simpa using hodd
              clear hbx hw0 hbx' hodd eP1 eQ1 eP2 eQ2
              go_wp2_with fail
              generalize v5.alloc (.cells #[.int .i64 W, .int .i64 (boxT W T), .slice A5 (boxB W T).length k5] 31) = v6 at *
              (refine region_bw (by kernel_rfl) (by kernel_rfl) ?_; (repeat (first | go_big_quiet_skip | (go_big_quiet_want; go_big_quiet_op; first | go_big_quiet_on | (refine ⟨.bool true, fun zz => ?_, ?_⟩; (go_at_call 15; with_reducible exact zz.on (alive_any _)); go_big_quiet_on)))); refine wpQuiet_nil ?_; intro wz hw'; obtain ⟨zw, hw''⟩ := hw'; subst hw'')
              clear wm wm2 tP1 tQ1 tP2 tQ2 wp1 wq1 wp2 wq2 ws1 ws2 ws3 ws5
              go_wp2
              go_ret
              exact ⟨rfl, bl_go B5 zw.ok⟩
            · have ho1 : (W * T % 2 == 1) = false := by simpa using hodd
              have hro : roundOk W T = true := by
                unfold roundOk
                have h2 : T % 2 = 0 ∨ W % 2 = 0 := by
                  rcases (show W = 2 ∨ W = 3 ∨ W = 4 ∨ W = 5 from by omega) with rfl | rfl | rfl | rfl <;> omega
                exact decide_eq_true ⟨by omega, by omega, by omega, h2⟩
              have ho2 : ((P1 + Q1 + P2 + Q2) % 2 == 0) = true := by
                have h := HOK.out
                unfold cutOk at h
                rw [hro, inB_t a0' (by omega), inB_t b0 (by omega)] at h
                unfold oddPair at h
                rw [eP1, eQ1, eP2, eQ2] at h
                rw [beq_iff_eq]
                simp at h; omega
              clear hbx hw0 hbx' hodd eP1 eQ1 eP2 eQ2 hro
              go_wp2_with fail
              generalize v5.alloc (.cells #[.int .i64 W, .int .i64 (boxT W T), .slice A5 (boxB W T).length k5] 31) = v6 at *
              (refine region_bw (by kernel_rfl) (by kernel_rfl) ?_; (repeat (first | go_big_quiet_skip | (go_big_quiet_want; go_big_quiet_op; first | go_big_quiet_on | (refine ⟨.bool true, fun zz => ?_, ?_⟩; (go_at_call 15; with_reducible exact zz.on (alive_any _)); go_big_quiet_on)))); refine wpQuiet_nil ?_; intro wz hw'; obtain ⟨zw, hw''⟩ := hw'; subst hw'')
              clear wm wm2 tP1 tQ1 tP2 tQ2 wp1 wq1 wp2 wq2 ws1 ws2 ws3 ws5 ho2 ho1
              go_wp2
              go_ret
              exact ⟨rfl, bl_go B5 zw.ok⟩
          · have hd : decide (a < W * T) = false := by simp; omega
            clear hbx hw0 hbx'
            go_wp2_with fail
            generalize v5.alloc (.cells #[.int .i64 W, .int .i64 (boxT W T), .slice A5 (boxB W T).length k5] 31) = v6 at *
            (refine region_bw (by kernel_rfl) (by kernel_rfl) ?_; (repeat (first | go_big_quiet_skip | (go_big_quiet_want; go_big_quiet_op; first | go_big_quiet_on | (refine ⟨.bool true, fun zz => ?_, ?_⟩; (go_at_call 15; with_reducible exact zz.on (alive_any _)); go_big_quiet_on)))); refine wpQuiet_nil ?_; intro wz hw'; obtain ⟨zw, hw''⟩ := hw'; subst hw'')
            go_wp2
            go_ret
            exact ⟨rfl, bl_go B5 zw.ok⟩
  · have hg : decide ((1048576 : Int) < (bs.length : Int)) = true := by simp; omega
    go_enter Try.func8, Try.ntmps8
    go_wp2
    go_ret
    exact ⟨rfl, Below.refl _ _⟩
end Go.Proofs.Ythkpiacanfajbaa
