/- Contract: the reference's FillOk. -/
import Derived.Test.YtnciemnlnijhfaaFillI
import Derived.Test.YtnciemnlnijhfaaFormU
import Derived.Test.YtnciemnlnijhfaaBw
import Derived.StillTailTactics
namespace Go.Proofs.Ytnciemnlnijhfaa
open Go.RowKit Go.Sort

theorem sameW_symm (a b : List Ce) : sameW b a = sameV a b := by
  unfold sameV sameW
  rw [Bool.and_comm (pieceB b), show decide (firstV b = firstV a) = decide (firstV a = firstV b) from decide_eq_decide.2 ⟨fun h => h.symm, fun h => h.symm⟩]
theorem l1in_b (n lo hi : Int) (w : World) {v : Bool} (e : inB n lo hi = v) :
    Calls Try.prog 73 #[.int .i64 n, .int .i64 lo, .int .i64 hi] w fun e w' => e = .returned (.bool v) ∧ Below w.heap.size w w' := by
  subst e
  exact (l1in_any n lo hi w).mono fun _ _ ⟨h1, h2⟩ => ⟨h1, h2 ▸ Below.refl _ _⟩
theorem OwnC.nilN {w : World} {base : Nat} (hb : base ≤ w.heap.size) : OwnC (w.alloc (.cells #[] 49)) base (.slice (some ⟨w.heap.size, 0, none⟩) 0 0) [] :=
  ⟨_, _, rfl, World.ownsRow_lit w #[] 0 hb (by unfold maxLen; omega) (by simp)⟩
set_option maxRecDepth 100000 in
set_option maxHeartbeats 2000000 in
theorem sFillOk_f (W T : Int) (A A' A9 : Option Addr) (c c' c9 : Nat) (bs : List Bool) (pss : List (List Ce)) (fs : List Int) (w : World) (hr : Rd w A (bs.map .bool)) (hn : bs.length ≤ maxLen) (hr' : RdSS w A' pss) (hn' : pss.length ≤ maxLen) (_hn9 : fs.length ≤ maxLen)
    (h : validB W T bs = false ∨ (decide (pss.length ≤ 6) && piecesB pss) = false ∨ fs.length ≠ bs.length) :
    Calls Try.prog 46 #[.agg #[.int .i64 W, .int .i64 T, .slice A bs.length c], .slice A' pss.length c', .slice A9 fs.length c9] w fun e w' => e = .returned (.bool (fillOkB W T bs pss fs)) ∧ Below w.heap.size w w' := by
  rw [fillOkB_f h]
  have X0 := C3.new w (.int .i64 W) (.int .i64 T) (.slice A bs.length c) 25
  have Z0 := bl_alloc (Below.refl w.heap.size w) (.cells #[.int .i64 W, .int .i64 T, .slice A bs.length c] 25)
  obtain ⟨x0, x1, x2⟩ := id X0
  cases hv : validB W T bs with
  | false =>
    have HV := Lib.hid hv
    clear hv h
    go_enter Try.func46, Try.ntmps46
    go_wp2_with fail
    refine (sRegionValid_any W T A c bs _ (hr.alloc _) hn).mono ?_
    rintro e w1 ⟨rfl, b1⟩
    rw [HV.out]
    have Z1 := bl_go Z0 b1
    clear x0 x1 x2
    obtain ⟨x0, x1, x2⟩ := X0.belo b1
    go_wp2_with fail
    go_ret
    exact ⟨rfl, Z1⟩
  | true =>
    have HV := Lib.hid hv
    clear hv
    cases hp : (decide (pss.length ≤ 6) && piecesB pss) with
    | false =>
      have HP := Lib.hid hp
      clear hp h
      go_enter Try.func46, Try.ntmps46
      go_wp2_with fail
      refine (sRegionValid_any W T A c bs _ (hr.alloc _) hn).mono ?_
      rintro e w1 ⟨rfl, b1⟩
      rw [HV.out]
      have Z1 := bl_go Z0 b1
      have R1 := hr'.belo Z1
      have X1 := X0.belo b1
      clear x0 x1 x2 X0 b1 Z0
      obtain ⟨x0, x1, x2⟩ := id X1
      go_wp2_with fail
      refine (sPiecesValid_any _ _ _ _ R1 hn').mono ?_
      rintro e w2 ⟨rfl, b2⟩
      rw [HP.out]
      have Z2 := bl_go Z1 b2
      clear x0 x1 x2
      obtain ⟨x0, x1, x2⟩ := X1.belo b2
      go_wp2_with fail
      go_ret
      exact ⟨rfl, Z2⟩
    | true =>
      have HP := Lib.hid hp
      have hne : fs.length ≠ bs.length := by
        rcases h with h | h | h
        · rw [HV.out] at h; cases h
        · rw [hp] at h; cases h
        · exact h
      have hbe : ((fs.length : Int) == (bs.length : Int)) = false := by rw [beq_eq_false_iff_ne]; omega
      clear hp h hne
      go_enter Try.func46, Try.ntmps46
      go_wp2_with fail
      refine (sRegionValid_any W T A c bs _ (hr.alloc _) hn).mono ?_
      rintro e w1 ⟨rfl, b1⟩
      rw [HV.out]
      have Z1 := bl_go Z0 b1
      have R1 := hr'.belo Z1
      have X1 := X0.belo b1
      clear x0 x1 x2 X0 b1 Z0
      obtain ⟨x0, x1, x2⟩ := id X1
      go_wp2_with fail
      refine (sPiecesValid_any _ _ _ _ R1 hn').mono ?_
      rintro e w2 ⟨rfl, b2⟩
      rw [HP.out]
      have Z2 := bl_go Z1 b2
      clear x0 x1 x2
      obtain ⟨x0, x1, x2⟩ := X1.belo b2
      go_wp2_with fail
      go_ret
      exact ⟨rfl, Z2⟩
set_option maxRecDepth 100000 in
set_option maxHeartbeats 8000000 in
theorem sFillOk_t (W T : Int) (A A' A9 : Option Addr) (c c' c9 : Nat) (bs : List Bool) (pss : List (List Ce)) (fs : List Int) (w : World) (hr : Rd w A (bs.map .bool)) (hn : bs.length ≤ maxLen) (hr' : RdSS w A' pss) (hn' : pss.length ≤ maxLen) (hr9 : Rd w A9 (fs.map (.int .i64)))
    (hv : validB W T bs = true) (hp : (decide (pss.length ≤ 6) && piecesB pss) = true) (hl : fs.length = bs.length) :
    Calls Try.prog 46 #[.agg #[.int .i64 W, .int .i64 T, .slice A bs.length c], .slice A' pss.length c', .slice A9 bs.length c9] w fun e w' => e = .returned (.bool (fillB W bs pss fs)) ∧ Below w.heap.size w w' := by
  have X0 := C3.new w (.int .i64 W) (.int .i64 T) (.slice A bs.length c) 25
  have Z0 := bl_alloc (Below.refl w.heap.size w) (.cells #[.int .i64 W, .int .i64 T, .slice A bs.length c] 25)
  obtain ⟨x0, x1, x2⟩ := id X0
  have HV := Lib.hid hv
  have HP := Lib.hid hp
  have HL := Lib.hid hl
  have m6 : pss.length ≤ 6 := by rw [Bool.and_eq_true, decide_eq_true_eq] at hp; exact hp.1
  obtain ⟨⟨q1, q6⟩, ⟨t1, t6⟩, hlen, -⟩ := validB_iff.1 hv
  have n36 : bs.length ≤ 36 := by have := mul_bd q1 q6 t1 t6; omega
  have hbe : ((bs.length : Int) == (bs.length : Int)) = true := by simp
  clear hv hp hl hlen t1 t6
  go_enter Try.func46, Try.ntmps46
  go_wp2_with fail
  refine (sRegionValid_any W T A c bs _ (hr.alloc _) hn).mono ?_
  rintro e w1 ⟨rfl, b1⟩
  rw [HV.out]
  have Z1 := bl_go Z0 b1
  have R1 := hr'.belo Z1
  have X1 := X0.belo b1
  clear x0 x1 x2 X0 b1 Z0
  obtain ⟨x0, x1, x2⟩ := id X1
  go_wp2_with fail
  refine (sPiecesValid_any _ _ _ _ R1 hn').mono ?_
  rintro e w2 ⟨rfl, b2⟩
  rw [HP.out]
  have Z2 := bl_go Z1 b2
  have X2 := X1.belo b2
  clear x0 x1 x2 X1 Z1 R1 b2
  obtain ⟨x0, x1, x2⟩ := id X2
  have r2 := hr.belo Z2
  have r2' := hr'.belo Z2
  have r29 := hr9.belo Z2
  clear hr hr' hr9
  go_wp2_with fail
  clear x0 x1 x2
  go_loopw [7] (fun i wr => ∃ k : Nat, k ≤ bs.length ∧ i = .int .i64 k ∧ Hid (∀ j (h : j < bs.length) (h2 : j < fs.length), j < k → cellOk pss.length bs[j] fs[j]) ∧ Below w2.heap.size w2 wr) (fun i _ => bs.length - (intOf i).toNat)
  case atStart => exact ⟨0, Nat.zero_le _, rfl, fun j _ _ h => by omega, Below.refl _ _⟩
  case round =>
    obtain ⟨k, hk, rfl, HK, Z4⟩ := hrel
    by_cases hlt : k < bs.length
    · have kf : k < fs.length := by rw [HL.out]; exact hlt
      have X4 := X2.belo Z4
      obtain ⟨b, off, rfl, cb⟩ := (r2.belo Z4).atEM hlt
      obtain ⟨b9, off9, rfl, cf⟩ := (r29.belo Z4).atEM kf
      obtain ⟨f, hf⟩ : ∃ f, fs[k] = f := ⟨_, rfl⟩
      obtain ⟨bb, hb⟩ : ∃ bb, bs[k] = bb := ⟨_, rfl⟩
      rw [hf] at cf
      rw [hb] at cb
      have HF := Lib.hid hf
      have HB := Lib.hid hb
      clear hf hb
      have gs := World.block_lt_of_cell? wr _ cb
      have gt := World.block_lt_of_cell? wr _ cf
      simp only at gs gt
      have L0 : ∀ z : BW wr, z.wo.cell? ⟨b, off + k, none⟩ = some (.bool bb) := fun z => z.cell gs cb
      have L1 : ∀ z : BW wr, z.wo.cell? ⟨b9, off9 + k, none⟩ = some (.int .i64 f) := fun z => z.cell gt cf
      have L2 : ∀ z : BW wr, z.wo.cell? ⟨w.heap.size, 2, none⟩ = some (.slice (some ⟨b, off, none⟩) bs.length c) := fun z => (X4.belo z.ok).2.2
      cases hin : inB f (-1) ((pss.length : Int) - 1) with
      | false =>
        have HNO := Lib.hid (fillB_f1 (W := W) (bs := bs) (pss := pss) (fs := fs) k hlt (by rw [HL.out]; exact hlt) (by
          rw [HB.out, HF.out]; intro h
          unfold inB at hin
          simp only [decide_eq_false_iff_not] at hin
          cases bb with
          | true => have := h.1 rfl; omega
          | false => have := h.2 rfl; omega))
        go_wp2_with fail
        (refine region_bw (by kernel_rfl) (by kernel_rfl) ?_; (repeat (first | go_big_quiet_skip | (go_big_quiet_want; go_big_quiet_op; first | go_big_quiet_on | (refine ⟨.bool false, fun zz => ?_, ?_⟩; (go_at_call 73; exact zz.on (l1in_b _ _ _ _ hin)); go_big_quiet_on)))); refine wpQuiet_nil ?_; intro wz hw'; obtain ⟨zw, hw''⟩ := hw'; subst hw'')
        go_wp2
        go_ret
        exact ⟨ret_b HNO.out.symm, bl_go Z2 (bl_go Z4 zw.ok)⟩
      | true =>
        have hin' := hin
        unfold inB at hin'
        simp only [decide_eq_true_eq] at hin'
        obtain ⟨i1, i2⟩ := hin'
        cases hge : decide (0 ≤ f) with
        | true =>
          have hg0 : 0 ≤ f := of_decide_eq_true hge
          cases bb with
          | true =>
            have HOK := Lib.hid (show cellOk pss.length bs[k] fs[k] by rw [HB.out, HF.out]; exact ⟨fun _ => ⟨hg0, i2⟩, fun e => by cases e⟩)
            clear hg0 i1 i2
            go_wp2_with fail
            (refine region_bw (by kernel_rfl) (by kernel_rfl) ?_; (repeat (first | go_big_quiet_skip | (go_big_quiet_want; go_big_quiet_op; first | go_big_quiet_on | (refine ⟨.bool true, fun zz => ?_, ?_⟩; (go_at_call 73; exact zz.on (l1in_b _ _ _ _ hin)); go_big_quiet_on)))); refine wpQuiet_nil ?_; intro wz hw'; obtain ⟨zw, hw''⟩ := hw'; subst hw'')
            go_wp2
            go_roundw
            case rel =>
              refine ⟨k + 1, by omega, by go_num, fun j h h2 h3 => ?_, bl_go Z4 zw.ok⟩
              rcases Nat.lt_or_ge j k with h4 | h4
              · exact HK.out j h h2 h4
              · obtain rfl : j = k := by omega
                exact HOK.out
            case measure => simp [intOf]; omega
          | false =>
            have HNO := Lib.hid (fillB_f1 (W := W) (bs := bs) (pss := pss) (fs := fs) k hlt (by rw [HL.out]; exact hlt) (by rw [HB.out, HF.out]; intro h; have := h.2 rfl; omega))
            clear hg0 i1 i2
            go_wp2_with fail
            (refine region_bw (by kernel_rfl) (by kernel_rfl) ?_; (repeat (first | go_big_quiet_skip | (go_big_quiet_want; go_big_quiet_op; first | go_big_quiet_on | (refine ⟨.bool true, fun zz => ?_, ?_⟩; (go_at_call 73; exact zz.on (l1in_b _ _ _ _ hin)); go_big_quiet_on)))); refine wpQuiet_nil ?_; intro wz hw'; obtain ⟨zw, hw''⟩ := hw'; subst hw'')
            go_wp2
            go_ret
            exact ⟨ret_b HNO.out.symm, bl_go Z2 (bl_go Z4 zw.ok)⟩
        | false =>
          have hg0 : f = -1 := by simp at hge; omega
          cases bb with
          | false =>
            have HOK := Lib.hid (show cellOk pss.length bs[k] fs[k] by rw [HB.out, HF.out]; exact ⟨fun e => (by cases e), fun _ => hg0⟩)
            clear hg0 i1 i2
            go_wp2_with fail
            (refine region_bw (by kernel_rfl) (by kernel_rfl) ?_; (repeat (first | go_big_quiet_skip | (go_big_quiet_want; go_big_quiet_op; first | go_big_quiet_on | (refine ⟨.bool true, fun zz => ?_, ?_⟩; (go_at_call 73; exact zz.on (l1in_b _ _ _ _ hin)); go_big_quiet_on)))); refine wpQuiet_nil ?_; intro wz hw'; obtain ⟨zw, hw''⟩ := hw'; subst hw'')
            go_wp2
            go_roundw
            case rel =>
              refine ⟨k + 1, by omega, by go_num, fun j h h2 h3 => ?_, bl_go Z4 zw.ok⟩
              rcases Nat.lt_or_ge j k with h4 | h4
              · exact HK.out j h h2 h4
              · obtain rfl : j = k := by omega
                exact HOK.out
            case measure => simp [intOf]; omega
          | true =>
            have HNO := Lib.hid (fillB_f1 (W := W) (bs := bs) (pss := pss) (fs := fs) k hlt (by rw [HL.out]; exact hlt) (by rw [HB.out, HF.out]; intro h; have := (h.1 rfl).1; omega))
            clear hg0 i1 i2
            go_wp2_with fail
            (refine region_bw (by kernel_rfl) (by kernel_rfl) ?_; (repeat (first | go_big_quiet_skip | (go_big_quiet_want; go_big_quiet_op; first | go_big_quiet_on | (refine ⟨.bool true, fun zz => ?_, ?_⟩; (go_at_call 73; exact zz.on (l1in_b _ _ _ _ hin)); go_big_quiet_on)))); refine wpQuiet_nil ?_; intro wz hw'; obtain ⟨zw, hw''⟩ := hw'; subst hw'')
            go_wp2
            go_ret
            exact ⟨ret_b HNO.out.symm, bl_go Z2 (bl_go Z4 zw.ok)⟩
    · obtain rfl : k = bs.length := by omega
      have HD := Lib.hid (show fillD pss.length bs fs from fun j h h2 => HK.out j h h2 h)
      have X4 := X2.belo Z4
      have r4 := r2'.belo Z4
      have r49 := r29.belo Z4
      have Z5 := bl_go Z2 Z4
      clear HK hk r2 r2' r29 X2 Z2 Z4
      obtain ⟨w4, hw4⟩ : ∃ w4 : World, w4 = wr := ⟨_, rfl⟩
      subst hw4
      go_wp2_with fail
      go_loopw [8] (fun i wr => ∃ k : Nat, k ≤ pss.length ∧ i = .int .i64 k ∧ Hid (∀ j (h : j < pss.length), j < k → sameV pss[j] (cellsT W fs j fs.length) = true) ∧ Below w4.heap.size w4 wr) (fun i _ => pss.length - (intOf i).toNat)
      case atStart => exact ⟨0, Nat.zero_le _, rfl, fun j _ h => by omega, Below.refl _ _⟩
      case round =>
        obtain ⟨k, hk, rfl, HK, Z6⟩ := hrel
        by_cases hlt : k < pss.length
        · have X6 := X4.belo Z6
          have r6 := r4.belo Z6
          have r69 := r49.belo Z6
          have Z7 := bl_go Z5 Z6
          have O7 : OwnC (wr.alloc (.cells #[] 49)) wr.heap.size (.slice (some ⟨wr.heap.size, 0, none⟩) 0 0) (cellsT W fs k 0) := OwnC.nilN (Nat.le_refl _)
          obtain ⟨w6, hw6⟩ : ∃ w6 : World, w6 = wr := ⟨_, rfl⟩
          subst hw6
          have Z8 := bl_alloc (Below.refl w6.heap.size w6) (.cells #[] 49)
          go_wp2_with fail
          go_loopw [9, 10] (fun out i wr => ∃ j : Nat, j ≤ bs.length ∧ i = .int .i64 j ∧ OwnC wr w6.heap.size out (cellsT W fs k j) ∧ Below w6.heap.size w6 wr) (fun _ i _ => bs.length - (intOf i).toNat)
          case atStart => exact ⟨0, Nat.zero_le _, rfl, O7, Z8⟩
          case round =>
            clear O7 Z8
            obtain ⟨j, hj, rfl, O9, Z9⟩ := hrel
            by_cases hjl : j < bs.length
            · have jf : j < fs.length := by rw [HL.out]; exact hjl
              obtain ⟨x0, x1, x2⟩ := X6.belo Z9
              obtain ⟨b9, off9, rfl, cf⟩ := (r69.belo Z9).atEM jf
              obtain ⟨f, hf⟩ : ∃ f, fs[j] = f := ⟨_, rfl⟩
              rw [hf] at cf
              have HFQ := Lib.hid (show fs[j]? = some f by rw [List.getElem?_eq_getElem jf, hf])
              clear hf
              cases hq : (f == (k : Int)) with
              | false =>
                go_wp2_with fail
                go_roundw
                case rel => exact ⟨j + 1, by omega, by go_num, by rw [cellsT_no (by rw [HFQ.out]; intro e; injection e with e; rw [e] at hq; simp at hq)]; exact O9, Z9⟩
                case measure => simp [intOf]; omega
              | true =>
                have hcl := cellsT_len W fs k j
                have HY := Lib.hid (cellsT_yes (W := W) (fs := fs) (n := (k : Int)) (k := j) (by rw [HFQ.out]; simpa using hq))
                have hw0 : (W == 0) = false := by rw [beq_eq_false_iff_ne]; omega
                have hw1 : ¬ W = 0 := by omega
                obtain ⟨y1, y2, y3, y4⟩ := xy_bd (c := (j : Int)) q1 q6 (by omega) (by omega)
                have ht : ((j : Int)).tmod W = (j : Int) % W := Int.tmod_eq_emod_of_nonneg (by omega)
                have hd : ((j : Int)).tdiv W = (j : Int) / W := Int.tdiv_eq_ediv_of_nonneg (by omega)
                go_wp2_with fail
                obtain ⟨A0, c0, rfl, -⟩ := id O9
                have wy : IntKind.i64.wrap ((j : Int) / W) = (j : Int) / W := IntWalk.i64_in _ (by omega)
                have hcl2 : (cellsT W fs k j).length ≤ 1000000000000 := by omega
                have O9d : OwnC (wr.alloc (.cells #[.int .i64 ((j : Int) % W), .int .i64 ((j : Int) / W)] 49)).drew w6.heap.size _ (cellsT W fs k j) := O9.alloc _
                have Z9d : Below w6.heap.size w6 (wr.alloc (.cells #[.int .i64 ((j : Int) % W), .int .i64 ((j : Int) / W)] 49)).drew := (bl_alloc Z9 _).drew
                have hz9 := Z9d.size
                have e0 : (wr.alloc (.cells #[.int .i64 ((j : Int) % W), .int .i64 ((j : Int) / W)] 49)).drew.cell? ⟨wr.heap.size, 0, none⟩ = some (.int .i64 ((j : Int) % W)) := cell_of_row _ _ _ _ _ _ (heap_alloc_new wr _)
                have e1 : (wr.alloc (.cells #[.int .i64 ((j : Int) % W), .int .i64 ((j : Int) / W)] 49)).drew.cell? ⟨wr.heap.size, 1, none⟩ = some (.int .i64 ((j : Int) / W)) := cell_of_row _ _ _ _ _ _ (heap_alloc_new wr _)
                go_region_held3 (fun w' => w'.cell? ⟨w.heap.size, 0, none⟩ = some (.int .i64 W))
                  (first | exact y0 | exact x0 | go_keep)
                  ((refine step_app_cell _ (by rfl) _ _ (by rfl) w6.heap.size _ (cellsT W fs k j) (by rfl) O9d ((j : Int) % W) ((j : Int) / W) wr.heap.size (by rfl) e0 e1 hcl2 hz9 ?_; intro h7 c7 w7 o7 g7 _; have b7 := Z9d.grown g7 Z9d.size (fun kk hkk => own_base_lt O9d kk hkk); have y0 := (X6.belo b7).1))
                go_wp2_with fail
                go_roundw
                case rel => exact ⟨j + 1, by omega, by go_num, by rw [HY.out]; exact o7, b7⟩
                case measure => simp [intOf]; omega
            · obtain rfl : j = bs.length := by omega
              obtain ⟨A8, c8, rfl, -⟩ := id O9
              have R8 := O9.rd
              have cap8 := OwnC.cap O9
              have hcl := cellsT_len W fs k bs.length
              obtain ⟨b, off, A3, c3, rfl, h1, h2, h3, h4⟩ := (r6.belo Z9) k hlt
              obtain ⟨ps, hps⟩ : ∃ ps, pss[k] = ps := ⟨_, rfl⟩
              have HPS := Lib.hid hps
              rw [hps] at h1 h2 h3 h4
              clear hps
              have CC := Lib.hid (fun (z : World) (R : RdC z A8 (cellsT W fs k bs.length)) (R' : RdC z A3 ps) => sSamePiece_any A8 A3 c8 c3 (cellsT W fs k bs.length) ps z R R' (by unfold maxLen; omega) h3 cap8 h2)
              have SV := Lib.hid (show sameW (cellsT W fs k bs.length) ps = sameV pss[k] (cellsT W fs k fs.length) by rw [sameW_symm, HPS.out, HL.out])
              cases hs : sameW (cellsT W fs k bs.length) ps with
              | true =>
                have HS := Lib.hid hs
                clear hs h2 h3 cap8 O9 hcl
                go_wp2_with fail
                refine (CC.out _ R8 h4).mono ?_
                rintro e w9 ⟨rfl, b9⟩
                rw [HS.out]
                go_wp2_with fail
                go_roundw
                case rel =>
                  refine ⟨k + 1, by omega, by go_num, fun j h h5 => ?_, bl_go Z6 (bl_go Z9 b9)⟩
                  rcases Nat.lt_or_ge j k with h6 | h6
                  · exact HK.out j h h6
                  · obtain rfl : j = k := by omega
                    rw [← SV.out, HS.out]
                case measure => simp [intOf]; omega
              | false =>
                have HS := Lib.hid hs
                have HNO := Lib.hid (fillB_f2 (W := W) (bs := bs) (pss := pss) (fs := fs) k hlt (by rw [← SV.out, hs]))
                clear hs h2 h3 cap8 O9 hcl
                go_wp2_with fail
                refine (CC.out _ R8 h4).mono ?_
                rintro e w9 ⟨rfl, b9⟩
                rw [HS.out]
                go_wp2_with fail
                go_ret
                exact ⟨ret_b HNO.out.symm, bl_go Z7 (bl_go Z9 b9)⟩
        · obtain rfl : k = pss.length := by omega
          have HB := Lib.hid (fillB_t (W := W) (bs := bs) (pss := pss) (fs := fs) HD.out (fun n h => HK.out n h h))
          go_wp2_with fail
          go_ret
          exact ⟨ret_b HB.out.symm, bl_go Z5 Z6⟩
theorem sFillOk_any (W T : Int) (A A' A9 : Option Addr) (c c' c9 : Nat) (bs : List Bool) (pss : List (List Ce)) (fs : List Int) (w : World) (hr : Rd w A (bs.map .bool)) (hn : bs.length ≤ maxLen) (hr' : RdSS w A' pss) (hn' : pss.length ≤ maxLen) (hr9 : Rd w A9 (fs.map (.int .i64))) (hn9 : fs.length ≤ maxLen) :
    Calls Try.prog 46 #[.agg #[.int .i64 W, .int .i64 T, .slice A bs.length c], .slice A' pss.length c', .slice A9 fs.length c9] w fun e w' => e = .returned (.bool (fillOkB W T bs pss fs)) ∧ Below w.heap.size w w' := by
  by_cases h : validB W T bs = false ∨ (decide (pss.length ≤ 6) && piecesB pss) = false ∨ fs.length ≠ bs.length
  · exact sFillOk_f W T A A' A9 c c' c9 bs pss fs w hr hn hr' hn' hn9 h
  · have h1 : validB W T bs = true := by simpa using fun e => h (.inl e)
    have h2 : (decide (pss.length ≤ 6) && piecesB pss) = true := by
      cases e : (decide (pss.length ≤ 6) && piecesB pss) with
      | true => rfl
      | false => exact absurd (.inr (.inl e)) h
    have h3 : fs.length = bs.length := Classical.byContradiction fun e => h (.inr (.inr e))
    rw [fillOkB_t h1 h2 h3, h3]
    exact sFillOk_t W T A A' A9 c c' c9 bs pss fs w hr hn hr' hn' hr9 h1 h2 h3
end Go.Proofs.Ytnciemnlnijhfaa
