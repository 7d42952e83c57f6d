/- Contract: the program's FillOk. -/
import Derived.Test.YtnciemnlnijhfaaFillN
import Derived.Test.YtnciemnlnijhfaaCellss
import Derived.Test.YtnciemnlnijhfaaColour
import Derived.Test.YtnciemnlnijhfaaMemE
namespace Go.Proofs.Ytnciemnlnijhfaa
open Go.RowKit Go.Sort

theorem fillOkB_f {W T : Int} {bs : List Bool} {pss : List (List Ce)} {fs : List Int} (h : validB W T bs = false ∨ (decide (pss.length ≤ 6) && piecesB pss) = false ∨ fs.length ≠ bs.length) : fillOkB W T bs pss fs = false := by
  unfold fillOkB
  rcases h with h | h | h
  · rw [h]; rfl
  · rw [h]; simp
  · rw [decide_eq_false h]; simp
theorem fillOkB_t {W T : Int} {bs : List Bool} {pss : List (List Ce)} {fs : List Int} (h1 : validB W T bs = true) (h2 : (decide (pss.length ≤ 6) && piecesB pss) = true) (h3 : fs.length = bs.length) : fillOkB W T bs pss fs = fillB W bs pss fs := by
  unfold fillOkB; rw [h1, h2, decide_eq_true h3]; rfl
theorem got_zero (m : Nat) : ∀ n, n < m → ((madeCells (Value.slice none 0 0).cells (m * 1)).toList)[n]? = some (.slice none 0 0) := fun n hn => by
  rw [show (Value.slice none 0 0).cells = #[.slice none 0 0] from rfl, toList_madeCells_one]
  simp [hn]
set_option maxRecDepth 100000 in
set_option maxHeartbeats 2000000 in
theorem iFillOk_f (W T : Int) (A A' A9 : Option Addr) (c c' c9 : Nat) (bs : List Bool) (pss : List (List Ce)) (fs : List Int) (w : World) (hr : Rd w A (bs.map .bool)) (hn : bs.length ≤ maxLen) (hr' : RdSS w A' pss) (hn' : pss.length ≤ maxLen) (_hn9 : fs.length ≤ maxLen)
    (h : validB W T bs = false ∨ (decide (pss.length ≤ 6) && piecesB pss) = false ∨ fs.length ≠ bs.length) :
    Calls Try.prog 35 #[.agg #[.int .i64 W, .int .i64 T, .slice A bs.length c], .slice A' pss.length c', .slice A9 fs.length c9] w fun e w' => e = .returned (.bool (fillOkB W T bs pss fs)) ∧ Below w.heap.size w w' := by
  rw [fillOkB_f h]
  have X0 := C3.new w (.int .i64 W) (.int .i64 T) (.slice A bs.length c) 25
  have Z0 := bl_alloc (Below.refl w.heap.size w) (.cells #[.int .i64 W, .int .i64 T, .slice A bs.length c] 25)
  obtain ⟨x0, x1, x2⟩ := id X0
  cases hv : validB W T bs with
  | false =>
    have HV := Lib.hid hv
    clear hv h
    go_enter Try.func35, Try.ntmps35
    go_wp2_with fail
    refine (iRegionValid_any W T A c bs _ (hr.alloc _) hn).mono ?_
    rintro e w1 ⟨rfl, b1⟩
    rw [HV.out]
    have Z1 := bl_go Z0 b1
    clear x0 x1 x2
    obtain ⟨x0, x1, x2⟩ := X0.belo b1
    go_wp2_with fail
    go_ret
    exact ⟨rfl, Z1⟩
  | true =>
    have HV := Lib.hid hv
    clear hv
    cases hp : (decide (pss.length ≤ 6) && piecesB pss) with
    | false =>
      have HP := Lib.hid hp
      clear hp h
      go_enter Try.func35, Try.ntmps35
      go_wp2_with fail
      refine (iRegionValid_any W T A c bs _ (hr.alloc _) hn).mono ?_
      rintro e w1 ⟨rfl, b1⟩
      rw [HV.out]
      have Z1 := bl_go Z0 b1
      have R1 := hr'.belo Z1
      have X1 := X0.belo b1
      clear x0 x1 x2 X0 b1 Z0
      obtain ⟨x0, x1, x2⟩ := id X1
      go_wp2_with fail
      refine (iPiecesValid_any _ _ _ _ R1 hn').mono ?_
      rintro e w2 ⟨rfl, b2⟩
      rw [HP.out]
      have Z2 := bl_go Z1 b2
      clear x0 x1 x2
      obtain ⟨x0, x1, x2⟩ := X1.belo b2
      go_wp2_with fail
      go_ret
      exact ⟨rfl, Z2⟩
    | true =>
      have HP := Lib.hid hp
      have hne : fs.length ≠ bs.length := by
        rcases h with h | h | h
        · rw [HV.out] at h; cases h
        · rw [hp] at h; cases h
        · exact h
      have hbe : ((fs.length : Int) == (bs.length : Int)) = false := by rw [beq_eq_false_iff_ne]; omega
      clear hp h hne
      go_enter Try.func35, Try.ntmps35
      go_wp2_with fail
      refine (iRegionValid_any W T A c bs _ (hr.alloc _) hn).mono ?_
      rintro e w1 ⟨rfl, b1⟩
      rw [HV.out]
      have Z1 := bl_go Z0 b1
      have R1 := hr'.belo Z1
      have X1 := X0.belo b1
      clear x0 x1 x2 X0 b1 Z0
      obtain ⟨x0, x1, x2⟩ := id X1
      go_wp2_with fail
      refine (iPiecesValid_any _ _ _ _ R1 hn').mono ?_
      rintro e w2 ⟨rfl, b2⟩
      rw [HP.out]
      have Z2 := bl_go Z1 b2
      clear x0 x1 x2
      obtain ⟨x0, x1, x2⟩ := X1.belo b2
      go_wp2_with fail
      go_ret
      exact ⟨rfl, Z2⟩
set_option maxRecDepth 100000 in
set_option maxHeartbeats 8000000 in
theorem iFillOk_t (W T : Int) (A A' A9 : Option Addr) (c c' c9 : Nat) (bs : List Bool) (pss : List (List Ce)) (fs : List Int) (w : World) (hr : Rd w A (bs.map .bool)) (hn : bs.length ≤ maxLen) (hr' : RdSS w A' pss) (hn' : pss.length ≤ maxLen) (hr9 : Rd w A9 (fs.map (.int .i64)))
    (hv : validB W T bs = true) (hp : (decide (pss.length ≤ 6) && piecesB pss) = true) (hl : fs.length = bs.length) :
    Calls Try.prog 35 #[.agg #[.int .i64 W, .int .i64 T, .slice A bs.length c], .slice A' pss.length c', .slice A9 bs.length c9] w fun e w' => e = .returned (.bool (fillB W bs pss fs)) ∧ Below w.heap.size w w' := by
  have X0 := C3.new w (.int .i64 W) (.int .i64 T) (.slice A bs.length c) 25
  have Z0 := bl_alloc (Below.refl w.heap.size w) (.cells #[.int .i64 W, .int .i64 T, .slice A bs.length c] 25)
  obtain ⟨x0, x1, x2⟩ := id X0
  have HV := Lib.hid hv
  have HP := Lib.hid hp
  have HL := Lib.hid hl
  have m6 : pss.length ≤ 6 := by rw [Bool.and_eq_true, decide_eq_true_eq] at hp; exact hp.1
  obtain ⟨⟨q1, q6⟩, ⟨t1, t6⟩, hlen, -⟩ := validB_iff.1 hv
  have n36 : bs.length ≤ 36 := by have := mul_bd q1 q6 t1 t6; omega
  have hbe : ((bs.length : Int) == (bs.length : Int)) = true := by simp
  obtain ⟨i0, hi, hz0, hz1, hz2⟩ := info_parts Try.infoSC
  have hb1 : i0.bytes * pss.length ≤ 281474976710656 := by rw [hz2]; omega
  have HZ := Lib.hid (And.intro hz0 (And.intro hz1 hz2))
  clear hv hp hl hlen t1 t6 hz0 hz1 hz2
  go_enter Try.func35, Try.ntmps35
  go_wp2_with fail
  refine (iRegionValid_any W T A c bs _ (hr.alloc _) hn).mono ?_
  rintro e w1 ⟨rfl, b1⟩
  rw [HV.out]
  have Z1 := bl_go Z0 b1
  have R1 := hr'.belo Z1
  have X1 := X0.belo b1
  clear x0 x1 x2 X0 b1 Z0
  obtain ⟨x0, x1, x2⟩ := id X1
  go_wp2_with fail
  refine (iPiecesValid_any _ _ _ _ R1 hn').mono ?_
  rintro e w2 ⟨rfl, b2⟩
  rw [HP.out]
  have Z2 := bl_go Z1 b2
  have X2 := X1.belo b2
  clear x0 x1 x2 X1 Z1 R1 b2
  obtain ⟨x0, x1, x2⟩ := id X2
  have r2 := hr.belo Z2
  have r2' := hr'.belo Z2
  have r29 := hr9.belo Z2
  clear hr hr' hr9
  go_wp2_with (at_make; refine wpList_make_full _ rfl _ _ 47 rfl w2.heap.size 33 i0 (.slice none 0 0) 1 Try.underlying47 hi HZ.out.1 HZ.out.2.1 .i64 .i64 _ _ pss.length rfl rfl rfl rfl hb1 (by unfold maxLen; omega) (Nat.le_refl _) ?_; intro w3 hown3 hgrow3)
  have G3 := GotS.start hown3 (got_zero _)
  have Z3 : Below w2.heap.size w2 w3 := (Below.refl _ _).grown hgrow3 (Nat.le_refl _) (fun k hk => by cases hk)
  clear hown3 hgrow3 x0 x1 x2
  go_loopw [35] (fun i wr => ∃ (k : Nat) (L : List Value), k ≤ bs.length ∧ i = .int .i64 k ∧ GotS wr w2.heap.size pss.length L (fun n : Nat => cellsT W fs n k) ∧ Hid (∀ j (h : j < bs.length) (h2 : j < fs.length), j < k → cellOk pss.length bs[j] fs[j]) ∧ Below w2.heap.size w2 wr) (fun i _ => bs.length - (intOf i).toNat)
  case atStart => exact ⟨0, _, Nat.zero_le _, rfl, G3, fun j _ _ h => by omega, Z3⟩
  case round =>
    clear Z3 G3
    obtain ⟨k, L, hk, rfl, GS, HK, Z4⟩ := hrel
    obtain ⟨x0, x1, x2⟩ := X2.belo Z4
    by_cases hlt : k < bs.length
    · have kf : k < fs.length := by rw [HL.out]; exact hlt
      obtain ⟨b, off, rfl, cb⟩ := (r2.belo Z4).atEM hlt
      obtain ⟨b9, off9, rfl, cf⟩ := (r29.belo Z4).atEM kf
      obtain ⟨f, hf⟩ : ∃ f, fs[k] = f := ⟨_, rfl⟩
      rw [hf] at cf
      have HF := Lib.hid hf
      have HFQ := Lib.hid (show fs[k]? = some f by rw [List.getElem?_eq_getElem kf, hf])
      clear hf
      cases hb : bs[k] with
      | false =>
        rw [hb] at cb
        have HB := Lib.hid hb
        clear hb
        cases hv1 : (f == -1) with
        | true =>
          have hfe : f = -1 := by simpa using hv1
          have HOK := Lib.hid (show cellOk pss.length bs[k] fs[k] by rw [HB.out, HF.out]; exact ⟨fun e => (by cases e), fun _ => hfe⟩)
          have hge : decide (0 ≤ f) = false := by simp; omega
          clear hfe
          go_wp2_with fail
          go_roundw
          case rel =>
            refine ⟨k + 1, L, by omega, by go_num, GS.cast (fun n _ => (cellsT_no (by rw [HFQ.out]; intro e; injection e with e; rw [beq_iff_eq] at hv1; omega)).symm), fun j h h2 h3 => ?_, Z4⟩
            rcases Nat.lt_or_ge j k with h4 | h4
            · exact HK.out j h h2 h4
            · obtain rfl : j = k := by omega
              exact HOK.out
          case measure => simp [intOf]; omega
        | false =>
          have HNO := Lib.hid (fillB_f1 (W := W) (bs := bs) (pss := pss) (fs := fs) k hlt (by rw [HL.out]; exact hlt) (by rw [HB.out, HF.out]; intro h; have := h.2 rfl; rw [this] at hv1; simp at hv1))
          go_wp2_with fail
          go_ret
          exact ⟨ret_b HNO.out.symm, bl_go Z2 Z4⟩
      | true =>
        rw [hb] at cb
        have HB := Lib.hid hb
        clear hb
        by_cases hin : 0 ≤ f ∧ f ≤ (pss.length : Int) - 1
        · obtain ⟨fn, rfl⟩ := Int.eq_ofNat_of_zero_le hin.1
          have hfm : fn < pss.length := by omega
          have HOK := Lib.hid (show cellOk pss.length bs[k] fs[k] by rw [HB.out, HF.out]; exact ⟨fun _ => hin, fun e => by cases e⟩)
          have hge : decide (0 ≤ (fn : Int)) = true := by simp
          obtain ⟨i1, i2⟩ := hin
          go_wp2_with (go_at_call 82; refine (in_t _ _ _ _ i1 i2).mono ?_; rintro e w' ⟨rfl, rfl⟩)
          refine (xy_any W T _ k _ q1 q6 (by omega) (by omega)).mono ?_
          rintro e w5 ⟨rfl, b5⟩
          have G5 := GS.belo b5
          obtain ⟨y0, y1, y2⟩ := X2.belo (bl_go Z4 b5)
          obtain ⟨A5, c5, hL5, o5, d5, f5, cap5, lt5⟩ := G5.at_ hfm
          have hcl := cellsT_len W fs fn k
          have BA := bl_alloc (Below.refl w5.heap.size w5) (.cells #[.int .i64 ((k : Int) % W), .int .i64 ((k : Int) / W)] 49)
          go_wp2_with (at_builtin; refine wpList_cell1 _ rfl _ _ rfl (w2.heap.size + 1) (.slice A5 (cellsT W fs fn k).length c5) (cellsT W fs fn k) rfl (o5.alloc _) _ _ w5.heap.size rfl (cell_of_row _ _ _ _ _ _ (heap_alloc_new w5 _)) (cell_of_row _ _ _ _ _ _ (heap_alloc_new w5 _)) (by omega) (by simp; omega) ?_; intro A6 c6 w6 o6 g6 e6; obtain ⟨p6, s6⟩ := G5.row2 BA hfm hL5 g6)
          go_roundw
          case rel =>
            refine ⟨k + 1, _, by omega, by go_num, (G5.put BA hfm hL5 o6 g6 e6).cast (fun n _ => ?_), fun j h h2 h3 => ?_, G5.below (bl_go Z4 b5) (Nat.le_refl _) BA hfm hL5 g6 (by omega)⟩
            · by_cases hnf : n = fn
              · rw [if_pos hnf, hnf]; exact (cellsT_yes HFQ.out).symm
              · rw [if_neg hnf]; exact (cellsT_no (by rw [HFQ.out]; intro e; injection e with e; omega)).symm
            · rcases Nat.lt_or_ge j k with h4 | h4
              · exact HK.out j h h2 h4
              · obtain rfl : j = k := by omega
                exact HOK.out
          case measure => simp [intOf]; omega
        · have HNO := Lib.hid (fillB_f1 (W := W) (bs := bs) (pss := pss) (fs := fs) k hlt (by rw [HL.out]; exact hlt) (by rw [HB.out, HF.out]; intro h; exact hin (h.1 rfl)))
          have hout : f < 0 ∨ (pss.length : Int) - 1 < f := by omega
          go_wp2_with (go_at_call 82; refine (in_f _ _ _ _ hout).mono ?_; rintro e w' ⟨rfl, rfl⟩)
          go_ret
          exact ⟨ret_b HNO.out.symm, bl_go Z2 Z4⟩
    · obtain rfl : k = bs.length := by omega
      have HD := Lib.hid (show fillD pss.length bs fs from fun j h h2 => HK.out j h h2 h)
      have HCC := Lib.hid (fun n : Nat => show cellsT W fs n bs.length = cellsT W fs n fs.length by rw [HL.out])
      have r4 := r2'.belo Z4
      have Z5 := bl_go Z2 Z4
      clear x0 x1 x2 HK hk r2 r2' r29 X2 Z2 Z4
      obtain ⟨w4, hw4⟩ : ∃ w4 : World, w4 = wr := ⟨_, rfl⟩
      subst hw4
      go_wp2_with fail
      go_loopw [88] (fun i wr => ∃ k : Nat, k ≤ pss.length ∧ i = .int .i64 k ∧ Hid (∀ j (h : j < pss.length), j < k → sameV pss[j] (cellsT W fs j fs.length) = true) ∧ Below w4.heap.size w4 wr) (fun i _ => pss.length - (intOf i).toNat)
      case atStart => exact ⟨0, Nat.zero_le _, rfl, fun j _ h => by omega, Below.refl _ _⟩
      case round =>
        obtain ⟨k, hk, rfl, HK, Z6⟩ := hrel
        by_cases hlt : k < pss.length
        · obtain ⟨b, off, A', c1, rfl, h1, h2, h3, h4⟩ := (r4.belo Z6) k hlt
          obtain ⟨A5, c5, -, o5, d5, -, cap5, -⟩ := (GS.belo Z6).at_ hlt
          have hcl := cellsT_len W fs k bs.length
          obtain ⟨ps, hps⟩ : ∃ ps, pss[k] = ps := ⟨_, rfl⟩
          have HPS := Lib.hid hps
          rw [hps] at h1 h2 h3 h4
          clear hps
          have CC := Lib.hid (fun (z : World) (R : RdC z A' ps) (R' : RdC z A5 (cellsT W fs k bs.length)) => iSamePiece_any A' A5 c1 c5 ps (cellsT W fs k bs.length) z R R' h3 (by unfold maxLen; omega) h2 cap5)
          have R5 := o5.rd
          have SV := Lib.hid (show sameV ps (cellsT W fs k bs.length) = sameV pss[k] (cellsT W fs k fs.length) by rw [HPS.out, HCC.out])
          cases hs : sameV ps (cellsT W fs k bs.length) with
          | true =>
            have HS := Lib.hid hs
            clear hs h2 h3 cap5 o5
            go_wp2_with fail
            refine (CC.out _ h4 R5).mono ?_
            rintro e w7 ⟨rfl, b7⟩
            rw [HS.out]
            go_wp2_with fail
            go_roundw
            case rel =>
              refine ⟨k + 1, by omega, by go_num, fun j h h5 => ?_, bl_go Z6 b7⟩
              rcases Nat.lt_or_ge j k with h6 | h6
              · exact HK.out j h h6
              · obtain rfl : j = k := by omega
                rw [← SV.out, HS.out]
            case measure => simp [intOf]; omega
          | false =>
            have HS := Lib.hid hs
            have HNO := Lib.hid (fillB_f2 (W := W) (bs := bs) (pss := pss) (fs := fs) k hlt (by rw [← SV.out, hs]))
            clear hs h2 h3 cap5 o5
            go_wp2_with fail
            refine (CC.out _ h4 R5).mono ?_
            rintro e w7 ⟨rfl, b7⟩
            rw [HS.out]
            go_wp2_with fail
            go_ret
            exact ⟨ret_b HNO.out.symm, bl_go Z5 (bl_go Z6 b7)⟩
        · obtain rfl : k = pss.length := by omega
          have HB := Lib.hid (fillB_t (W := W) (bs := bs) (pss := pss) (fs := fs) HD.out (fun n h => HK.out n h h))
          go_wp2_with fail
          go_ret
          exact ⟨ret_b HB.out.symm, bl_go Z5 Z6⟩
/-- whether a list fills a region -/
theorem iFillOk_any (W T : Int) (A A' A9 : Option Addr) (c c' c9 : Nat) (bs : List Bool) (pss : List (List Ce)) (fs : List Int) (w : World) (hr : Rd w A (bs.map .bool)) (hn : bs.length ≤ maxLen) (hr' : RdSS w A' pss) (hn' : pss.length ≤ maxLen) (hr9 : Rd w A9 (fs.map (.int .i64))) (hn9 : fs.length ≤ maxLen) :
    Calls Try.prog 35 #[.agg #[.int .i64 W, .int .i64 T, .slice A bs.length c], .slice A' pss.length c', .slice A9 fs.length c9] w fun e w' => e = .returned (.bool (fillOkB W T bs pss fs)) ∧ Below w.heap.size w w' := by
  by_cases h : validB W T bs = false ∨ (decide (pss.length ≤ 6) && piecesB pss) = false ∨ fs.length ≠ bs.length
  · exact iFillOk_f W T A A' A9 c c' c9 bs pss fs w hr hn hr' hn' hn9 h
  · have h1 : validB W T bs = true := by simpa using fun e => h (.inl e)
    have h2 : (decide (pss.length ≤ 6) && piecesB pss) = true := by
      cases e : (decide (pss.length ≤ 6) && piecesB pss) with
      | true => rfl
      | false => exact absurd (.inr (.inl e)) h
    have h3 : fs.length = bs.length := Classical.byContradiction fun e => h (.inr (.inr e))
    rw [fillOkB_t h1 h2 h3, h3]
    exact iFillOk_t W T A A' A9 c c' c9 bs pss fs w hr hn hr' hn' hr9 h1 h2 h3
end Go.Proofs.Ytnciemnlnijhfaa
