/- Contract: the reference's BarsMany. -/
import Derived.Test.YtealmphaoolglaaBarsI2
import Derived.Test.YtealmphaoolglaaLess
namespace Go.Proofs.Ytealmphaoolglaa
open Go.RowKit

def BarsS (W T : Int) (long n : Nat) (f : Nat) : Prop :=
  ∀ (bs : List Bool) (b off c : Nat) (w : World), Rd w (some ⟨b, off, none⟩) (bs.map .bool) → bs.length = n → cnt bs ≤ f →
    Calls Try.prog 82 #[.agg #[.int .i64 W, .int .i64 T, .slice (some ⟨b, off, none⟩) n c], .int .i64 long] w fun e w' => e = .returned (.int .i64 (barsN W T long f bs)) ∧ Below w.heap.size w w'
set_option maxRecDepth 100000 in
set_option maxHeartbeats 2000000 in
theorem barsS_step (W T : Int) (long n : Nat) (h1 : 1 ≤ W) (h2 : W ≤ 6) (h3 : 1 ≤ T) (h4 : T ≤ 6) (l1 : 1 ≤ long) (l2 : long ≤ 4) (hWT : W * T = (n : Int)) (f : Nat) (hf : f ≤ 24) (ih : ∀ f', f' < f → BarsS W T long n f') : BarsS W T long n f := by
  intro bs b off c w hr hn hcnt
  have n36 : n ≤ 36 := by have := mul_bd h1 h2 h3 h4; omega
  have n1 : 1 ≤ n := by have := mul_bd h1 h2 h3 h4; omega
  have HN := Lib.hid hn
  have HWT := Lib.hid hWT
  have HIH := Lib.hid ih
  have HCNT := Lib.hid hcnt
  have HNE := Lib.hid (show bs ≠ [] by intro e; subst e; simp at hn; omega)
  have X0 := C3.new w (.int .i64 W) (.int .i64 T) (.slice (some ⟨b, off, none⟩) n c) 45
  have B0 := bl_alloc (Below.refl w.heap.size w) (.cells #[.int .i64 W, .int .i64 T, .slice (some ⟨b, off, none⟩) n c] 45)
  have r0 := hr.belo B0
  clear hn hWT ih hcnt
  go_enter Try.func82, Try.ntmps82
  go_wp2_with fail
  generalize w.alloc (.cells #[.int .i64 W, .int .i64 T, .slice (some ⟨b, off, none⟩) n c] 45) = wq at *
  obtain ⟨x0, x1, x2⟩ := id X0
  go_loop [5] (fun v => ∃ k : Nat, k ≤ n ∧ v = .int .i64 k ∧ Hid (∀ j (hj : j < bs.length), j < k → bs[j] = false)) (fun v => n - (intOf v).toNat)
  case atStart => exact ⟨0, Nat.zero_le _, rfl, fun j hj h => absurd h (Nat.not_lt_zero j)⟩
  case round =>
    obtain ⟨k, hk, rfl, HK⟩ := hrel
    by_cases hlt : k < n
    · have kb : k < bs.length := by have := HN.out; omega
      have cb := r0.cellEM kb
      have kI : (k : Int) < (n : Int) := by omega
      cases hb : bs[k] with
      | false =>
        rw [hb] at cb
        have HF := Lib.hid hb
        clear hb
        go_wp2_with fail
        go_round
        case rel =>
          refine ⟨k + 1, by omega, by go_num, fun j hj hj2 => ?_⟩
          rcases Nat.lt_or_ge j k with h | h
          · exact HK.out j hj h
          · obtain rfl : j = k := by omega
            exact HF.out
        case measure => simp [intOf]; omega
      | true =>
        rw [hb] at cb
        have HF := Lib.hid hb
        have hkn : ((k : Int) == (n : Int)) = false := by rw [beq_eq_false_iff_ne]; omega
        have hfp := cnt_pos kb hb
        obtain ⟨f', rfl⟩ : ∃ f', f = f' + 1 := ⟨f - 1, by have := HCNT.out; omega⟩
        have HFIRST := Lib.hid (firstB_eq (F := bs) (c := k) (by omega) HK.out (fun _ => hb))
        have HB := Lib.hid (show barsN W T long (f' + 1) bs = sumB W T long (barsN W T long f') bs k 2 by
          rw [barsN, if_neg (by rw [HFIRST.out, HN.out]; omega), HFIRST.out])
        have HPW := Lib.hid (show ((2 : Int) ^ f') ≤ 16777216 by
          have e : (2 : Int) ^ f' = ((2 ^ f' : Nat) : Int) := by simp
          have := Nat.pow_le_pow_right (show 1 ≤ 2 by omega) (show f' ≤ 24 by omega)
          rw [e]; omega)
        have HKW := Lib.hid (show (k : Int) < W * T by have := HWT.out; omega)
        clear hfp hb
        go_wp2_with fail
        clear cb x0 x1 x2 hkn
        go_loopw [6, 7] (fun v i wr => ∃ q : Nat, q ≤ 2 ∧ i = .int .i64 ((q : Int) + 1) ∧ v = .int .i64 (sumB W T long (barsN W T long f') bs k q) ∧ Below w.heap.size w wr ∧ C3 wr w.heap.size (.int .i64 W) (.int .i64 T) (.slice (some ⟨b, off, none⟩) n c)) (fun _ i _ => 4 - (intOf i).toNat)
        case atStart => exact ⟨0, by omega, by go_num, rfl, B0, X0⟩
        case round =>
          clear B0 X0 r0
          obtain ⟨q, hq, rfl, rfl, B1, X1⟩ := hrel
          by_cases hq2 : q < 2
          · obtain ⟨d, hd⟩ : ∃ d, (q : Int) + 1 = d := ⟨_, rfl⟩
            have HD := Lib.hid hd
            have hdl : d ≤ 2 := by omega
            have hdg : 1 ≤ d := by omega
            obtain ⟨S0, hS0⟩ : ∃ S0, sumB W T long (barsN W T long f') bs k q = S0 := ⟨_, rfl⟩
            have hSb := sumB_bd W T long f' bs k q hq
            rw [hS0] at hSb ⊢
            rw [hd]
            have HS0 := Lib.hid hS0
            clear hS0 hd
            obtain ⟨hSb1, hSb2⟩ := hSb
            have hSb3 : S0 ≤ 33554432 := by have := HPW.out; omega
            clear hSb2
            obtain ⟨wo, hwo⟩ : ∃ wo : World, wo = wr := ⟨_, rfl⟩
            subst hwo
            have B2 := bl_alloc B1 (.cells #[] 3)
            have X2 := X1.alloc (.cells #[] 3)
            have own2 := OwnI.empty wo
            have hs2 : wo.heap.size ≤ (wo.alloc (.cells #[] 3)).heap.size := by simp
            have hwo1 : w.heap.size < wo.heap.size := X1.lt
            go_wp2_with fail
            generalize wo.alloc (.cells #[] 3) = w2 at *
            go_loopw [8, 9] (fun v a wz => ∃ (L : List Int) (t : Int), a = .int .i64 t ∧ OwnI wz wo.heap.size v L ∧ Hid (L ++ barL W T bs d (long - L.length) t = barL W T bs d long k) ∧ L.length ≤ long ∧ (t = -1 ∨ (0 ≤ t ∧ t < (n : Int))) ∧ Below w.heap.size w wz ∧ C3 wz w.heap.size (.int .i64 W) (.int .i64 T) (.slice (some ⟨b, off, none⟩) n c) ∧ wo.heap.size ≤ wz.heap.size) (fun v _ _ => match v with | .slice _ m _ => long - m | _ => 0)
            case atStart => exact ⟨[], k, rfl, own2, rfl, Nat.zero_le _, .inr ⟨by omega, by omega⟩, B2, X2, hs2⟩
            case round =>
              clear own2 B2 X2 hs2 B1 X1
              obtain ⟨L, t, rfl, hown, HBAR, lL2, ht, B5, X5, hs5⟩ := hrel
              obtain ⟨A3, c3, rfl, hown'⟩ := id hown
              clear hown'
              have r5 := hr.belo B5
              obtain ⟨x0, x1, x2⟩ := id X5
              by_cases hgo2 : (0 ≤ t ∧ bs.getD t.toNat false = true) ∧ L.length < long
              · obtain ⟨⟨t0', hfree⟩, hll⟩ := hgo2
                obtain ⟨tn, rfl⟩ := Int.eq_ofNat_of_zero_le t0'
                have htn : tn < n := by omega
                have tb : tn < bs.length := by have := HN.out; omega
                rw [Int.toNat_natCast, getD_at _ false tb] at hfree
                have cb := r5.cellEM tb
                rw [hfree] at cb
                have HB2 := Lib.hid (show (L ++ [(tn : Int)]) ++ barL W T bs d (long - (L ++ [(tn : Int)]).length) (stepZ W T tn d) = barL W T bs d long k by
                  rw [← HBAR.out]
                  obtain ⟨m, hm⟩ : ∃ m, long - L.length = m + 1 := ⟨long - L.length - 1, by omega⟩
                  rw [hm, barL_head tb hfree, List.length_append, List.length_singleton, show long - (L.length + 1) = m by omega]
                  simp)
                have HTW := Lib.hid (show (tn : Int) < W * T by have := HWT.out; omega)
                have tI : (tn : Int) < (n : Int) := by omega
                have lI : (L.length : Int) < (long : Int) := by omega
                have HB5 := Lib.hid B5
                have HX5 := Lib.hid X5
                clear hfree ht t0' B5 X5 r5
                go_wp2_with (at_builtin; refine app_int _ rfl _ _ rfl wo.heap.size _ _ rfl hown _ rfl (by omega) hs5 ?_; intro A' c' w4 hown4 hg4; have b4 := app_below (Below.refl wo.heap.size wr) (Nat.le_refl _) hs5 hown hg4; have X6 := HX5.out.below b4 hwo1; obtain ⟨y0, y1, y2⟩ := id X6)
                refine (l2step_any W T _ tn d _ h1 h2 h3 h4 (by omega) HTW.out).mono ?_
                rintro e w5 ⟨rfl, b5⟩
                have hst := step_bd d h1 h2 h3 h4 (show 0 ≤ (tn : Int) by omega) HTW.out
                rw [HWT.out] at hst
                have HST := Lib.hid hst
                have hs6 : wo.heap.size ≤ w5.heap.size := by have := b4.size; have := b5.size; omega
                have B6 := bl_go (HB5.out.trans (b4.mono (by omega))) b5
                clear hst y0 y1 y2
                go_wp2_with fail
                go_roundw
                case rel => exact ⟨L ++ [(tn : Int)], _, rfl, by simpa using hown4.belo b5, HB2.out, by simp; omega, HST.out, B6, X6.belo b5, hs6⟩
                case measure => simp; omega
              · have HL := Lib.hid (show L = barL W T bs d long k by
                  rw [← HBAR.out]
                  have : barL W T bs d (long - L.length) t = [] := by
                    rcases Nat.lt_or_ge L.length long with h | h
                    · obtain ⟨m, hm⟩ : ∃ m, long - L.length = m + 1 := ⟨long - L.length - 1, by omega⟩
                      rw [hm, barL, if_neg (fun h2 => hgo2 ⟨h2, h⟩)]
                    · rw [show long - L.length = 0 by omega]; rfl
                  rw [this, List.append_nil])
                have HMEM := Lib.hid (show ∀ x ∈ L, 0 ≤ x ∧ x < (bs.length : Int) from fun x hx => by
                  rw [HL.out] at hx
                  obtain ⟨m1, m2, -⟩ := barL_mem x hx
                  omega)
                have HLN := Lib.hid ((clearL_len L bs).trans HN.out)
                have HC2 := Lib.hid (show cnt (clearL bs L) ≤ f' by
                  have := cnt_bar (W := W) (T := T) (d := d) (n := long) (by omega) kb HF.out
                  rw [← HL.out] at this
                  have := HCNT.out; omega)
                have l4 : L.length ≤ 100 := by omega
                have HL3 := Lib.hid (fun (z : World) (Az : Option Addr) (cz : Nat) (R : Rd z (some ⟨b, off, none⟩) (bs.map .bool)) (RL : Rd z Az (L.map (.int .i64))) => by
                  have := l3less_any W T ⟨b, off, none⟩ Az c cz bs L z R RL HNE.out (by have := HN.out; omega) HMEM.out l4
                  rw [HN.out] at this; exact this)
                clear HBAR
                by_cases hll : L.length < long
                · have HP := Lib.hid (show sumB W T long (barsN W T long f') bs k (q + 1) = S0 by
                    rw [sumB, HS0.out, HD.out, partB, if_neg (by rw [← HL.out]; omega)]; omega)
                  have he : ((L.length : Int) == (long : Int)) = false := by rw [beq_eq_false_iff_ne]; omega
                  have lI : (L.length : Int) < (long : Int) := by omega
                  have hex : (t = -1) ∨ (∃ tn : Nat, t = tn ∧ tn < n ∧ ∃ (h1 : tn < bs.length), bs[tn] = false) := by
                    rcases ht with ht | ⟨ht1, ht2⟩
                    · exact .inl ht
                    · right
                      obtain ⟨tn, rfl⟩ := Int.eq_ofNat_of_zero_le ht1
                      have tb : tn < bs.length := by have := HN.out; omega
                      refine ⟨tn, rfl, by omega, tb, ?_⟩
                      cases e1 : bs[tn] with
                      | false => rfl
                      | true => exact absurd ⟨⟨by omega, by rw [Int.toNat_natCast, getD_at _ false tb, e1]⟩, hll⟩ hgo2
                  clear hgo2 ht
                  rcases hex with rfl | ⟨tn, rfl, htn, tb, eb⟩
                  · have tT : True := trivial
                    go_wp2_with fail
                    go_roundw
                    case rel => exact ⟨q + 1, by omega, by rw [← HD.out]; go_num, by rw [HP.out], B5, X5⟩
                    case measure => have hd := HD.out; simp [intOf]; omega
                  · have cb := r5.cellEM tb
                    rw [eb] at cb
                    have tI : (tn : Int) < (n : Int) := by omega
                    clear eb
                    go_wp2_with fail
                    go_roundw
                    case rel => exact ⟨q + 1, by omega, by rw [← HD.out]; go_num, by rw [HP.out], B5, X5⟩
                    case measure => have hd := HD.out; simp [intOf]; omega
                · have he : ((L.length : Int) == (long : Int)) = true := by rw [beq_iff_eq]; omega
                  have HLE := Lib.hid (show L.length = long by omega)
                  have hge : long ≤ L.length := by omega
                  have hnl : decide ((L.length : Int) < (long : Int)) = false := by simp; omega
                  have hex : (t = -1) ∨ (∃ tn : Nat, t = tn ∧ tn < n) := by
                    rcases ht with ht | ⟨ht1, ht2⟩
                    · exact .inl ht
                    · right
                      obtain ⟨tn, rfl⟩ := Int.eq_ofNat_of_zero_le ht1
                      exact ⟨tn, rfl, by omega⟩
                  clear hgo2 ht hll
                  by_cases hl1 : 1 < long
                  · have hl1' : (1 : Int) < (long : Int) := by omega
                    have HSUM := Lib.hid (show sumB W T long (barsN W T long f') bs k (q + 1) = sumB W T long (barsN W T long f') bs k q + barsN W T long f' (clearL bs L) by
                      rw [sumB, HD.out, partB, if_pos ⟨by rw [← HL.out]; exact HLE.out, .inl hl1⟩, ← HL.out])
                    rcases hex with rfl | ⟨tn, rfl, htn⟩
                    · have tT : True := trivial
                      go_wp2_with fail
                      with_reducible refine (HL3.out _ _ _ r5 (hown.rd.2)).mono ?_
                      rintro e w6 ⟨A6, c6, rfl, q6, b6⟩
                      rw [HLN.out]
                      obtain ⟨b6', o6', rfl, -⟩ := q6.rd.atEM (k := 0) (by rw [HLN.out]; omega)
                      have CIH := HIH.out f' (by omega) (clearL bs L) b6' o6' c6 w6 q6.rd (by rw [HLN.out]) HC2.out
                      obtain ⟨B0, hB0⟩ : ∃ B0, barsN W T long f' (clearL bs L) = B0 := ⟨_, rfl⟩
                      have hBb := barsN_bd W T long f' (clearL bs L)
                      rw [hB0] at hBb CIH
                      have HB0 := Lib.hid hB0
                      have HCIH := Lib.hid CIH
                      clear hB0 CIH
                      obtain ⟨hBb1, hBb2⟩ := hBb
                      have hBb3 : B0 ≤ 16777216 := Int.le_trans hBb2 HPW.out
                      clear hBb2
                      go_wp2_with fail
                      refine HCIH.out.mono ?_
                      rintro e w7 ⟨rfl, b7⟩
                      have B7 := bl_go (bl_go B5 b6) b7
                      have X7 := (X5.belo b6).belo b7
                      clear HCIH q6 b6 b7 B5 X5 r5 hown
                      go_wp2_with fail
                      go_roundw
                      case rel => exact ⟨q + 1, by omega, by rw [← HD.out]; go_num, by rw [HSUM.out, HB0.out, HS0.out], B7, X7⟩
                      case measure => have hd := HD.out; simp [intOf]; omega
                    · have tI : (tn : Int) < (n : Int) := by omega
                      go_wp2_with fail
                      with_reducible refine (HL3.out _ _ _ r5 (hown.rd.2)).mono ?_
                      rintro e w6 ⟨A6, c6, rfl, q6, b6⟩
                      rw [HLN.out]
                      obtain ⟨b6', o6', rfl, -⟩ := q6.rd.atEM (k := 0) (by rw [HLN.out]; omega)
                      have CIH := HIH.out f' (by omega) (clearL bs L) b6' o6' c6 w6 q6.rd (by rw [HLN.out]) HC2.out
                      obtain ⟨B0, hB0⟩ : ∃ B0, barsN W T long f' (clearL bs L) = B0 := ⟨_, rfl⟩
                      have hBb := barsN_bd W T long f' (clearL bs L)
                      rw [hB0] at hBb CIH
                      have HB0 := Lib.hid hB0
                      have HCIH := Lib.hid CIH
                      clear hB0 CIH
                      obtain ⟨hBb1, hBb2⟩ := hBb
                      have hBb3 : B0 ≤ 16777216 := Int.le_trans hBb2 HPW.out
                      clear hBb2
                      go_wp2_with fail
                      refine HCIH.out.mono ?_
                      rintro e w7 ⟨rfl, b7⟩
                      have B7 := bl_go (bl_go B5 b6) b7
                      have X7 := (X5.belo b6).belo b7
                      clear HCIH q6 b6 b7 B5 X5 r5 hown
                      go_wp2_with fail
                      go_roundw
                      case rel => exact ⟨q + 1, by omega, by rw [← HD.out]; go_num, by rw [HSUM.out, HB0.out, HS0.out], B7, X7⟩
                      case measure => have hd := HD.out; simp [intOf]; omega
                  · have hl1' : decide ((1 : Int) < (long : Int)) = false := by simp; omega
                    by_cases hd1 : d = 1
                    · have hd1' : (d == 1) = true := by simpa using hd1
                      have HSUM := Lib.hid (show sumB W T long (barsN W T long f') bs k (q + 1) = sumB W T long (barsN W T long f') bs k q + barsN W T long f' (clearL bs L) by
                        rw [sumB, HD.out, partB, if_pos ⟨by rw [← HL.out]; exact HLE.out, .inr hd1⟩, ← HL.out])
                      clear hd1
                      rcases hex with rfl | ⟨tn, rfl, htn⟩
                      · have tT : True := trivial
                        go_wp2_with fail
                        with_reducible refine (HL3.out _ _ _ r5 (hown.rd.2)).mono ?_
                        rintro e w6 ⟨A6, c6, rfl, q6, b6⟩
                        rw [HLN.out]
                        obtain ⟨b6', o6', rfl, -⟩ := q6.rd.atEM (k := 0) (by rw [HLN.out]; omega)
                        have CIH := HIH.out f' (by omega) (clearL bs L) b6' o6' c6 w6 q6.rd (by rw [HLN.out]) HC2.out
                        obtain ⟨B0, hB0⟩ : ∃ B0, barsN W T long f' (clearL bs L) = B0 := ⟨_, rfl⟩
                        have hBb := barsN_bd W T long f' (clearL bs L)
                        rw [hB0] at hBb CIH
                        have HB0 := Lib.hid hB0
                        have HCIH := Lib.hid CIH
                        clear hB0 CIH
                        obtain ⟨hBb1, hBb2⟩ := hBb
                        have hBb3 : B0 ≤ 16777216 := Int.le_trans hBb2 HPW.out
                        clear hBb2
                        go_wp2_with fail
                        refine HCIH.out.mono ?_
                        rintro e w7 ⟨rfl, b7⟩
                        have B7 := bl_go (bl_go B5 b6) b7
                        have X7 := (X5.belo b6).belo b7
                        clear HCIH q6 b6 b7 B5 X5 r5 hown
                        go_wp2_with fail
                        go_roundw
                        case rel => exact ⟨q + 1, by omega, by rw [← HD.out]; go_num, by rw [HSUM.out, HB0.out, HS0.out], B7, X7⟩
                        case measure => have hd := HD.out; simp [intOf]; omega
                      · have tI : (tn : Int) < (n : Int) := by omega
                        go_wp2_with fail
                        with_reducible refine (HL3.out _ _ _ r5 (hown.rd.2)).mono ?_
                        rintro e w6 ⟨A6, c6, rfl, q6, b6⟩
                        rw [HLN.out]
                        obtain ⟨b6', o6', rfl, -⟩ := q6.rd.atEM (k := 0) (by rw [HLN.out]; omega)
                        have CIH := HIH.out f' (by omega) (clearL bs L) b6' o6' c6 w6 q6.rd (by rw [HLN.out]) HC2.out
                        obtain ⟨B0, hB0⟩ : ∃ B0, barsN W T long f' (clearL bs L) = B0 := ⟨_, rfl⟩
                        have hBb := barsN_bd W T long f' (clearL bs L)
                        rw [hB0] at hBb CIH
                        have HB0 := Lib.hid hB0
                        have HCIH := Lib.hid CIH
                        clear hB0 CIH
                        obtain ⟨hBb1, hBb2⟩ := hBb
                        have hBb3 : B0 ≤ 16777216 := Int.le_trans hBb2 HPW.out
                        clear hBb2
                        go_wp2_with fail
                        refine HCIH.out.mono ?_
                        rintro e w7 ⟨rfl, b7⟩
                        have B7 := bl_go (bl_go B5 b6) b7
                        have X7 := (X5.belo b6).belo b7
                        clear HCIH q6 b6 b7 B5 X5 r5 hown
                        go_wp2_with fail
                        go_roundw
                        case rel => exact ⟨q + 1, by omega, by rw [← HD.out]; go_num, by rw [HSUM.out, HB0.out, HS0.out], B7, X7⟩
                        case measure => have hd := HD.out; simp [intOf]; omega
                    · have hd1' : (d == 1) = false := by simpa using hd1
                      have HP := Lib.hid (show sumB W T long (barsN W T long f') bs k (q + 1) = S0 by
                        rw [sumB, HS0.out, HD.out, partB, if_neg (by intro h; rcases h.2 with h | h; exact hl1 h; exact hd1 h)]; omega)
                      clear hd1
                      rcases hex with rfl | ⟨tn, rfl, htn⟩
                      · have tT : True := trivial
                        go_wp2_with fail
                        go_roundw
                        case rel => exact ⟨q + 1, by omega, by rw [← HD.out]; go_num, by rw [HP.out], B5, X5⟩
                        case measure => have hd := HD.out; simp [intOf]; omega
                      · have tI : (tn : Int) < (n : Int) := by omega
                        go_wp2_with fail
                        go_roundw
                        case rel => exact ⟨q + 1, by omega, by rw [← HD.out]; go_num, by rw [HP.out], B5, X5⟩
                        case measure => have hd := HD.out; simp [intOf]; omega
          · obtain rfl : q = 2 := by omega
            go_wp2_with fail
            go_ret
            exact ⟨ret_i HB.out.symm, B1⟩
    · have hkn : ((k : Int) == (n : Int)) = true := by rw [beq_iff_eq]; omega
      have HE := Lib.hid (barsN_none (W := W) (T := T) (long := long) (f := f) (firstB_eq (F := bs) (c := k) (by have := HN.out; omega) HK.out (fun h => absurd h (by have := HN.out; omega)) |>.trans (show k = bs.length by have := HN.out; omega)))
      go_wp2
      go_ret
      exact ⟨ret_i HE.out.symm, B0⟩
theorem barsS_all (W T : Int) (long n : Nat) (h1 : 1 ≤ W) (h2 : W ≤ 6) (h3 : 1 ≤ T) (h4 : T ≤ 6) (l1 : 1 ≤ long) (l2 : long ≤ 4) (hWT : W * T = (n : Int)) (f : Nat) (hf : f ≤ 24) : BarsS W T long n f := by
  induction f using Nat.strongRecOn with
  | _ f ih => exact barsS_step W T long n h1 h2 h3 h4 l1 l2 hWT f hf (fun f' h => ih f' h (by omega))
end Go.Proofs.Ytealmphaoolglaa
