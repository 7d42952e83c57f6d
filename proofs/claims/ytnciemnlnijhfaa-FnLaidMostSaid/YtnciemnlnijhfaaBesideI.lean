/- Contracts: the program's cells beside some cells. -/
import Derived.Test.YtnciemnlnijhfaaSortI
import Derived.Test.YtnciemnlnijhfaaStep
namespace Go.Proofs.Ytnciemnlnijhfaa
open Go.RowKit

set_option maxRecDepth 100000 in
set_option maxHeartbeats 4000000 in
theorem beside_any (W T : Int) (A A2 : Option Addr) (c c2 : Nat) (bs : List Bool) (cells : List Int) (w : World) (hr : Rd w A (bs.map .bool)) (hc : Rd w A2 (cells.map (.int .i64))) (h1 : 1 ≤ W) (h2 : W ≤ 6) (h3 : 1 ≤ T) (h4 : T ≤ 6) (hl : (bs.length : Int) = W * T) (hn : bs.length ≤ 36) (hm : cells.length ≤ 2000000) :
    Calls Try.prog 53 #[.agg #[.int .i64 W, .int .i64 T, .slice A bs.length c], .slice A2 cells.length c2] w (NewW (besL W T bs cells) w) := by
  have HL := Lib.hid hl
  have HE := Lib.hid (bes_eq (bs := bs) (cells := cells) h1 h2 h3 h4 hl)
  clear hl
  have X0 := C3.new w (.int .i64 W) (.int .i64 T) (.slice A bs.length c) 25
  go_enter Try.func53, Try.ntmps53
  go_wp2_with fail
  go_loopw [5, 12] (fun v i wr => ∃ (k : Nat) (L : List Int), Hid (L = besAcc W T bs cells k) ∧ k ≤ cells.length ∧ i = .int .i64 k ∧ OwnI wr (w.heap.size + 1) v L ∧ Below w.heap.size w wr ∧ C3 wr w.heap.size (.int .i64 W) (.int .i64 T) (.slice A bs.length c) ∧ w.heap.size + 1 ≤ wr.heap.size) (fun _ i _ => cells.length - (intOf i).toNat)
  case atStart => exact ⟨0, [], rfl, Nat.zero_le _, rfl, OwnI.nil _ _, bl_alloc (Below.refl _ _) _, X0, by simp⟩
  case round =>
    clear X0
    obtain ⟨k, L, HA, hk, rfl, hown, B1, X1, hsz⟩ := hrel
    obtain ⟨x0, x1, x2⟩ := id X1
    obtain ⟨A3, c3, rfl, hw3⟩ := id hown
    by_cases hlt : k < cells.length
    · obtain ⟨ad, rfl, hc0⟩ := (hc.belo B1).atM hlt
      obtain ⟨q, hq⟩ : ∃ q, cells[k] = q := ⟨_, rfl⟩
      have HQ := Lib.hid hq
      rw [hq] at hc0
      clear hq
      have hLk : L.length ≤ 4 * k := by rw [HA.out]; exact acc_len _ _ _ _ _
      have HLK := Lib.hid hLk
      clear hLk
      by_cases hin : 0 ≤ q ∧ q < bs.length
      · obtain ⟨q0, q1⟩ := hin
        have HS := Lib.hid (acc_t (W := W) (T := T) (bs := bs) hlt HQ.out q0 q1)
        obtain ⟨wo, hwo⟩ : ∃ wo : World, wo = wr := ⟨_, rfl⟩
        subst hwo
        go_wp2_with fail
        go_loopw [5, 8] (fun v i wr => ∃ (j : Nat) (M : List Int), Hid (M = L ++ besDirs W T bs q j) ∧ j ≤ 4 ∧ i = .int .i64 ((j : Int) + 1) ∧ OwnI wr (w.heap.size + 1) v M ∧ Below w.heap.size w wr ∧ C3 wr w.heap.size (.int .i64 W) (.int .i64 T) (.slice A bs.length c) ∧ w.heap.size + 1 ≤ wr.heap.size) (fun _ i _ => 5 - (intOf i).toNat)
        case atStart => exact ⟨0, L, by show _ = _; rw [show besDirs W T bs q 0 = [] from rfl, List.append_nil], by omega, by go_num, hown, B1, X1, hsz⟩
        case round =>
          clear hown B1 X1 hsz x0 x1 x2 hw3 hc0
          obtain ⟨j, M, HM, hj, rfl, hown, B1, X1, hsz⟩ := hrel
          obtain ⟨x0, x1, x2⟩ := id X1
          have hLM : M.length ≤ 10000000 := by
            rw [HM.out, List.length_append]
            have := dirs_len W T q bs j
            have := HLK.out
            omega
          have HI : Hid (inB q 0 ((bs.length : Int) - 1) = true) := inB_t q0 (by omega)
          by_cases hj4 : j < 4
          · have hd4 : decide ((j : Int) + 1 ≤ 4) = true := by simp; omega
            have hsb := step_bd (W := W) (T := T) (c := q) ((j : Int) + 1) h1 h2 h3 h4 q0 (by rw [← HL.out]; exact q1)
            obtain ⟨s, hs⟩ : ∃ s, stepZ W T q ((j : Int) + 1) = s := ⟨_, rfl⟩
            have HSs := Lib.hid hs
            rw [hs] at hsb
            clear hs
            rcases hsb with hs1 | ⟨s0, s1⟩
            · subst hs1
              have HD := Lib.hid (dirs_f (W := W) (T := T) (c := q) (bs := bs) (j := j) (.inl (by rw [HSs.out]; omega)))
              go_wp2_with (first
                | (go_at_call 60; refine (has_any _ _ _ _ _ _ _ (by omega)).mono ?_; rintro e w2 ⟨rfl, b2⟩; rw [HI.out]; have X2 := X1.belo b2; have own2 := hown.belo b2; have B2 := bl_go B1 b2; have z2 := b2.size; clear x0 x1 x2; obtain ⟨x0, x1, x2⟩ := id X2)
                | (go_at_call 99; refine (step_any _ _ _ _ _ _ h1 h2 h3 h4 q0 (by rw [← HL.out]; exact q1)).mono ?_; rintro e w3 ⟨rfl, b3⟩; rw [HSs.out]))
              go_roundw
              case rel => exact ⟨j + 1, M, by show _ = _; rw [HM.out, HD.out], by omega, by go_num, own2.belo b3, bl_go B2 b3, X2.belo b3, by have := b3.size; omega⟩
              case measure => simp [intOf]; omega
            · obtain ⟨sn, rfl⟩ := Int.eq_ofNat_of_zero_le s0
              have hsl : sn < bs.length := by have := HL.out; omega
              have hsi : (sn : Int) < (bs.length : Int) := by omega
              cases hbv : bs[sn] with
              | true =>
                have hg : bs.getD (stepZ W T q ((j : Int) + 1)).toNat false = true := by rw [HSs.out]; simp [List.getD_eq_getElem?_getD, List.getElem?_eq_getElem hsl, hbv]
                have HD := Lib.hid (dirs_t (W := W) (T := T) (c := q) (bs := bs) (j := j) (by rw [HSs.out]; omega) hg)
                have HB := Lib.hid hbv
                clear hg hbv
                go_wp2_with (first
                  | (go_at_call 60; refine (has_any _ _ _ _ _ _ _ (by omega)).mono ?_; rintro e w2 ⟨rfl, b2⟩; rw [HI.out]; have X2 := X1.belo b2; have own2 := hown.belo b2; have B2 := bl_go B1 b2; have z2 := b2.size; clear x0 x1 x2; obtain ⟨x0, x1, x2⟩ := id X2)
                  | (go_at_call 99; refine (step_any _ _ _ _ _ _ h1 h2 h3 h4 q0 (by rw [← HL.out]; exact q1)).mono ?_; rintro e w3 ⟨rfl, b3⟩; rw [HSs.out]; have X3 := X2.belo b3; have own3 := own2.belo b3; have B3 := bl_go B2 b3; have z3 := b3.size; clear x0 x1 x2; obtain ⟨x0, x1, x2⟩ := id X3; obtain ⟨adb, rfl, hbc⟩ := (hr.belo B3).atM hsl; rw [HB.out] at hbc)
                  | (at_builtin; refine app_int _ rfl _ _ rfl (w.heap.size + 1) _ _ rfl own3 _ rfl (by omega) (by omega) ?_; intro A' c' w4 hown4 hg4))
                have b4 := app_below (Below.refl (w.heap.size + 1) w3) (Nat.le_refl _) (by omega) own3 hg4
                go_roundw
                case rel => exact ⟨j + 1, M ++ [(sn : Int)], by show _ = _; rw [HD.out, HSs.out, HM.out, List.append_assoc], by omega, by go_num, by simpa using hown4, B3.trans (b4.mono (by omega)), X3.below b4 (by omega), by have := b4.size; omega⟩
                case measure => simp [intOf]; omega
              | false =>
                have hg : bs.getD (stepZ W T q ((j : Int) + 1)).toNat false = false := by rw [HSs.out]; simp [List.getD_eq_getElem?_getD, List.getElem?_eq_getElem hsl, hbv]
                have HD := Lib.hid (dirs_f (W := W) (T := T) (c := q) (bs := bs) (j := j) (.inr hg))
                have HB := Lib.hid hbv
                clear hg hbv
                go_wp2_with (first
                  | (go_at_call 60; refine (has_any _ _ _ _ _ _ _ (by omega)).mono ?_; rintro e w2 ⟨rfl, b2⟩; rw [HI.out]; have X2 := X1.belo b2; have own2 := hown.belo b2; have B2 := bl_go B1 b2; have z2 := b2.size; clear x0 x1 x2; obtain ⟨x0, x1, x2⟩ := id X2)
                  | (go_at_call 99; refine (step_any _ _ _ _ _ _ h1 h2 h3 h4 q0 (by rw [← HL.out]; exact q1)).mono ?_; rintro e w3 ⟨rfl, b3⟩; rw [HSs.out]; have X3 := X2.belo b3; have own3 := own2.belo b3; have B3 := bl_go B2 b3; have z3 := b3.size; clear x0 x1 x2; obtain ⟨x0, x1, x2⟩ := id X3; obtain ⟨adb, rfl, hbc⟩ := (hr.belo B3).atM hsl; rw [HB.out] at hbc))
                go_roundw
                case rel => exact ⟨j + 1, M, by show _ = _; rw [HM.out, HD.out], by omega, by go_num, own3, B3, X3, by omega⟩
                case measure => simp [intOf]; omega
          · obtain rfl : j = 4 := by omega
            go_wp2_with fail
            go_roundw
            case rel => exact ⟨k + 1, M, by show _ = _; rw [HS.out, HM.out, HA.out], by omega, by go_num, hown, B1, X1, hsz⟩
            case measure => simp [intOf]; omega
      · have hout : q < 0 ∨ (bs.length : Int) ≤ q := by omega
        clear hin
        have HS := Lib.hid (acc_f (W := W) (T := T) (bs := bs) hlt HQ.out hout)
        have HI : Hid (inB q 0 ((bs.length : Int) - 1) = false) := inB_f (by omega)
        obtain ⟨wo, hwo⟩ : ∃ wo : World, wo = wr := ⟨_, rfl⟩
        subst hwo
        go_wp2_with fail
        refine wp_loop_rounds 1 ?_
        rw [rounds_succ]
        go_wp2_with (go_at_call 60; refine (has_any _ _ _ _ _ _ _ (by omega)).mono ?_; rintro e w2 ⟨rfl, b2⟩; rw [HI.out])
        go_roundw
        case rel => exact ⟨k + 1, L, by show _ = _; rw [HS.out, HA.out], by omega, by go_num, hown.belo b2, bl_go B1 b2, X1.belo b2, by have := b2.size; omega⟩
        case measure => simp [intOf]; omega
    · obtain rfl : k = cells.length := by omega
      have hLk : L.length ≤ 10000000000 := by have h := acc_len W T bs cells cells.length; rw [← HA.out] at h; omega
      have HF : Hid (Lib.compact (L.mergeSort fun x y => decide (x ≤ y)) = besL W T bs cells) := by show _ = _; rw [HA.out]; exact HE.out
      have CS := sortI_any A3 c3 (w.heap.size + 1) L wr hown hLk hsz
      have CC := Lib.hid (fun (z : World) (h : OwnI z (w.heap.size + 1) (.slice A3 (L.mergeSort fun x y => decide (x ≤ y)).length c3) (L.mergeSort fun x y => decide (x ≤ y))) (hb : w.heap.size + 1 ≤ z.heap.size) => compI_any A3 c3 (w.heap.size + 1) _ z h (by rw [(List.mergeSort_perm L _).length_eq]; exact hLk) hb)
      rw [HF.out, (List.mergeSort_perm L _).length_eq] at CC
      have HCS := Lib.hid CS
      clear CS hw3
      go_wp2_with fail
      refine HCS.out.mono ?_
      rintro e w2 ⟨rfl, o2, b2⟩
      have B2 := b2 (w.heap.size) w (by omega) B1
      have z2 : w.heap.size + 1 ≤ w2.heap.size := by have := (b2 (w.heap.size + 1) wr (Nat.le_refl _) (Below.refl _ _)).size; omega
      go_wp2_with fail
      refine (CC.out w2 o2 z2).mono ?_
      rintro e w3 ⟨rfl, hcap, W3, b3⟩
      have B3 := b3 (w.heap.size) w (by omega) B2
      go_wp2_with fail
      refine (clip_raw _ _ _ _ hcap).mono ?_
      rintro e w4 ⟨rfl, rfl⟩
      go_wp2
      go_ret
      exact ⟨_, rfl, W3.lower (by omega), B3⟩
end Go.Proofs.Ytnciemnlnijhfaa
