/- Contracts: the reference's cells beside some cells. -/
import Derived.Test.YtbplnjigoghboaaBesideN
import Derived.Test.YtbplnjigoghboaaStep
import Derived.Test.YtbplnjigoghboaaApp
namespace Go.Proofs.Ytbplnjigoghboaa
open Go.RowKit

set_option maxHeartbeats 800000 in
theorem l1Has_any (A : Option Addr) (m c : Nat) (xs : List Int) (n : Int) (w : World) (hr : Rd w A (xs.map (.int .i64))) (hm : xs.length = m) (hn : m ≤ 1000000000000) :
    Calls Try.prog 106 #[.slice A m c, .int .i64 n] w fun e w' => e = .returned (.bool (decide (n ∈ xs))) ∧ w = w' := by
  have HX := Lib.hid hm
  clear hm
  go_enter Try.func106, Try.ntmps106
  go_wp2
  go_loop [5] (fun i => ∃ k : Nat, k ≤ m ∧ i = .int .i64 k ∧ Hid (∀ j (h : j < xs.length), j < k → xs[j] ≠ n)) (fun i => m - (intOf i).toNat)
  case atStart => exact ⟨0, Nat.zero_le _, rfl, fun j h h2 => by omega⟩
  case round =>
    obtain ⟨k, hk, rfl, HK⟩ := hrel
    by_cases hlt : k < m
    · have hlx : k < xs.length := by rw [HX.out]; exact hlt
      obtain ⟨ad, rfl, hc⟩ := hr.atM hlx
      obtain ⟨q, hq⟩ : ∃ q, xs[k] = q := ⟨_, rfl⟩
      have HQ := Lib.hid hq
      rw [hq] at hc
      clear hq
      cases he : (q == n) with
      | true =>
        have HM := Lib.hid (show decide (n ∈ xs) = true by
          simp at he; subst he
          have := List.getElem_mem hlx
          rw [HQ.out] at this
          exact decide_eq_true this)
        go_wp2
        go_ret
        exact ⟨ret_b HM.out.symm, rfl⟩
      | false =>
        have HN := Lib.hid (show xs[k] ≠ n by rw [HQ.out]; simpa using he)
        go_wp2
        go_round
        case rel =>
          refine ⟨k + 1, by omega, by go_num, fun j h h2 => ?_⟩
          rcases Nat.lt_or_ge j k with h3 | h3
          · exact HK.out j h h3
          · obtain rfl : j = k := by omega
            exact HN.out
        case measure => simp [intOf]; omega
    · have HM := Lib.hid (show decide (n ∈ xs) = false by
        apply decide_eq_false
        intro hm
        obtain ⟨j, hj, e⟩ := List.getElem_of_mem hm
        exact HK.out j hj (by have := HX.out; omega) e)
      go_wp2
      go_ret
      exact ⟨ret_b HM.out.symm, rfl⟩
set_option maxRecDepth 100000 in
set_option maxHeartbeats 4000000 in
theorem sCellsBeside_any (W T : Int) (A A2 : Option Addr) (c c2 : Nat) (bs : List Bool) (cells : List Int) (w : World) (hr : Rd w A (bs.map .bool)) (hc : Rd w A2 (cells.map (.int .i64))) (hn : bs.length ≤ maxLen) (hm : cells.length ≤ 2000000) :
    Calls Try.prog 36 #[.agg #[.int .i64 W, .int .i64 T, .slice A bs.length c], .slice A2 cells.length c2] w (NewRd (besV W T bs cells) w) := by
  have X0 := C3.new w (.int .i64 W) (.int .i64 T) (.slice A bs.length c) 40
  have X00 := X0.alloc (.cells #[] 3)
  cases hv : validB W T bs with
  | true =>
    obtain ⟨h1, h2, h3, h4, h5, h6⟩ := valid_len hv
    rw [show besV W T bs cells = besL W T bs cells by unfold besV; rw [if_pos hv]]
    have HV := Lib.hid hv
    have HL := Lib.hid h6
    clear hv X0 h6
    have O0 : OwnI ((w.alloc (.cells #[.int .i64 W, .int .i64 T, .slice A bs.length c] 40)).alloc (.cells #[] 3)) (w.heap.size + 1) (.slice (some ⟨w.heap.size + 1, 0, none⟩) 0 0) [] := by
      have := OwnI.empty (w.alloc (.cells #[.int .i64 W, .int .i64 T, .slice A bs.length c] 40))
      simpa using this
    have B0 := bl_alloc (bl_alloc (Below.refl w.heap.size w) (.cells #[.int .i64 W, .int .i64 T, .slice A bs.length c] 40)) (.cells #[] 3)
    go_enter Try.func36, Try.ntmps36
    go_wp2_with fail
    go_loopw [5, 6] (fun v i wr => ∃ (k : Nat) (L : List Int), Hid (L = pickTo (isBes W T bs cells) k) ∧ k ≤ bs.length ∧ i = .int .i64 k ∧ OwnI wr (w.heap.size + 1) v L ∧ Below w.heap.size w wr ∧ C3 wr w.heap.size (.int .i64 W) (.int .i64 T) (.slice A bs.length c) ∧ w.heap.size + 1 ≤ wr.heap.size) (fun _ i _ => bs.length - (intOf i).toNat)
    case atStart => exact ⟨0, [], rfl, Nat.zero_le _, rfl, O0, B0, X00, by simp⟩
    case round =>
      clear X00 O0 B0
      obtain ⟨k, L, HA, hk, rfl, hown, B1, X1, hsz⟩ := hrel
      obtain ⟨x0, x1, x2⟩ := id X1
      obtain ⟨A3, c3, rfl, hw3⟩ := id hown
      clear hw3
      by_cases hlt : k < bs.length
      · have hLL : L.length ≤ 1000 := by rw [HA.out]; have := pick_len (isBes W T bs cells) k; omega
        have hk0 : (0 : Int) ≤ (k : Int) := by omega
        have hk1 : (k : Int) < W * T := by have := HL.out; omega
        go_wp2_with (go_at_call 37; refine (sRegionValid_any _ _ _ _ _ _ (hr.belo B1) hn).mono ?_; rintro e w2 ⟨rfl, b2⟩; rw [HV.out])
        have hown2 := hown.belo b2
        have B2 := bl_go B1 b2
        have X2 := X1.belo b2
        have hs2 := b2.size
        clear x0 x1 x2 X1 hown B1 b2
        obtain ⟨wo, hwo⟩ : ∃ wo : World, wo = w2 := ⟨_, rfl⟩
        subst hwo
        go_loopw [7, 8] (fun v i wr => ∃ j : Nat, j ≤ 4 ∧ i = .int .i64 ((j : Int) + 1) ∧ v = .bool (nbrTo W T cells k j) ∧ OwnI wr (w.heap.size + 1) (.slice A3 L.length c3) L ∧ Below w.heap.size w wr ∧ C3 wr w.heap.size (.int .i64 W) (.int .i64 T) (.slice A bs.length c) ∧ w.heap.size + 1 ≤ wr.heap.size) (fun _ i _ => 5 - (intOf i).toNat)
        case atStart => exact ⟨0, by omega, by go_num, rfl, hown2, B2, X2, by omega⟩
        case round =>
          clear hown2 B2 X2 hs2 hsz
          obtain ⟨j, hj, rfl, rfl, hown, B1, X1, hsz⟩ := hrel
          obtain ⟨x0, x1, x2⟩ := id X1
          by_cases hj4 : j < 4
          · have hd4 : decide ((j : Int) + 1 ≤ 4) = true := by simp; omega
            have HN : Hid (nbrTo W T cells k (j + 1) = (nbrTo W T cells k j || (decide (0 ≤ stepZ W T k ((j : Int) + 1)) && decide (stepZ W T k ((j : Int) + 1) ∈ cells)))) := rfl
            obtain ⟨s, hs⟩ : ∃ s, stepZ W T k ((j : Int) + 1) = s := ⟨_, rfl⟩
            have HSs := Lib.hid hs
            rw [hs] at HN
            clear hs
            cases hb : nbrTo W T cells k j with
            | true =>
              rw [hb] at HN
              clear hb
              go_wp2_with fail
              go_roundw
              case rel => exact ⟨j + 1, by omega, by go_num, by rw [HN.out]; rfl, hown, B1, X1, hsz⟩
              case measure => simp [intOf]; omega
            | false =>
              rw [hb] at HN
              clear hb
              cases hp : decide (0 ≤ s) with
              | false =>
                rw [hp] at HN
                go_wp2_with (go_at_call 105; refine (l2step_any _ _ _ _ _ _ h1 h2 h3 h4 hk0 hk1).mono ?_; rintro e w3 ⟨rfl, b3⟩; rw [HSs.out])
                go_roundw
                case rel => exact ⟨j + 1, by omega, by go_num, by rw [HN.out]; rfl, hown.belo b3, bl_go B1 b3, X1.belo b3, by have := b3.size; omega⟩
                case measure => simp [intOf]; omega
              | true =>
                rw [hp] at HN
                go_wp2_with (first
                  | (go_at_call 105; first
                      | (refine (l2step_any _ _ _ _ _ wr h1 h2 h3 h4 hk0 hk1).mono ?_; rintro e w3 ⟨rfl, b3⟩; rw [HSs.out]; have X3 := X1.belo b3; have own3 := hown.belo b3; have B3 := bl_go B1 b3; have z3 := b3.size; clear x0 x1 x2; obtain ⟨x0, x1, x2⟩ := id X3)
                      | (refine (l2step_any _ _ _ _ _ w3 h1 h2 h3 h4 hk0 hk1).mono ?_; rintro e w4 ⟨rfl, b4⟩; rw [HSs.out]; have X4 := X3.belo b4; have own4 := own3.belo b4; have B4 := bl_go B3 b4; have z4 := b4.size))
                  | (go_at_call 106; refine (l1Has_any _ _ _ _ _ _ (hc.belo B4) rfl (by omega)).mono ?_; rintro e w5 ⟨rfl, rfl⟩))
                go_roundw
                case rel => exact ⟨j + 1, by omega, by go_num, by rw [HN.out]; rfl, own4, B4, X4, by omega⟩
                case measure => simp [intOf]; omega
          · obtain rfl : j = 4 := by omega
            have hsb : bs.length ≤ 1000000000000 := by omega
            obtain ⟨ad, rfl, hbc⟩ := (hr.belo B1).atM hlt
            have hki : (k : Int) < (bs.length : Int) := by omega
            cases hb : bs[k] with
            | false =>
              have HS := Lib.hid (pick_f (isBes_f (W := W) (T := T) (cells := cells) hlt hb))
              rw [hb] at hbc
              clear hb
              cases hnb : nbrTo W T cells k 4 with
              | true =>
                clear hnb
                go_wp2_with fail
                go_roundw
                case rel => exact ⟨k + 1, L, by show _ = _; rw [HS.out, HA.out], by omega, by go_num, hown, B1, X1, hsz⟩
                case measure => simp [intOf]; omega
              | false =>
                clear hnb
                go_wp2_with fail
                go_roundw
                case rel => exact ⟨k + 1, L, by show _ = _; rw [HS.out, HA.out], by omega, by go_num, hown, B1, X1, hsz⟩
                case measure => simp [intOf]; omega
            | true =>
              have HI := Lib.hid (isBes_t (W := W) (T := T) (cells := cells) hlt hb)
              rw [hb] at hbc
              clear hb
              cases hnb : nbrTo W T cells k 4 with
              | true =>
                have HS := Lib.hid (pick_t (HI.out.trans hnb))
                clear hnb HI
                go_wp2_with (at_builtin; refine app_int _ rfl _ _ rfl (w.heap.size + 1) _ _ rfl hown _ rfl (by omega) (by omega) ?_; intro A' c' w4 hown4 hg4)
                have b4 := app_below (Below.refl (w.heap.size + 1) wr) (Nat.le_refl _) (by omega) hown hg4
                go_roundw
                case rel => exact ⟨k + 1, L ++ [(k : Int)], by show _ = _; rw [HS.out, HA.out], by omega, by go_num, by simpa using hown4, B1.trans (b4.mono (by omega)), X1.below b4 (by omega), by have := b4.size; omega⟩
                case measure => simp [intOf]; omega
              | false =>
                have HS := Lib.hid (pick_f (HI.out.trans hnb))
                clear hnb HI
                go_wp2_with fail
                go_roundw
                case rel => exact ⟨k + 1, L, by show _ = _; rw [HS.out, HA.out], by omega, by go_num, hown, B1, X1, hsz⟩
                case measure => simp [intOf]; omega
      · obtain rfl : k = bs.length := by omega
        have HF : Hid (L = besL W T bs cells) := HA.out
        go_wp2
        go_ret
        rw [← HF.out]
        exact hown.newRd B1 (by omega)
  | false =>
    rw [show besV W T bs cells = [] by unfold besV; rw [hv]; rfl]
    have HV := Lib.hid hv
    clear hv X0
    have O0 : OwnI ((w.alloc (.cells #[.int .i64 W, .int .i64 T, .slice A bs.length c] 40)).alloc (.cells #[] 3)) (w.heap.size + 1) (.slice (some ⟨w.heap.size + 1, 0, none⟩) 0 0) [] := by
      have := OwnI.empty (w.alloc (.cells #[.int .i64 W, .int .i64 T, .slice A bs.length c] 40))
      simpa using this
    have B0 := bl_alloc (bl_alloc (Below.refl w.heap.size w) (.cells #[.int .i64 W, .int .i64 T, .slice A bs.length c] 40)) (.cells #[] 3)
    by_cases h0 : 0 < bs.length
    · go_enter Try.func36, Try.ntmps36
      go_wp2_with fail
      refine wp_loop_rounds 1 ?_
      rw [rounds_succ]
      obtain ⟨x0, x1, x2⟩ := X00
      go_wp2_with fail
      refine (sRegionValid_any _ _ _ _ _ _ (by repeat (first | exact hr | apply Rd.alloc)) hn).mono ?_
      rintro e w2 ⟨rfl, b2⟩
      rw [HV.out]
      go_wp2
      go_ret
      exact (O0.belo b2).newRd (bl_go B0 b2) (by omega)
    · have h1 : bs = [] := List.eq_nil_of_length_eq_zero (by omega)
      subst h1
      go_enter Try.func36, Try.ntmps36
      go_wp2_with fail
      refine wp_loop_rounds 1 ?_
      rw [rounds_succ]
      obtain ⟨x0, x1, x2⟩ := X00
      go_wp2
      go_ret
      exact O0.newRd B0 (by omega)
end Go.Proofs.Ytbplnjigoghboaa
