/- The walk of the law FnExactFillOk. -/
import Derived.Test.YtnciemnlnijhfaaFillS
import Derived.Test.YtnciemnlnijhfaaCellss2
import Derived.Test.YtnciemnlnijhfaaEq
namespace Go.Proofs.Ytnciemnlnijhfaa
open Go.RowKit

set_option maxHeartbeats 1000000 in
theorem szCellSSL_any (L : Int) (l0 : 0 ≤ L) (l1 : L ≤ 1048576) (A : Option Addr) (c : Nat) (pss : List (List Ce)) (w : World) (hr : RdSS w A pss) (hn : pss.length ≤ maxLen) :
    Calls Try.prog 45 #[.slice A pss.length c, .int .i64 L] w (Room pss w) := by
  unfold maxLen at hn
  by_cases hs : (pss.length : Int) ≤ L
  · have hs1 : pss.length ≤ 1048576 := by omega
    go_enter Try.func45, Try.ntmps45
    go_wp2_with fail
    go_loopw [1, 5] (fun l i wr => ∃ (k : Nat) (r : Int), k ≤ pss.length ∧ i = .int .i64 k ∧ l = .int .i64 r ∧ 0 ≤ r ∧ r ≤ 1048576 ∧ Hid (∀ j (h : j < pss.length), j < k → pss[j].length ≤ 1048576) ∧ w = wr) (fun _ i _ => pss.length - (intOf i).toNat)
    case atStart => exact ⟨0, L - pss.length, Nat.zero_le _, rfl, rfl, by omega, by omega, fun j h h2 => by omega, rfl⟩
    case round =>
      obtain ⟨k, r, hk, rfl, rfl, hr0, hr1, HK, rfl⟩ := hrel
      by_cases hlt : k < pss.length
      · obtain ⟨b, off, A', c', rfl, h1, h2, h3, h4⟩ := hr k hlt
        obtain ⟨n, hnn⟩ : ∃ n, pss[k].length = n := ⟨_, rfl⟩
        have HN := Lib.hid hnn
        rw [hnn] at h1 h2 h3
        clear hnn h4
        by_cases hf : (n : Int) ≤ r
        · go_wp2_with (go_at_call 101; refine (szCellS_t _ _ _ _ _ hr1 hf).mono ?_; rintro e w1 ⟨rfl, rfl⟩)
          go_roundw
          case rel =>
            refine ⟨k + 1, r - n, by omega, by go_num, rfl, by omega, by omega, fun j h h2 => ?_, by trivial⟩
            rcases Nat.lt_or_ge j k with h5 | h5
            · exact HK.out j h h5
            · obtain rfl : j = k := by omega
              rw [HN.out]; omega
          case measure => simp [intOf]; omega
        · have hf' : r < n := by omega
          go_wp2_with (go_at_call 101; refine (szCellS_f _ _ _ _ _ hr0 h3 hf').mono ?_; rintro e w1 ⟨rfl, rfl⟩)
          go_ret
          exact ⟨_, rfl, fun h => by omega, rfl⟩
      · go_wp2_with fail
        go_ret
        exact ⟨_, rfl, fun _ => ⟨hs1, fun ps hp => by obtain ⟨j, hj, e⟩ := List.getElem_of_mem hp; rw [← e]; exact HK.out j hj (by omega)⟩, rfl⟩
  · have hs1 : L < pss.length := by omega
    go_enter Try.func45, Try.ntmps45
    go_wp2_with fail
    go_ret
    exact ⟨_, rfl, fun h => by omega, rfl⟩

set_option maxRecDepth 100000 in
set_option maxHeartbeats 4000000 in
theorem fnExactFillOk_walk {w0 : World} (W T : Int) (A : Option Addr) (c : Nat) (bs : List Bool) (_wW : (Lit.int .i64 W).wf = true) (_wT : (Lit.int .i64 T).wf = true) (hn : bs.length ≤ maxLen) (hr : Rd w0 A (bs.map .bool)) (A8 : Option Addr) (c8 : Nat) (pss : List (List Ce)) (hn8 : pss.length ≤ maxLen) (hr8 : RdSS w0 A8 pss) (A9 : Option Addr) (c9 : Nat) (ds : List Int) (hn9 : ds.length ≤ maxLen) (hr9 : Rd w0 A9 (ds.map (.int .i64))) (_w9 : ∀ n ∈ ds, (Lit.int .i64 n).wf = true) :
    Calls Try.prog 9 #[.agg #[.int .i64 W, .int .i64 T, .slice A bs.length c], .slice A8 pss.length c8, .slice A9 ds.length c9] w0 fun e w' => e = .returned (.bool true) ∧ Below w0.heap.size w0 w' := by
  clear _wW _wT _w9
  have hn9' := hn9
  unfold maxLen at hn9'
  by_cases hs9 : ds.length ≤ 1048576
  · have hg : decide ((1048576 : Int) < (ds.length : Int)) = false := by simp; omega
    by_cases hs : bs.length ≤ 1048576
    · have hs1 : (bs.length : Int) ≤ 1048576 := by omega
      have hS := fun A A' A9 c c' c9 w R R' R9 => sFillOk_any W T A A' A9 c c' c9 bs pss ds w R hn R' hn8 R9 hn9
      have hI := fun A A' A9 c c' c9 w R R' R9 => iFillOk_any W T A A' A9 c c' c9 bs pss ds w R hn R' hn8 R9 hn9
      generalize fillOkB W T bs pss ds = fv at hS hI
      have HS := Lib.hid hS
      have HI := Lib.hid hI
      clear hS hI
      have hp1 : (fv != fv) = false := by simp
      have X0 := C3.new w0 (.int .i64 W) (.int .i64 T) (.slice A bs.length c) 52
      go_enter Try.func9, Try.ntmps9
      go_wp2_with fail
      refine (szRegion_t _ _ _ _ _ _ _ (by omega) hs1).mono ?_
      rintro e w1 ⟨rfl, b1⟩
      have B1 := bl_go ((Below.refl w0.heap.size w0).alloc (Nat.le_refl _) _) b1
      have R1 := hr.belo B1
      have P1 := hr8.belo B1
      have X1 := X0.belo b1
      clear X0 b1
      obtain ⟨x0, x1, x2⟩ := id X1
      have hlf : decide ((1048576 : Int) - (bs.length : Int) < 0) = false := by simp; omega
      go_wp2_with fail
      refine (szCellSSL_any (1048576 - (bs.length : Int)) (by omega) (by omega) _ _ _ _ P1 hn8).mono ?_
      rintro e w1' ⟨r, rfl, HR, rfl⟩
      by_cases h0 : r < 0
      · go_wp2_with fail
        go_ret
        exact ⟨rfl, B1⟩
      · have H2 := Lib.hid (HR.out (by omega))
        clear HR P1
        go_wp2_with fail
        refine (toRegion_any _ _ _ _ _ _ R1 (by omega)).mono ?_
        rintro e w2 ⟨A2, c2, rfl, o2, b2⟩
        have B2 := bl_go B1 b2
        have X2 := X1.belo b2
        have S2 := Rd.own o2
        have P2 := hr8.belo B2
        clear o2 R1 B1 X1 x0 x1 x2 b2
        go_wp2_with fail
        refine (toCellSS_any _ _ _ _ P2 H2.out.1 H2.out.2).mono ?_
        rintro e w25 ⟨A25, rfl, P25, b25⟩
        have B25 := bl_go B2 b25
        replace S2 := S2.belo b25
        replace X2 := X2.belo b25
        have Q25 := hr9.belo B25
        clear P2 B2 b25
        go_wp2_with fail
        refine (toIntS_any _ _ ds _ Q25 (by omega)).mono ?_
        rintro e w26 ⟨A26, c26, rfl, o26, b26⟩
        have D26 := Rd.own o26
        replace S2 := S2.belo b26
        replace P25 := P25.belo b26
        replace X2 := X2.belo b26
        have B26 := bl_go B25 b26
        clear o26 Q25 B25 b26
        obtain ⟨x0, x1, x2⟩ := id X2
        go_wp2_with fail
        refine (HS.out _ _ _ _ _ _ _ S2 P25 D26).mono ?_
        rintro e w3 ⟨rfl, b3⟩
        have B3 := bl_go B26 b3
        have X3 := X2.belo b3
        have R3 := hr.belo B3
        clear S2 P25 D26 b3 x0 x1 x2 X2 B26 HS
        obtain ⟨x0, x1, x2⟩ := id X3
        go_wp2_with fail
        refine (toRegion_any _ _ _ _ _ _ R3 (by omega)).mono ?_
        rintro e w4 ⟨A4, c4, rfl, o4, b4⟩
        have B4 := bl_go B3 b4
        have X4 := X3.belo b4
        have S4 := Rd.own o4
        have Y4 := C3.new w4 (.int .i64 W) (.int .i64 T) (.slice A4 bs.length c4) 25
        clear R3 o4 b4 B3 x0 x1 x2 X3
        have P4 := hr8.belo (bl_alloc B4 (.cells #[.int .i64 W, .int .i64 T, .slice A4 bs.length c4] 25))
        go_wp2_with fail
        refine (toCellSS_any _ _ _ _ P4 H2.out.1 H2.out.2).mono ?_
        rintro e w45 ⟨A45, rfl, P45, b45⟩
        replace X4 := (X4.alloc _).belo b45
        replace Y4 := Y4.belo b45
        replace S4 := (S4.alloc _).belo b45
        replace B4 := bl_go (bl_alloc B4 _) b45
        have Q45 := hr9.belo B4
        clear P4 b45
        go_wp2_with fail
        refine (toIntS_any _ _ ds _ Q45 (by omega)).mono ?_
        rintro e w46 ⟨A46, c46, rfl, o46, b46⟩
        have D46 := Rd.own o46
        replace X4 := X4.belo b46
        replace Y4 := Y4.belo b46
        replace S4 := S4.belo b46
        replace P45 := P45.belo b46
        replace B4 := bl_go B4 b46
        clear o46 Q45 b46
        obtain ⟨x0, x1, x2⟩ := id X4
        obtain ⟨y0, y1, y2⟩ := id Y4
        go_wp2_with fail
        refine (HI.out _ _ _ _ _ _ _ S4 P45 D46).mono ?_
        rintro e w5 ⟨rfl, b5⟩
        have B5 := bl_go B4 b5
        have D5 := D46.belo b5
        have P5 := P45.belo b5
        have X5 := X4.belo b5
        have Y5 := Y4.belo b5
        have S5 := S4.belo b5
        have R5 := hr.belo B5
        clear S4 b5 B4 X4 Y4 D46 P45 x0 x1 x2 y0 y1 y2 HI
        obtain ⟨x0, x1, x2⟩ := id X5
        obtain ⟨y0, y1, y2⟩ := id Y5
        go_wp2_with fail
        go_region_held3 (fun w' => (w'.cell? ⟨w0.heap.size, 0, none⟩ = some (.int .i64 W) ∧ w'.cell? ⟨w0.heap.size, 1, none⟩ = some (.int .i64 T) ∧ w'.cell? ⟨w0.heap.size, 2, none⟩ = some (.slice A bs.length c)) ∧
            (w'.cell? ⟨w4.heap.size, 0, none⟩ = some (.int .i64 W) ∧ w'.cell? ⟨w4.heap.size, 1, none⟩ = some (.int .i64 T) ∧ w'.cell? ⟨w4.heap.size, 2, none⟩ = some (.slice A4 bs.length c4)))
          (first | exact ⟨X7, Y7⟩ | exact ⟨X6, Y6⟩ | exact ⟨X5, Y5⟩ | go_keep)
          (first
            | (go_at_call 38; refine (toRegion_any _ _ _ _ _ _ R5.drew (by omega)).mono ?_; rintro e w6 ⟨A6, c6, rfl, o6, b6⟩; have X6 := X5.drew.belo b6; have Y6 := Y5.drew.belo b6; have S6 := Rd.own o6; have T6 := S5.drew.belo b6; have B6 := bl_go B5.drew b6)
            | (go_at_call 41; refine (eqRegion_t _ _ _ _ _ _ _ _ T6 S6 hn).mono ?_; rintro e w7 ⟨rfl, b7⟩; have X7 := X6.belo b7; have Y7 := Y6.belo b7; have B7 := bl_go B6 b7))
        have B57 : Below w5.heap.size w5 w7 := bl_go (Below.refl _ _).drew (bl_go b6 b7)
        have D7 := D5.belo B57
        have P7 := P5.belo B57
        have Q7 := hr8.belo B7
        go_wp2_with fail
        refine (toCellSS_any _ _ _ _ Q7 H2.out.1 H2.out.2).mono ?_
        rintro e w8 ⟨A8', rfl, P8, b8⟩
        have B8 := bl_go B7 b8
        go_wp2_with fail
        refine (eqCellSS_t _ _ _ _ _ _ (P7.belo b8) P8 hn8).mono ?_
        rintro e w9 ⟨rfl, b9⟩
        have B9 := bl_go B8 b9
        have D9 := D7.belo (bl_go b8 b9)
        have Q9 := hr9.belo B9
        go_wp2_with fail
        refine (toIntS_any _ _ ds _ Q9 (by omega)).mono ?_
        rintro e w10 ⟨A10, c10, rfl, o10, b10⟩
        have D10 := Rd.own o10
        have B10 := bl_go B9 b10
        go_wp2_with fail
        refine (eqIntS_t _ _ _ _ ds _ (D9.belo b10) D10 hn9).mono ?_
        rintro e w11 ⟨rfl, b11⟩
        go_wp2
        go_ret
        exact ⟨rfl, bl_go B10 b11⟩
    · have hs1 : (1048576 : Int) < bs.length := by omega
      go_enter Try.func9, Try.ntmps9
      go_wp2_with fail
      refine (szRegion_f _ _ _ _ _ _ _ (by omega) hn hs1).mono ?_
      rintro e w1 ⟨rfl, b1⟩
      have B1 := bl_go ((Below.refl w0.heap.size w0).alloc (Nat.le_refl _) _) b1
      go_wp2
      go_ret
      exact ⟨rfl, B1⟩
  · have hg : decide ((1048576 : Int) < (ds.length : Int)) = true := by simp; omega
    go_enter Try.func9, Try.ntmps9
    go_wp2
    go_ret
    exact ⟨rfl, bl_alloc (Below.refl _ _) _⟩
end Go.Proofs.Ytnciemnlnijhfaa
