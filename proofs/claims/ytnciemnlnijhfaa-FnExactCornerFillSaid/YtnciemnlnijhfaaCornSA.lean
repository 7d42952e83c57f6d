/- The reference's CornerFill at the squares side 2, level 1 at 0, 0, side 4, level 1 at 0, 0, side 4, level 1 at 2, 0. -/
import Derived.Test.YtnciemnlnijhfaaCornS
namespace Go.Proofs.Ytnciemnlnijhfaa
open Go.RowKit

set_option maxRecDepth 100000 in
set_option maxHeartbeats 4000000 in
theorem crs_2_1_0_0 (c g lo : Nat) : CrsOk 2 c g lo 1 0 0 := by
  intro w F hole n R HL h1 h2
  rw [crnS_eq]
  have z1 : (5 : Nat) ^ 1 = 5 * 5 ^ 0 := by decide
  have z2 : 1 ≤ (5 : Nat) ^ 0 := by decide
  have z3 : (5 : Nat) ^ 0 = 1 := by decide
  have hn : n ≤ 1000 := by omega
  obtain ⟨hx, ex⟩ : ∃ hx : Nat, hole % 2 = hx := ⟨_, rfl⟩
  obtain ⟨hy, ey⟩ : ∃ hy : Nat, hole / 2 = hy := ⟨_, rfl⟩
  have e1 : (hole : Int).tmod 2 = (hx : Int) := by rw [Int.tmod_eq_emod_of_nonneg (by omega)]; omega
  have e2 : (hole : Int) % 2 = (hx : Int) := by omega
  have e3 : (hole : Int).tdiv 2 = (hy : Int) := by rw [Int.tdiv_eq_ediv_of_nonneg (by omega)]; omega
  have e4 : (hole : Int) / 2 = (hy : Int) := by omega
  have hxs : hx < 2 := by omega
  have hys : hy < 2 := by omega
  have EX := Lib.hid ex
  have EY := Lib.hid ey
  have hho : hole < 4 := h1
  clear ex ey
  have H0 : LpS 2 0 0 0 hole g lo (F, (n : Int) + 1) n w 0 (n + 1) w := ⟨rfl, by omega, R, HL, World.grownBy.refl _ _⟩
  have C0 := Lib.hid (fun (z : World) (F' : List Int) (ho m : Nat) (R : Wr z lo 3 (some ⟨g, 0, none⟩) (F'.map (.int .i64))) (L : Hid (F'.length = 2 * 2)) (h : ho < 4) (hm : m + 5 ^ 0 ≤ 1000) =>
    (show Calls Try.prog 81 #[.slice (some ⟨g, 0, none⟩) 4 c, .int .i64 2, .int .i64 0, .int .i64 0, .int .i64 1, .int .i64 ho, .int .i64 m] z _ from (crs_zero 2 c g lo 0 0) z F' ho m R L h hm))
  have C1 := Lib.hid (fun (z : World) (F' : List Int) (ho m : Nat) (R : Wr z lo 3 (some ⟨g, 0, none⟩) (F'.map (.int .i64))) (L : Hid (F'.length = 2 * 2)) (h : ho < 4) (hm : m + 5 ^ 0 ≤ 1000) =>
    (show Calls Try.prog 81 #[.slice (some ⟨g, 0, none⟩) 4 c, .int .i64 2, .int .i64 1, .int .i64 0, .int .i64 1, .int .i64 ho, .int .i64 m] z _ from (crs_zero 2 c g lo 1 0) z F' ho m R L h hm))
  have C2 := Lib.hid (fun (z : World) (F' : List Int) (ho m : Nat) (R : Wr z lo 3 (some ⟨g, 0, none⟩) (F'.map (.int .i64))) (L : Hid (F'.length = 2 * 2)) (h : ho < 4) (hm : m + 5 ^ 0 ≤ 1000) =>
    (show Calls Try.prog 81 #[.slice (some ⟨g, 0, none⟩) 4 c, .int .i64 2, .int .i64 0, .int .i64 1, .int .i64 1, .int .i64 ho, .int .i64 m] z _ from (crs_zero 2 c g lo 0 1) z F' ho m R L h hm))
  have C3 := Lib.hid (fun (z : World) (F' : List Int) (ho m : Nat) (R : Wr z lo 3 (some ⟨g, 0, none⟩) (F'.map (.int .i64))) (L : Hid (F'.length = 2 * 2)) (h : ho < 4) (hm : m + 5 ^ 0 ≤ 1000) =>
    (show Calls Try.prog 81 #[.slice (some ⟨g, 0, none⟩) 4 c, .int .i64 2, .int .i64 1, .int .i64 1, .int .i64 1, .int .i64 ho, .int .i64 m] z _ from (crs_zero 2 c g lo 1 1) z F' ho m R L h hm))
  clear R HL h1
  show Calls Try.prog 81 #[.slice (some ⟨g, 0, none⟩) 4 c, .int .i64 2, .int .i64 0, .int .i64 0, .int .i64 2, .int .i64 hole, .int .i64 n] w _
  go_enter Try.func81, Try.ntmps81
  go_wp2
  go_loopw [0, 6, 18] (fun v0 v6 i wr => ∃ q m : Nat, q ≤ 4 ∧ i = .int .i64 q ∧ v6 = .int .i64 m ∧ v0 = .slice (some ⟨g, 0, none⟩) 4 c ∧ LpS 2 0 0 0 hole g lo (F, (n : Int) + 1) n w q m wr) (fun _ _ i _ => 4 - (intOf i).toNat)
  case atStart => exact ⟨0, n + 1, by omega, rfl, by go_num, rfl, H0⟩
  case round =>
    clear H0
    obtain ⟨q, m, hq, rfl, rfl, rfl, H⟩ := hrel
    have hm := H.2.1
    rcases (show q = 0 ∨ q = 1 ∨ q = 2 ∨ q = 3 ∨ q = 4 from by omega) with rfl | rfl | rfl | rfl | rfl
    · have hle : m + 5 ^ 0 ≤ 1000 := by omega
      obtain ⟨⟨ov, k1⟩, k2⟩ := cells_ofS H.2.2.1 H.2.2.2.1.out (j := 0) (by decide)
      by_cases hin : (0 ≤ hx ∧ hx < 1) ∧ (0 ≤ hy ∧ hy < 1)
      · have hin' : (0 ≤ hole % 2 ∧ hole % 2 < 0 + 2 ^ 0) ∧ (0 ≤ hole / 2 ∧ hole / 2 < 0 + 2 ^ 0) := by rw [EX.out, EY.out]; exact hin
        have HIN := Lib.hid hin'
        obtain ⟨⟨i1, i2⟩, i3, i4⟩ := hin
        clear hin'
        go_wp2_with (first | (go_at_call 73; refine (l1in_t _ _ _ _ (by omega) (by omega)).mono ?_; rintro e w' ⟨rfl, rfl⟩))
        refine (C0.out _ _ hole m H.2.2.1 H.2.2.2.1 hho hle).mono ?_
        rintro e w5 ⟨⟨m', j1, j2, rfl, j3, j4⟩, j5⟩
        go_wp2
        go_roundw
        case rel => exact ⟨1, m', by omega, rfl, rfl, rfl, LpS.inn (X := 0) (Y := 0) rfl rfl HIN.out H j1 j2 j3 j4 j5⟩
        case measure => simp [intOf]
      · have hin' : ¬ ((0 ≤ hole % 2 ∧ hole % 2 < 0 + 2 ^ 0) ∧ (0 ≤ hole / 2 ∧ hole / 2 < 0 + 2 ^ 0)) := by rw [EX.out, EY.out]; exact hin
        have HIN := Lib.hid hin'
        clear hin'
        have R4 := H.2.2.1.putI 0 n
        have L4 : Hid (((crsQ 2 0 0 0 hole n (F, (n : Int) + 1) 0).1.set 0 n).length = 2 * 2) := by show _ = _; rw [List.length_set]; exact H.2.2.2.1.out
        have G4 : wr.grownBy (wr.setCell ⟨g, 0, none⟩ (.int .i64 n)) (some g) := gb_store (World.grownBy.refl _ _)
        by_cases ht : 0 ≤ hx ∧ hx < 1
        · obtain ⟨i1, i2⟩ := ht
          have i5 : hy < 0 ∨ 1 ≤ hy := by omega
          clear hin
          go_wp2_with (first | (go_at_call 73; refine (l1in_t _ _ _ _ (by omega) (by omega)).mono ?_; rintro e w' ⟨rfl, rfl⟩) | (go_at_call 73; refine (l1in_f _ _ _ _ (by omega)).mono ?_; rintro e w' ⟨rfl, rfl⟩))
          refine (C0.out _ _ 0 m R4 L4 (by decide) hle).mono ?_
          rintro e w5 ⟨⟨m', j1, j2, rfl, j3, j4⟩, j5⟩
          go_wp2
          go_roundw
          case rel => exact ⟨1, m', by omega, rfl, rfl, rfl, LpS.out (X := 0) (Y := 0) (J := 0) rfl rfl rfl HIN.out H G4 j1 j2 j3 j4 j5⟩
          case measure => simp [intOf]
        · have i5 : hx < 0 ∨ 1 ≤ hx := by omega
          clear hin ht
          go_wp2_with (first | (go_at_call 73; refine (l1in_f _ _ _ _ (by omega)).mono ?_; rintro e w' ⟨rfl, rfl⟩))
          refine (C0.out _ _ 0 m R4 L4 (by decide) hle).mono ?_
          rintro e w5 ⟨⟨m', j1, j2, rfl, j3, j4⟩, j5⟩
          go_wp2
          go_roundw
          case rel => exact ⟨1, m', by omega, rfl, rfl, rfl, LpS.out (X := 0) (Y := 0) (J := 0) rfl rfl rfl HIN.out H G4 j1 j2 j3 j4 j5⟩
          case measure => simp [intOf]
    · have hle : m + 5 ^ 0 ≤ 1000 := by omega
      obtain ⟨⟨ov, k1⟩, k2⟩ := cells_ofS H.2.2.1 H.2.2.2.1.out (j := 1) (by decide)
      by_cases hin : (1 ≤ hx ∧ hx < 2) ∧ (0 ≤ hy ∧ hy < 1)
      · have hin' : (1 ≤ hole % 2 ∧ hole % 2 < 1 + 2 ^ 0) ∧ (0 ≤ hole / 2 ∧ hole / 2 < 0 + 2 ^ 0) := by rw [EX.out, EY.out]; exact hin
        have HIN := Lib.hid hin'
        obtain ⟨⟨i1, i2⟩, i3, i4⟩ := hin
        clear hin'
        go_wp2_with (first | (go_at_call 73; refine (l1in_t _ _ _ _ (by omega) (by omega)).mono ?_; rintro e w' ⟨rfl, rfl⟩))
        refine (C1.out _ _ hole m H.2.2.1 H.2.2.2.1 hho hle).mono ?_
        rintro e w5 ⟨⟨m', j1, j2, rfl, j3, j4⟩, j5⟩
        go_wp2
        go_roundw
        case rel => exact ⟨2, m', by omega, rfl, rfl, rfl, LpS.inn (X := 1) (Y := 0) rfl rfl HIN.out H j1 j2 j3 j4 j5⟩
        case measure => simp [intOf]
      · have hin' : ¬ ((1 ≤ hole % 2 ∧ hole % 2 < 1 + 2 ^ 0) ∧ (0 ≤ hole / 2 ∧ hole / 2 < 0 + 2 ^ 0)) := by rw [EX.out, EY.out]; exact hin
        have HIN := Lib.hid hin'
        clear hin'
        have R4 := H.2.2.1.putI 1 n
        have L4 : Hid (((crsQ 2 0 0 0 hole n (F, (n : Int) + 1) 1).1.set 1 n).length = 2 * 2) := by show _ = _; rw [List.length_set]; exact H.2.2.2.1.out
        have G4 : wr.grownBy (wr.setCell ⟨g, 1, none⟩ (.int .i64 n)) (some g) := gb_store (World.grownBy.refl _ _)
        by_cases ht : 1 ≤ hx ∧ hx < 2
        · obtain ⟨i1, i2⟩ := ht
          have i5 : hy < 0 ∨ 1 ≤ hy := by omega
          clear hin
          go_wp2_with (first | (go_at_call 73; refine (l1in_t _ _ _ _ (by omega) (by omega)).mono ?_; rintro e w' ⟨rfl, rfl⟩) | (go_at_call 73; refine (l1in_f _ _ _ _ (by omega)).mono ?_; rintro e w' ⟨rfl, rfl⟩))
          refine (C1.out _ _ 1 m R4 L4 (by decide) hle).mono ?_
          rintro e w5 ⟨⟨m', j1, j2, rfl, j3, j4⟩, j5⟩
          go_wp2
          go_roundw
          case rel => exact ⟨2, m', by omega, rfl, rfl, rfl, LpS.out (X := 1) (Y := 0) (J := 1) rfl rfl rfl HIN.out H G4 j1 j2 j3 j4 j5⟩
          case measure => simp [intOf]
        · have i5 : hx < 1 ∨ 2 ≤ hx := by omega
          clear hin ht
          go_wp2_with (first | (go_at_call 73; refine (l1in_f _ _ _ _ (by omega)).mono ?_; rintro e w' ⟨rfl, rfl⟩))
          refine (C1.out _ _ 1 m R4 L4 (by decide) hle).mono ?_
          rintro e w5 ⟨⟨m', j1, j2, rfl, j3, j4⟩, j5⟩
          go_wp2
          go_roundw
          case rel => exact ⟨2, m', by omega, rfl, rfl, rfl, LpS.out (X := 1) (Y := 0) (J := 1) rfl rfl rfl HIN.out H G4 j1 j2 j3 j4 j5⟩
          case measure => simp [intOf]
    · have hle : m + 5 ^ 0 ≤ 1000 := by omega
      obtain ⟨⟨ov, k1⟩, k2⟩ := cells_ofS H.2.2.1 H.2.2.2.1.out (j := 2) (by decide)
      by_cases hin : (0 ≤ hx ∧ hx < 1) ∧ (1 ≤ hy ∧ hy < 2)
      · have hin' : (0 ≤ hole % 2 ∧ hole % 2 < 0 + 2 ^ 0) ∧ (1 ≤ hole / 2 ∧ hole / 2 < 1 + 2 ^ 0) := by rw [EX.out, EY.out]; exact hin
        have HIN := Lib.hid hin'
        obtain ⟨⟨i1, i2⟩, i3, i4⟩ := hin
        clear hin'
        go_wp2_with (first | (go_at_call 73; refine (l1in_t _ _ _ _ (by omega) (by omega)).mono ?_; rintro e w' ⟨rfl, rfl⟩))
        refine (C2.out _ _ hole m H.2.2.1 H.2.2.2.1 hho hle).mono ?_
        rintro e w5 ⟨⟨m', j1, j2, rfl, j3, j4⟩, j5⟩
        go_wp2
        go_roundw
        case rel => exact ⟨3, m', by omega, rfl, rfl, rfl, LpS.inn (X := 0) (Y := 1) rfl rfl HIN.out H j1 j2 j3 j4 j5⟩
        case measure => simp [intOf]
      · have hin' : ¬ ((0 ≤ hole % 2 ∧ hole % 2 < 0 + 2 ^ 0) ∧ (1 ≤ hole / 2 ∧ hole / 2 < 1 + 2 ^ 0)) := by rw [EX.out, EY.out]; exact hin
        have HIN := Lib.hid hin'
        clear hin'
        have R4 := H.2.2.1.putI 2 n
        have L4 : Hid (((crsQ 2 0 0 0 hole n (F, (n : Int) + 1) 2).1.set 2 n).length = 2 * 2) := by show _ = _; rw [List.length_set]; exact H.2.2.2.1.out
        have G4 : wr.grownBy (wr.setCell ⟨g, 2, none⟩ (.int .i64 n)) (some g) := gb_store (World.grownBy.refl _ _)
        by_cases ht : 0 ≤ hx ∧ hx < 1
        · obtain ⟨i1, i2⟩ := ht
          have i5 : hy < 1 ∨ 2 ≤ hy := by omega
          clear hin
          go_wp2_with (first | (go_at_call 73; refine (l1in_t _ _ _ _ (by omega) (by omega)).mono ?_; rintro e w' ⟨rfl, rfl⟩) | (go_at_call 73; refine (l1in_f _ _ _ _ (by omega)).mono ?_; rintro e w' ⟨rfl, rfl⟩))
          refine (C2.out _ _ 2 m R4 L4 (by decide) hle).mono ?_
          rintro e w5 ⟨⟨m', j1, j2, rfl, j3, j4⟩, j5⟩
          go_wp2
          go_roundw
          case rel => exact ⟨3, m', by omega, rfl, rfl, rfl, LpS.out (X := 0) (Y := 1) (J := 2) rfl rfl rfl HIN.out H G4 j1 j2 j3 j4 j5⟩
          case measure => simp [intOf]
        · have i5 : hx < 0 ∨ 1 ≤ hx := by omega
          clear hin ht
          go_wp2_with (first | (go_at_call 73; refine (l1in_f _ _ _ _ (by omega)).mono ?_; rintro e w' ⟨rfl, rfl⟩))
          refine (C2.out _ _ 2 m R4 L4 (by decide) hle).mono ?_
          rintro e w5 ⟨⟨m', j1, j2, rfl, j3, j4⟩, j5⟩
          go_wp2
          go_roundw
          case rel => exact ⟨3, m', by omega, rfl, rfl, rfl, LpS.out (X := 0) (Y := 1) (J := 2) rfl rfl rfl HIN.out H G4 j1 j2 j3 j4 j5⟩
          case measure => simp [intOf]
    · have hle : m + 5 ^ 0 ≤ 1000 := by omega
      obtain ⟨⟨ov, k1⟩, k2⟩ := cells_ofS H.2.2.1 H.2.2.2.1.out (j := 3) (by decide)
      by_cases hin : (1 ≤ hx ∧ hx < 2) ∧ (1 ≤ hy ∧ hy < 2)
      · have hin' : (1 ≤ hole % 2 ∧ hole % 2 < 1 + 2 ^ 0) ∧ (1 ≤ hole / 2 ∧ hole / 2 < 1 + 2 ^ 0) := by rw [EX.out, EY.out]; exact hin
        have HIN := Lib.hid hin'
        obtain ⟨⟨i1, i2⟩, i3, i4⟩ := hin
        clear hin'
        go_wp2_with (first | (go_at_call 73; refine (l1in_t _ _ _ _ (by omega) (by omega)).mono ?_; rintro e w' ⟨rfl, rfl⟩))
        refine (C3.out _ _ hole m H.2.2.1 H.2.2.2.1 hho hle).mono ?_
        rintro e w5 ⟨⟨m', j1, j2, rfl, j3, j4⟩, j5⟩
        go_wp2
        go_roundw
        case rel => exact ⟨4, m', by omega, rfl, rfl, rfl, LpS.inn (X := 1) (Y := 1) rfl rfl HIN.out H j1 j2 j3 j4 j5⟩
        case measure => simp [intOf]
      · have hin' : ¬ ((1 ≤ hole % 2 ∧ hole % 2 < 1 + 2 ^ 0) ∧ (1 ≤ hole / 2 ∧ hole / 2 < 1 + 2 ^ 0)) := by rw [EX.out, EY.out]; exact hin
        have HIN := Lib.hid hin'
        clear hin'
        have R4 := H.2.2.1.putI 3 n
        have L4 : Hid (((crsQ 2 0 0 0 hole n (F, (n : Int) + 1) 3).1.set 3 n).length = 2 * 2) := by show _ = _; rw [List.length_set]; exact H.2.2.2.1.out
        have G4 : wr.grownBy (wr.setCell ⟨g, 3, none⟩ (.int .i64 n)) (some g) := gb_store (World.grownBy.refl _ _)
        by_cases ht : 1 ≤ hx ∧ hx < 2
        · obtain ⟨i1, i2⟩ := ht
          have i5 : hy < 1 ∨ 2 ≤ hy := by omega
          clear hin
          go_wp2_with (first | (go_at_call 73; refine (l1in_t _ _ _ _ (by omega) (by omega)).mono ?_; rintro e w' ⟨rfl, rfl⟩) | (go_at_call 73; refine (l1in_f _ _ _ _ (by omega)).mono ?_; rintro e w' ⟨rfl, rfl⟩))
          refine (C3.out _ _ 3 m R4 L4 (by decide) hle).mono ?_
          rintro e w5 ⟨⟨m', j1, j2, rfl, j3, j4⟩, j5⟩
          go_wp2
          go_roundw
          case rel => exact ⟨4, m', by omega, rfl, rfl, rfl, LpS.out (X := 1) (Y := 1) (J := 3) rfl rfl rfl HIN.out H G4 j1 j2 j3 j4 j5⟩
          case measure => simp [intOf]
        · have i5 : hx < 1 ∨ 2 ≤ hx := by omega
          clear hin ht
          go_wp2_with (first | (go_at_call 73; refine (l1in_f _ _ _ _ (by omega)).mono ?_; rintro e w' ⟨rfl, rfl⟩))
          refine (C3.out _ _ 3 m R4 L4 (by decide) hle).mono ?_
          rintro e w5 ⟨⟨m', j1, j2, rfl, j3, j4⟩, j5⟩
          go_wp2
          go_roundw
          case rel => exact ⟨4, m', by omega, rfl, rfl, rfl, LpS.out (X := 1) (Y := 1) (J := 3) rfl rfl rfl HIN.out H G4 j1 j2 j3 j4 j5⟩
          case measure => simp [intOf]
    · go_wp2
      go_ret2
      obtain ⟨k1, k2, k3, k4, k5⟩ := H
      exact ⟨⟨m, k1, by omega, rfl, k3, k4⟩, k5⟩
set_option maxRecDepth 100000 in
set_option maxHeartbeats 4000000 in
theorem crs_4_1_0_0 (c g lo : Nat) : CrsOk 4 c g lo 1 0 0 := by
  intro w F hole n R HL h1 h2
  rw [crnS_eq]
  have z1 : (5 : Nat) ^ 1 = 5 * 5 ^ 0 := by decide
  have z2 : 1 ≤ (5 : Nat) ^ 0 := by decide
  have z3 : (5 : Nat) ^ 0 = 1 := by decide
  have hn : n ≤ 1000 := by omega
  obtain ⟨hx, ex⟩ : ∃ hx : Nat, hole % 4 = hx := ⟨_, rfl⟩
  obtain ⟨hy, ey⟩ : ∃ hy : Nat, hole / 4 = hy := ⟨_, rfl⟩
  have e1 : (hole : Int).tmod 4 = (hx : Int) := by rw [Int.tmod_eq_emod_of_nonneg (by omega)]; omega
  have e2 : (hole : Int) % 4 = (hx : Int) := by omega
  have e3 : (hole : Int).tdiv 4 = (hy : Int) := by rw [Int.tdiv_eq_ediv_of_nonneg (by omega)]; omega
  have e4 : (hole : Int) / 4 = (hy : Int) := by omega
  have hxs : hx < 4 := by omega
  have hys : hy < 4 := by omega
  have EX := Lib.hid ex
  have EY := Lib.hid ey
  have hho : hole < 16 := h1
  clear ex ey
  have H0 : LpS 4 0 0 0 hole g lo (F, (n : Int) + 1) n w 0 (n + 1) w := ⟨rfl, by omega, R, HL, World.grownBy.refl _ _⟩
  have C0 := Lib.hid (fun (z : World) (F' : List Int) (ho m : Nat) (R : Wr z lo 3 (some ⟨g, 0, none⟩) (F'.map (.int .i64))) (L : Hid (F'.length = 4 * 4)) (h : ho < 16) (hm : m + 5 ^ 0 ≤ 1000) =>
    (show Calls Try.prog 81 #[.slice (some ⟨g, 0, none⟩) 16 c, .int .i64 4, .int .i64 0, .int .i64 0, .int .i64 1, .int .i64 ho, .int .i64 m] z _ from (crs_zero 4 c g lo 0 0) z F' ho m R L h hm))
  have C1 := Lib.hid (fun (z : World) (F' : List Int) (ho m : Nat) (R : Wr z lo 3 (some ⟨g, 0, none⟩) (F'.map (.int .i64))) (L : Hid (F'.length = 4 * 4)) (h : ho < 16) (hm : m + 5 ^ 0 ≤ 1000) =>
    (show Calls Try.prog 81 #[.slice (some ⟨g, 0, none⟩) 16 c, .int .i64 4, .int .i64 1, .int .i64 0, .int .i64 1, .int .i64 ho, .int .i64 m] z _ from (crs_zero 4 c g lo 1 0) z F' ho m R L h hm))
  have C2 := Lib.hid (fun (z : World) (F' : List Int) (ho m : Nat) (R : Wr z lo 3 (some ⟨g, 0, none⟩) (F'.map (.int .i64))) (L : Hid (F'.length = 4 * 4)) (h : ho < 16) (hm : m + 5 ^ 0 ≤ 1000) =>
    (show Calls Try.prog 81 #[.slice (some ⟨g, 0, none⟩) 16 c, .int .i64 4, .int .i64 0, .int .i64 1, .int .i64 1, .int .i64 ho, .int .i64 m] z _ from (crs_zero 4 c g lo 0 1) z F' ho m R L h hm))
  have C3 := Lib.hid (fun (z : World) (F' : List Int) (ho m : Nat) (R : Wr z lo 3 (some ⟨g, 0, none⟩) (F'.map (.int .i64))) (L : Hid (F'.length = 4 * 4)) (h : ho < 16) (hm : m + 5 ^ 0 ≤ 1000) =>
    (show Calls Try.prog 81 #[.slice (some ⟨g, 0, none⟩) 16 c, .int .i64 4, .int .i64 1, .int .i64 1, .int .i64 1, .int .i64 ho, .int .i64 m] z _ from (crs_zero 4 c g lo 1 1) z F' ho m R L h hm))
  clear R HL h1
  show Calls Try.prog 81 #[.slice (some ⟨g, 0, none⟩) 16 c, .int .i64 4, .int .i64 0, .int .i64 0, .int .i64 2, .int .i64 hole, .int .i64 n] w _
  go_enter Try.func81, Try.ntmps81
  go_wp2
  go_loopw [0, 6, 18] (fun v0 v6 i wr => ∃ q m : Nat, q ≤ 4 ∧ i = .int .i64 q ∧ v6 = .int .i64 m ∧ v0 = .slice (some ⟨g, 0, none⟩) 16 c ∧ LpS 4 0 0 0 hole g lo (F, (n : Int) + 1) n w q m wr) (fun _ _ i _ => 4 - (intOf i).toNat)
  case atStart => exact ⟨0, n + 1, by omega, rfl, by go_num, rfl, H0⟩
  case round =>
    clear H0
    obtain ⟨q, m, hq, rfl, rfl, rfl, H⟩ := hrel
    have hm := H.2.1
    rcases (show q = 0 ∨ q = 1 ∨ q = 2 ∨ q = 3 ∨ q = 4 from by omega) with rfl | rfl | rfl | rfl | rfl
    · have hle : m + 5 ^ 0 ≤ 1000 := by omega
      obtain ⟨⟨ov, k1⟩, k2⟩ := cells_ofS H.2.2.1 H.2.2.2.1.out (j := 0) (by decide)
      by_cases hin : (0 ≤ hx ∧ hx < 1) ∧ (0 ≤ hy ∧ hy < 1)
      · have hin' : (0 ≤ hole % 4 ∧ hole % 4 < 0 + 2 ^ 0) ∧ (0 ≤ hole / 4 ∧ hole / 4 < 0 + 2 ^ 0) := by rw [EX.out, EY.out]; exact hin
        have HIN := Lib.hid hin'
        obtain ⟨⟨i1, i2⟩, i3, i4⟩ := hin
        clear hin'
        go_wp2_with (first | (go_at_call 73; refine (l1in_t _ _ _ _ (by omega) (by omega)).mono ?_; rintro e w' ⟨rfl, rfl⟩))
        refine (C0.out _ _ hole m H.2.2.1 H.2.2.2.1 hho hle).mono ?_
        rintro e w5 ⟨⟨m', j1, j2, rfl, j3, j4⟩, j5⟩
        go_wp2
        go_roundw
        case rel => exact ⟨1, m', by omega, rfl, rfl, rfl, LpS.inn (X := 0) (Y := 0) rfl rfl HIN.out H j1 j2 j3 j4 j5⟩
        case measure => simp [intOf]
      · have hin' : ¬ ((0 ≤ hole % 4 ∧ hole % 4 < 0 + 2 ^ 0) ∧ (0 ≤ hole / 4 ∧ hole / 4 < 0 + 2 ^ 0)) := by rw [EX.out, EY.out]; exact hin
        have HIN := Lib.hid hin'
        clear hin'
        have R4 := H.2.2.1.putI 0 n
        have L4 : Hid (((crsQ 4 0 0 0 hole n (F, (n : Int) + 1) 0).1.set 0 n).length = 4 * 4) := by show _ = _; rw [List.length_set]; exact H.2.2.2.1.out
        have G4 : wr.grownBy (wr.setCell ⟨g, 0, none⟩ (.int .i64 n)) (some g) := gb_store (World.grownBy.refl _ _)
        by_cases ht : 0 ≤ hx ∧ hx < 1
        · obtain ⟨i1, i2⟩ := ht
          have i5 : hy < 0 ∨ 1 ≤ hy := by omega
          clear hin
          go_wp2_with (first | (go_at_call 73; refine (l1in_t _ _ _ _ (by omega) (by omega)).mono ?_; rintro e w' ⟨rfl, rfl⟩) | (go_at_call 73; refine (l1in_f _ _ _ _ (by omega)).mono ?_; rintro e w' ⟨rfl, rfl⟩))
          refine (C0.out _ _ 0 m R4 L4 (by decide) hle).mono ?_
          rintro e w5 ⟨⟨m', j1, j2, rfl, j3, j4⟩, j5⟩
          go_wp2
          go_roundw
          case rel => exact ⟨1, m', by omega, rfl, rfl, rfl, LpS.out (X := 0) (Y := 0) (J := 0) rfl rfl rfl HIN.out H G4 j1 j2 j3 j4 j5⟩
          case measure => simp [intOf]
        · have i5 : hx < 0 ∨ 1 ≤ hx := by omega
          clear hin ht
          go_wp2_with (first | (go_at_call 73; refine (l1in_f _ _ _ _ (by omega)).mono ?_; rintro e w' ⟨rfl, rfl⟩))
          refine (C0.out _ _ 0 m R4 L4 (by decide) hle).mono ?_
          rintro e w5 ⟨⟨m', j1, j2, rfl, j3, j4⟩, j5⟩
          go_wp2
          go_roundw
          case rel => exact ⟨1, m', by omega, rfl, rfl, rfl, LpS.out (X := 0) (Y := 0) (J := 0) rfl rfl rfl HIN.out H G4 j1 j2 j3 j4 j5⟩
          case measure => simp [intOf]
    · have hle : m + 5 ^ 0 ≤ 1000 := by omega
      obtain ⟨⟨ov, k1⟩, k2⟩ := cells_ofS H.2.2.1 H.2.2.2.1.out (j := 1) (by decide)
      by_cases hin : (1 ≤ hx ∧ hx < 2) ∧ (0 ≤ hy ∧ hy < 1)
      · have hin' : (1 ≤ hole % 4 ∧ hole % 4 < 1 + 2 ^ 0) ∧ (0 ≤ hole / 4 ∧ hole / 4 < 0 + 2 ^ 0) := by rw [EX.out, EY.out]; exact hin
        have HIN := Lib.hid hin'
        obtain ⟨⟨i1, i2⟩, i3, i4⟩ := hin
        clear hin'
        go_wp2_with (first | (go_at_call 73; refine (l1in_t _ _ _ _ (by omega) (by omega)).mono ?_; rintro e w' ⟨rfl, rfl⟩))
        refine (C1.out _ _ hole m H.2.2.1 H.2.2.2.1 hho hle).mono ?_
        rintro e w5 ⟨⟨m', j1, j2, rfl, j3, j4⟩, j5⟩
        go_wp2
        go_roundw
        case rel => exact ⟨2, m', by omega, rfl, rfl, rfl, LpS.inn (X := 1) (Y := 0) rfl rfl HIN.out H j1 j2 j3 j4 j5⟩
        case measure => simp [intOf]
      · have hin' : ¬ ((1 ≤ hole % 4 ∧ hole % 4 < 1 + 2 ^ 0) ∧ (0 ≤ hole / 4 ∧ hole / 4 < 0 + 2 ^ 0)) := by rw [EX.out, EY.out]; exact hin
        have HIN := Lib.hid hin'
        clear hin'
        have R4 := H.2.2.1.putI 1 n
        have L4 : Hid (((crsQ 4 0 0 0 hole n (F, (n : Int) + 1) 1).1.set 1 n).length = 4 * 4) := by show _ = _; rw [List.length_set]; exact H.2.2.2.1.out
        have G4 : wr.grownBy (wr.setCell ⟨g, 1, none⟩ (.int .i64 n)) (some g) := gb_store (World.grownBy.refl _ _)
        by_cases ht : 1 ≤ hx ∧ hx < 2
        · obtain ⟨i1, i2⟩ := ht
          have i5 : hy < 0 ∨ 1 ≤ hy := by omega
          clear hin
          go_wp2_with (first | (go_at_call 73; refine (l1in_t _ _ _ _ (by omega) (by omega)).mono ?_; rintro e w' ⟨rfl, rfl⟩) | (go_at_call 73; refine (l1in_f _ _ _ _ (by omega)).mono ?_; rintro e w' ⟨rfl, rfl⟩))
          refine (C1.out _ _ 1 m R4 L4 (by decide) hle).mono ?_
          rintro e w5 ⟨⟨m', j1, j2, rfl, j3, j4⟩, j5⟩
          go_wp2
          go_roundw
          case rel => exact ⟨2, m', by omega, rfl, rfl, rfl, LpS.out (X := 1) (Y := 0) (J := 1) rfl rfl rfl HIN.out H G4 j1 j2 j3 j4 j5⟩
          case measure => simp [intOf]
        · have i5 : hx < 1 ∨ 2 ≤ hx := by omega
          clear hin ht
          go_wp2_with (first | (go_at_call 73; refine (l1in_f _ _ _ _ (by omega)).mono ?_; rintro e w' ⟨rfl, rfl⟩))
          refine (C1.out _ _ 1 m R4 L4 (by decide) hle).mono ?_
          rintro e w5 ⟨⟨m', j1, j2, rfl, j3, j4⟩, j5⟩
          go_wp2
          go_roundw
          case rel => exact ⟨2, m', by omega, rfl, rfl, rfl, LpS.out (X := 1) (Y := 0) (J := 1) rfl rfl rfl HIN.out H G4 j1 j2 j3 j4 j5⟩
          case measure => simp [intOf]
    · have hle : m + 5 ^ 0 ≤ 1000 := by omega
      obtain ⟨⟨ov, k1⟩, k2⟩ := cells_ofS H.2.2.1 H.2.2.2.1.out (j := 4) (by decide)
      by_cases hin : (0 ≤ hx ∧ hx < 1) ∧ (1 ≤ hy ∧ hy < 2)
      · have hin' : (0 ≤ hole % 4 ∧ hole % 4 < 0 + 2 ^ 0) ∧ (1 ≤ hole / 4 ∧ hole / 4 < 1 + 2 ^ 0) := by rw [EX.out, EY.out]; exact hin
        have HIN := Lib.hid hin'
        obtain ⟨⟨i1, i2⟩, i3, i4⟩ := hin
        clear hin'
        go_wp2_with (first | (go_at_call 73; refine (l1in_t _ _ _ _ (by omega) (by omega)).mono ?_; rintro e w' ⟨rfl, rfl⟩))
        refine (C2.out _ _ hole m H.2.2.1 H.2.2.2.1 hho hle).mono ?_
        rintro e w5 ⟨⟨m', j1, j2, rfl, j3, j4⟩, j5⟩
        go_wp2
        go_roundw
        case rel => exact ⟨3, m', by omega, rfl, rfl, rfl, LpS.inn (X := 0) (Y := 1) rfl rfl HIN.out H j1 j2 j3 j4 j5⟩
        case measure => simp [intOf]
      · have hin' : ¬ ((0 ≤ hole % 4 ∧ hole % 4 < 0 + 2 ^ 0) ∧ (1 ≤ hole / 4 ∧ hole / 4 < 1 + 2 ^ 0)) := by rw [EX.out, EY.out]; exact hin
        have HIN := Lib.hid hin'
        clear hin'
        have R4 := H.2.2.1.putI 4 n
        have L4 : Hid (((crsQ 4 0 0 0 hole n (F, (n : Int) + 1) 2).1.set 4 n).length = 4 * 4) := by show _ = _; rw [List.length_set]; exact H.2.2.2.1.out
        have G4 : wr.grownBy (wr.setCell ⟨g, 4, none⟩ (.int .i64 n)) (some g) := gb_store (World.grownBy.refl _ _)
        by_cases ht : 0 ≤ hx ∧ hx < 1
        · obtain ⟨i1, i2⟩ := ht
          have i5 : hy < 1 ∨ 2 ≤ hy := by omega
          clear hin
          go_wp2_with (first | (go_at_call 73; refine (l1in_t _ _ _ _ (by omega) (by omega)).mono ?_; rintro e w' ⟨rfl, rfl⟩) | (go_at_call 73; refine (l1in_f _ _ _ _ (by omega)).mono ?_; rintro e w' ⟨rfl, rfl⟩))
          refine (C2.out _ _ 4 m R4 L4 (by decide) hle).mono ?_
          rintro e w5 ⟨⟨m', j1, j2, rfl, j3, j4⟩, j5⟩
          go_wp2
          go_roundw
          case rel => exact ⟨3, m', by omega, rfl, rfl, rfl, LpS.out (X := 0) (Y := 1) (J := 4) rfl rfl rfl HIN.out H G4 j1 j2 j3 j4 j5⟩
          case measure => simp [intOf]
        · have i5 : hx < 0 ∨ 1 ≤ hx := by omega
          clear hin ht
          go_wp2_with (first | (go_at_call 73; refine (l1in_f _ _ _ _ (by omega)).mono ?_; rintro e w' ⟨rfl, rfl⟩))
          refine (C2.out _ _ 4 m R4 L4 (by decide) hle).mono ?_
          rintro e w5 ⟨⟨m', j1, j2, rfl, j3, j4⟩, j5⟩
          go_wp2
          go_roundw
          case rel => exact ⟨3, m', by omega, rfl, rfl, rfl, LpS.out (X := 0) (Y := 1) (J := 4) rfl rfl rfl HIN.out H G4 j1 j2 j3 j4 j5⟩
          case measure => simp [intOf]
    · have hle : m + 5 ^ 0 ≤ 1000 := by omega
      obtain ⟨⟨ov, k1⟩, k2⟩ := cells_ofS H.2.2.1 H.2.2.2.1.out (j := 5) (by decide)
      by_cases hin : (1 ≤ hx ∧ hx < 2) ∧ (1 ≤ hy ∧ hy < 2)
      · have hin' : (1 ≤ hole % 4 ∧ hole % 4 < 1 + 2 ^ 0) ∧ (1 ≤ hole / 4 ∧ hole / 4 < 1 + 2 ^ 0) := by rw [EX.out, EY.out]; exact hin
        have HIN := Lib.hid hin'
        obtain ⟨⟨i1, i2⟩, i3, i4⟩ := hin
        clear hin'
        go_wp2_with (first | (go_at_call 73; refine (l1in_t _ _ _ _ (by omega) (by omega)).mono ?_; rintro e w' ⟨rfl, rfl⟩))
        refine (C3.out _ _ hole m H.2.2.1 H.2.2.2.1 hho hle).mono ?_
        rintro e w5 ⟨⟨m', j1, j2, rfl, j3, j4⟩, j5⟩
        go_wp2
        go_roundw
        case rel => exact ⟨4, m', by omega, rfl, rfl, rfl, LpS.inn (X := 1) (Y := 1) rfl rfl HIN.out H j1 j2 j3 j4 j5⟩
        case measure => simp [intOf]
      · have hin' : ¬ ((1 ≤ hole % 4 ∧ hole % 4 < 1 + 2 ^ 0) ∧ (1 ≤ hole / 4 ∧ hole / 4 < 1 + 2 ^ 0)) := by rw [EX.out, EY.out]; exact hin
        have HIN := Lib.hid hin'
        clear hin'
        have R4 := H.2.2.1.putI 5 n
        have L4 : Hid (((crsQ 4 0 0 0 hole n (F, (n : Int) + 1) 3).1.set 5 n).length = 4 * 4) := by show _ = _; rw [List.length_set]; exact H.2.2.2.1.out
        have G4 : wr.grownBy (wr.setCell ⟨g, 5, none⟩ (.int .i64 n)) (some g) := gb_store (World.grownBy.refl _ _)
        by_cases ht : 1 ≤ hx ∧ hx < 2
        · obtain ⟨i1, i2⟩ := ht
          have i5 : hy < 1 ∨ 2 ≤ hy := by omega
          clear hin
          go_wp2_with (first | (go_at_call 73; refine (l1in_t _ _ _ _ (by omega) (by omega)).mono ?_; rintro e w' ⟨rfl, rfl⟩) | (go_at_call 73; refine (l1in_f _ _ _ _ (by omega)).mono ?_; rintro e w' ⟨rfl, rfl⟩))
          refine (C3.out _ _ 5 m R4 L4 (by decide) hle).mono ?_
          rintro e w5 ⟨⟨m', j1, j2, rfl, j3, j4⟩, j5⟩
          go_wp2
          go_roundw
          case rel => exact ⟨4, m', by omega, rfl, rfl, rfl, LpS.out (X := 1) (Y := 1) (J := 5) rfl rfl rfl HIN.out H G4 j1 j2 j3 j4 j5⟩
          case measure => simp [intOf]
        · have i5 : hx < 1 ∨ 2 ≤ hx := by omega
          clear hin ht
          go_wp2_with (first | (go_at_call 73; refine (l1in_f _ _ _ _ (by omega)).mono ?_; rintro e w' ⟨rfl, rfl⟩))
          refine (C3.out _ _ 5 m R4 L4 (by decide) hle).mono ?_
          rintro e w5 ⟨⟨m', j1, j2, rfl, j3, j4⟩, j5⟩
          go_wp2
          go_roundw
          case rel => exact ⟨4, m', by omega, rfl, rfl, rfl, LpS.out (X := 1) (Y := 1) (J := 5) rfl rfl rfl HIN.out H G4 j1 j2 j3 j4 j5⟩
          case measure => simp [intOf]
    · go_wp2
      go_ret2
      obtain ⟨k1, k2, k3, k4, k5⟩ := H
      exact ⟨⟨m, k1, by omega, rfl, k3, k4⟩, k5⟩
set_option maxRecDepth 100000 in
set_option maxHeartbeats 4000000 in
theorem crs_4_1_2_0 (c g lo : Nat) : CrsOk 4 c g lo 1 2 0 := by
  intro w F hole n R HL h1 h2
  rw [crnS_eq]
  have z1 : (5 : Nat) ^ 1 = 5 * 5 ^ 0 := by decide
  have z2 : 1 ≤ (5 : Nat) ^ 0 := by decide
  have z3 : (5 : Nat) ^ 0 = 1 := by decide
  have hn : n ≤ 1000 := by omega
  obtain ⟨hx, ex⟩ : ∃ hx : Nat, hole % 4 = hx := ⟨_, rfl⟩
  obtain ⟨hy, ey⟩ : ∃ hy : Nat, hole / 4 = hy := ⟨_, rfl⟩
  have e1 : (hole : Int).tmod 4 = (hx : Int) := by rw [Int.tmod_eq_emod_of_nonneg (by omega)]; omega
  have e2 : (hole : Int) % 4 = (hx : Int) := by omega
  have e3 : (hole : Int).tdiv 4 = (hy : Int) := by rw [Int.tdiv_eq_ediv_of_nonneg (by omega)]; omega
  have e4 : (hole : Int) / 4 = (hy : Int) := by omega
  have hxs : hx < 4 := by omega
  have hys : hy < 4 := by omega
  have EX := Lib.hid ex
  have EY := Lib.hid ey
  have hho : hole < 16 := h1
  clear ex ey
  have H0 : LpS 4 0 2 0 hole g lo (F, (n : Int) + 1) n w 0 (n + 1) w := ⟨rfl, by omega, R, HL, World.grownBy.refl _ _⟩
  have C0 := Lib.hid (fun (z : World) (F' : List Int) (ho m : Nat) (R : Wr z lo 3 (some ⟨g, 0, none⟩) (F'.map (.int .i64))) (L : Hid (F'.length = 4 * 4)) (h : ho < 16) (hm : m + 5 ^ 0 ≤ 1000) =>
    (show Calls Try.prog 81 #[.slice (some ⟨g, 0, none⟩) 16 c, .int .i64 4, .int .i64 2, .int .i64 0, .int .i64 1, .int .i64 ho, .int .i64 m] z _ from (crs_zero 4 c g lo 2 0) z F' ho m R L h hm))
  have C1 := Lib.hid (fun (z : World) (F' : List Int) (ho m : Nat) (R : Wr z lo 3 (some ⟨g, 0, none⟩) (F'.map (.int .i64))) (L : Hid (F'.length = 4 * 4)) (h : ho < 16) (hm : m + 5 ^ 0 ≤ 1000) =>
    (show Calls Try.prog 81 #[.slice (some ⟨g, 0, none⟩) 16 c, .int .i64 4, .int .i64 3, .int .i64 0, .int .i64 1, .int .i64 ho, .int .i64 m] z _ from (crs_zero 4 c g lo 3 0) z F' ho m R L h hm))
  have C2 := Lib.hid (fun (z : World) (F' : List Int) (ho m : Nat) (R : Wr z lo 3 (some ⟨g, 0, none⟩) (F'.map (.int .i64))) (L : Hid (F'.length = 4 * 4)) (h : ho < 16) (hm : m + 5 ^ 0 ≤ 1000) =>
    (show Calls Try.prog 81 #[.slice (some ⟨g, 0, none⟩) 16 c, .int .i64 4, .int .i64 2, .int .i64 1, .int .i64 1, .int .i64 ho, .int .i64 m] z _ from (crs_zero 4 c g lo 2 1) z F' ho m R L h hm))
  have C3 := Lib.hid (fun (z : World) (F' : List Int) (ho m : Nat) (R : Wr z lo 3 (some ⟨g, 0, none⟩) (F'.map (.int .i64))) (L : Hid (F'.length = 4 * 4)) (h : ho < 16) (hm : m + 5 ^ 0 ≤ 1000) =>
    (show Calls Try.prog 81 #[.slice (some ⟨g, 0, none⟩) 16 c, .int .i64 4, .int .i64 3, .int .i64 1, .int .i64 1, .int .i64 ho, .int .i64 m] z _ from (crs_zero 4 c g lo 3 1) z F' ho m R L h hm))
  clear R HL h1
  show Calls Try.prog 81 #[.slice (some ⟨g, 0, none⟩) 16 c, .int .i64 4, .int .i64 2, .int .i64 0, .int .i64 2, .int .i64 hole, .int .i64 n] w _
  go_enter Try.func81, Try.ntmps81
  go_wp2
  go_loopw [0, 6, 18] (fun v0 v6 i wr => ∃ q m : Nat, q ≤ 4 ∧ i = .int .i64 q ∧ v6 = .int .i64 m ∧ v0 = .slice (some ⟨g, 0, none⟩) 16 c ∧ LpS 4 0 2 0 hole g lo (F, (n : Int) + 1) n w q m wr) (fun _ _ i _ => 4 - (intOf i).toNat)
  case atStart => exact ⟨0, n + 1, by omega, rfl, by go_num, rfl, H0⟩
  case round =>
    clear H0
    obtain ⟨q, m, hq, rfl, rfl, rfl, H⟩ := hrel
    have hm := H.2.1
    rcases (show q = 0 ∨ q = 1 ∨ q = 2 ∨ q = 3 ∨ q = 4 from by omega) with rfl | rfl | rfl | rfl | rfl
    · have hle : m + 5 ^ 0 ≤ 1000 := by omega
      obtain ⟨⟨ov, k1⟩, k2⟩ := cells_ofS H.2.2.1 H.2.2.2.1.out (j := 2) (by decide)
      by_cases hin : (2 ≤ hx ∧ hx < 3) ∧ (0 ≤ hy ∧ hy < 1)
      · have hin' : (2 ≤ hole % 4 ∧ hole % 4 < 2 + 2 ^ 0) ∧ (0 ≤ hole / 4 ∧ hole / 4 < 0 + 2 ^ 0) := by rw [EX.out, EY.out]; exact hin
        have HIN := Lib.hid hin'
        obtain ⟨⟨i1, i2⟩, i3, i4⟩ := hin
        clear hin'
        go_wp2_with (first | (go_at_call 73; refine (l1in_t _ _ _ _ (by omega) (by omega)).mono ?_; rintro e w' ⟨rfl, rfl⟩))
        refine (C0.out _ _ hole m H.2.2.1 H.2.2.2.1 hho hle).mono ?_
        rintro e w5 ⟨⟨m', j1, j2, rfl, j3, j4⟩, j5⟩
        go_wp2
        go_roundw
        case rel => exact ⟨1, m', by omega, rfl, rfl, rfl, LpS.inn (X := 2) (Y := 0) rfl rfl HIN.out H j1 j2 j3 j4 j5⟩
        case measure => simp [intOf]
      · have hin' : ¬ ((2 ≤ hole % 4 ∧ hole % 4 < 2 + 2 ^ 0) ∧ (0 ≤ hole / 4 ∧ hole / 4 < 0 + 2 ^ 0)) := by rw [EX.out, EY.out]; exact hin
        have HIN := Lib.hid hin'
        clear hin'
        have R4 := H.2.2.1.putI 2 n
        have L4 : Hid (((crsQ 4 0 2 0 hole n (F, (n : Int) + 1) 0).1.set 2 n).length = 4 * 4) := by show _ = _; rw [List.length_set]; exact H.2.2.2.1.out
        have G4 : wr.grownBy (wr.setCell ⟨g, 2, none⟩ (.int .i64 n)) (some g) := gb_store (World.grownBy.refl _ _)
        by_cases ht : 2 ≤ hx ∧ hx < 3
        · obtain ⟨i1, i2⟩ := ht
          have i5 : hy < 0 ∨ 1 ≤ hy := by omega
          clear hin
          go_wp2_with (first | (go_at_call 73; refine (l1in_t _ _ _ _ (by omega) (by omega)).mono ?_; rintro e w' ⟨rfl, rfl⟩) | (go_at_call 73; refine (l1in_f _ _ _ _ (by omega)).mono ?_; rintro e w' ⟨rfl, rfl⟩))
          refine (C0.out _ _ 2 m R4 L4 (by decide) hle).mono ?_
          rintro e w5 ⟨⟨m', j1, j2, rfl, j3, j4⟩, j5⟩
          go_wp2
          go_roundw
          case rel => exact ⟨1, m', by omega, rfl, rfl, rfl, LpS.out (X := 2) (Y := 0) (J := 2) rfl rfl rfl HIN.out H G4 j1 j2 j3 j4 j5⟩
          case measure => simp [intOf]
        · have i5 : hx < 2 ∨ 3 ≤ hx := by omega
          clear hin ht
          go_wp2_with (first | (go_at_call 73; refine (l1in_f _ _ _ _ (by omega)).mono ?_; rintro e w' ⟨rfl, rfl⟩))
          refine (C0.out _ _ 2 m R4 L4 (by decide) hle).mono ?_
          rintro e w5 ⟨⟨m', j1, j2, rfl, j3, j4⟩, j5⟩
          go_wp2
          go_roundw
          case rel => exact ⟨1, m', by omega, rfl, rfl, rfl, LpS.out (X := 2) (Y := 0) (J := 2) rfl rfl rfl HIN.out H G4 j1 j2 j3 j4 j5⟩
          case measure => simp [intOf]
    · have hle : m + 5 ^ 0 ≤ 1000 := by omega
      obtain ⟨⟨ov, k1⟩, k2⟩ := cells_ofS H.2.2.1 H.2.2.2.1.out (j := 3) (by decide)
      by_cases hin : (3 ≤ hx ∧ hx < 4) ∧ (0 ≤ hy ∧ hy < 1)
      · have hin' : (3 ≤ hole % 4 ∧ hole % 4 < 3 + 2 ^ 0) ∧ (0 ≤ hole / 4 ∧ hole / 4 < 0 + 2 ^ 0) := by rw [EX.out, EY.out]; exact hin
        have HIN := Lib.hid hin'
        obtain ⟨⟨i1, i2⟩, i3, i4⟩ := hin
        clear hin'
        go_wp2_with (first | (go_at_call 73; refine (l1in_t _ _ _ _ (by omega) (by omega)).mono ?_; rintro e w' ⟨rfl, rfl⟩))
        refine (C1.out _ _ hole m H.2.2.1 H.2.2.2.1 hho hle).mono ?_
        rintro e w5 ⟨⟨m', j1, j2, rfl, j3, j4⟩, j5⟩
        go_wp2
        go_roundw
        case rel => exact ⟨2, m', by omega, rfl, rfl, rfl, LpS.inn (X := 3) (Y := 0) rfl rfl HIN.out H j1 j2 j3 j4 j5⟩
        case measure => simp [intOf]
      · have hin' : ¬ ((3 ≤ hole % 4 ∧ hole % 4 < 3 + 2 ^ 0) ∧ (0 ≤ hole / 4 ∧ hole / 4 < 0 + 2 ^ 0)) := by rw [EX.out, EY.out]; exact hin
        have HIN := Lib.hid hin'
        clear hin'
        have R4 := H.2.2.1.putI 3 n
        have L4 : Hid (((crsQ 4 0 2 0 hole n (F, (n : Int) + 1) 1).1.set 3 n).length = 4 * 4) := by show _ = _; rw [List.length_set]; exact H.2.2.2.1.out
        have G4 : wr.grownBy (wr.setCell ⟨g, 3, none⟩ (.int .i64 n)) (some g) := gb_store (World.grownBy.refl _ _)
        by_cases ht : 3 ≤ hx ∧ hx < 4
        · obtain ⟨i1, i2⟩ := ht
          have i5 : hy < 0 ∨ 1 ≤ hy := by omega
          clear hin
          go_wp2_with (first | (go_at_call 73; refine (l1in_t _ _ _ _ (by omega) (by omega)).mono ?_; rintro e w' ⟨rfl, rfl⟩) | (go_at_call 73; refine (l1in_f _ _ _ _ (by omega)).mono ?_; rintro e w' ⟨rfl, rfl⟩))
          refine (C1.out _ _ 3 m R4 L4 (by decide) hle).mono ?_
          rintro e w5 ⟨⟨m', j1, j2, rfl, j3, j4⟩, j5⟩
          go_wp2
          go_roundw
          case rel => exact ⟨2, m', by omega, rfl, rfl, rfl, LpS.out (X := 3) (Y := 0) (J := 3) rfl rfl rfl HIN.out H G4 j1 j2 j3 j4 j5⟩
          case measure => simp [intOf]
        · have i5 : hx < 3 ∨ 4 ≤ hx := by omega
          clear hin ht
          go_wp2_with (first | (go_at_call 73; refine (l1in_f _ _ _ _ (by omega)).mono ?_; rintro e w' ⟨rfl, rfl⟩))
          refine (C1.out _ _ 3 m R4 L4 (by decide) hle).mono ?_
          rintro e w5 ⟨⟨m', j1, j2, rfl, j3, j4⟩, j5⟩
          go_wp2
          go_roundw
          case rel => exact ⟨2, m', by omega, rfl, rfl, rfl, LpS.out (X := 3) (Y := 0) (J := 3) rfl rfl rfl HIN.out H G4 j1 j2 j3 j4 j5⟩
          case measure => simp [intOf]
    · have hle : m + 5 ^ 0 ≤ 1000 := by omega
      obtain ⟨⟨ov, k1⟩, k2⟩ := cells_ofS H.2.2.1 H.2.2.2.1.out (j := 6) (by decide)
      by_cases hin : (2 ≤ hx ∧ hx < 3) ∧ (1 ≤ hy ∧ hy < 2)
      · have hin' : (2 ≤ hole % 4 ∧ hole % 4 < 2 + 2 ^ 0) ∧ (1 ≤ hole / 4 ∧ hole / 4 < 1 + 2 ^ 0) := by rw [EX.out, EY.out]; exact hin
        have HIN := Lib.hid hin'
        obtain ⟨⟨i1, i2⟩, i3, i4⟩ := hin
        clear hin'
        go_wp2_with (first | (go_at_call 73; refine (l1in_t _ _ _ _ (by omega) (by omega)).mono ?_; rintro e w' ⟨rfl, rfl⟩))
        refine (C2.out _ _ hole m H.2.2.1 H.2.2.2.1 hho hle).mono ?_
        rintro e w5 ⟨⟨m', j1, j2, rfl, j3, j4⟩, j5⟩
        go_wp2
        go_roundw
        case rel => exact ⟨3, m', by omega, rfl, rfl, rfl, LpS.inn (X := 2) (Y := 1) rfl rfl HIN.out H j1 j2 j3 j4 j5⟩
        case measure => simp [intOf]
      · have hin' : ¬ ((2 ≤ hole % 4 ∧ hole % 4 < 2 + 2 ^ 0) ∧ (1 ≤ hole / 4 ∧ hole / 4 < 1 + 2 ^ 0)) := by rw [EX.out, EY.out]; exact hin
        have HIN := Lib.hid hin'
        clear hin'
        have R4 := H.2.2.1.putI 6 n
        have L4 : Hid (((crsQ 4 0 2 0 hole n (F, (n : Int) + 1) 2).1.set 6 n).length = 4 * 4) := by show _ = _; rw [List.length_set]; exact H.2.2.2.1.out
        have G4 : wr.grownBy (wr.setCell ⟨g, 6, none⟩ (.int .i64 n)) (some g) := gb_store (World.grownBy.refl _ _)
        by_cases ht : 2 ≤ hx ∧ hx < 3
        · obtain ⟨i1, i2⟩ := ht
          have i5 : hy < 1 ∨ 2 ≤ hy := by omega
          clear hin
          go_wp2_with (first | (go_at_call 73; refine (l1in_t _ _ _ _ (by omega) (by omega)).mono ?_; rintro e w' ⟨rfl, rfl⟩) | (go_at_call 73; refine (l1in_f _ _ _ _ (by omega)).mono ?_; rintro e w' ⟨rfl, rfl⟩))
          refine (C2.out _ _ 6 m R4 L4 (by decide) hle).mono ?_
          rintro e w5 ⟨⟨m', j1, j2, rfl, j3, j4⟩, j5⟩
          go_wp2
          go_roundw
          case rel => exact ⟨3, m', by omega, rfl, rfl, rfl, LpS.out (X := 2) (Y := 1) (J := 6) rfl rfl rfl HIN.out H G4 j1 j2 j3 j4 j5⟩
          case measure => simp [intOf]
        · have i5 : hx < 2 ∨ 3 ≤ hx := by omega
          clear hin ht
          go_wp2_with (first | (go_at_call 73; refine (l1in_f _ _ _ _ (by omega)).mono ?_; rintro e w' ⟨rfl, rfl⟩))
          refine (C2.out _ _ 6 m R4 L4 (by decide) hle).mono ?_
          rintro e w5 ⟨⟨m', j1, j2, rfl, j3, j4⟩, j5⟩
          go_wp2
          go_roundw
          case rel => exact ⟨3, m', by omega, rfl, rfl, rfl, LpS.out (X := 2) (Y := 1) (J := 6) rfl rfl rfl HIN.out H G4 j1 j2 j3 j4 j5⟩
          case measure => simp [intOf]
    · have hle : m + 5 ^ 0 ≤ 1000 := by omega
      obtain ⟨⟨ov, k1⟩, k2⟩ := cells_ofS H.2.2.1 H.2.2.2.1.out (j := 7) (by decide)
      by_cases hin : (3 ≤ hx ∧ hx < 4) ∧ (1 ≤ hy ∧ hy < 2)
      · have hin' : (3 ≤ hole % 4 ∧ hole % 4 < 3 + 2 ^ 0) ∧ (1 ≤ hole / 4 ∧ hole / 4 < 1 + 2 ^ 0) := by rw [EX.out, EY.out]; exact hin
        have HIN := Lib.hid hin'
        obtain ⟨⟨i1, i2⟩, i3, i4⟩ := hin
        clear hin'
        go_wp2_with (first | (go_at_call 73; refine (l1in_t _ _ _ _ (by omega) (by omega)).mono ?_; rintro e w' ⟨rfl, rfl⟩))
        refine (C3.out _ _ hole m H.2.2.1 H.2.2.2.1 hho hle).mono ?_
        rintro e w5 ⟨⟨m', j1, j2, rfl, j3, j4⟩, j5⟩
        go_wp2
        go_roundw
        case rel => exact ⟨4, m', by omega, rfl, rfl, rfl, LpS.inn (X := 3) (Y := 1) rfl rfl HIN.out H j1 j2 j3 j4 j5⟩
        case measure => simp [intOf]
      · have hin' : ¬ ((3 ≤ hole % 4 ∧ hole % 4 < 3 + 2 ^ 0) ∧ (1 ≤ hole / 4 ∧ hole / 4 < 1 + 2 ^ 0)) := by rw [EX.out, EY.out]; exact hin
        have HIN := Lib.hid hin'
        clear hin'
        have R4 := H.2.2.1.putI 7 n
        have L4 : Hid (((crsQ 4 0 2 0 hole n (F, (n : Int) + 1) 3).1.set 7 n).length = 4 * 4) := by show _ = _; rw [List.length_set]; exact H.2.2.2.1.out
        have G4 : wr.grownBy (wr.setCell ⟨g, 7, none⟩ (.int .i64 n)) (some g) := gb_store (World.grownBy.refl _ _)
        by_cases ht : 3 ≤ hx ∧ hx < 4
        · obtain ⟨i1, i2⟩ := ht
          have i5 : hy < 1 ∨ 2 ≤ hy := by omega
          clear hin
          go_wp2_with (first | (go_at_call 73; refine (l1in_t _ _ _ _ (by omega) (by omega)).mono ?_; rintro e w' ⟨rfl, rfl⟩) | (go_at_call 73; refine (l1in_f _ _ _ _ (by omega)).mono ?_; rintro e w' ⟨rfl, rfl⟩))
          refine (C3.out _ _ 7 m R4 L4 (by decide) hle).mono ?_
          rintro e w5 ⟨⟨m', j1, j2, rfl, j3, j4⟩, j5⟩
          go_wp2
          go_roundw
          case rel => exact ⟨4, m', by omega, rfl, rfl, rfl, LpS.out (X := 3) (Y := 1) (J := 7) rfl rfl rfl HIN.out H G4 j1 j2 j3 j4 j5⟩
          case measure => simp [intOf]
        · have i5 : hx < 3 ∨ 4 ≤ hx := by omega
          clear hin ht
          go_wp2_with (first | (go_at_call 73; refine (l1in_f _ _ _ _ (by omega)).mono ?_; rintro e w' ⟨rfl, rfl⟩))
          refine (C3.out _ _ 7 m R4 L4 (by decide) hle).mono ?_
          rintro e w5 ⟨⟨m', j1, j2, rfl, j3, j4⟩, j5⟩
          go_wp2
          go_roundw
          case rel => exact ⟨4, m', by omega, rfl, rfl, rfl, LpS.out (X := 3) (Y := 1) (J := 7) rfl rfl rfl HIN.out H G4 j1 j2 j3 j4 j5⟩
          case measure => simp [intOf]
    · go_wp2
      go_ret2
      obtain ⟨k1, k2, k3, k4, k5⟩ := H
      exact ⟨⟨m, k1, by omega, rfl, k3, k4⟩, k5⟩
end Go.Proofs.Ytnciemnlnijhfaa
