
/- FnCornerFill: joined from CornS, CornSA, CornSB, CornSC, CornT. -/
import Derived.Test.YtnignglhefcecaaMCrn1
import Derived.Test.YtnignglhefcecaaMemE
import Derived.Test.YtnignglhefcecaaGb
/- Contract: the reference's CornerFill, the square. -/
namespace Go.Proofs.Ytnignglhefcecaa
open Go.RowKit

def CrsOk (side c g lo f x y : Nat) : Prop :=
  ∀ (w : World) (F : List Int) (hole n : Nat), Wr w lo 3 (some ⟨g, 0, none⟩) (F.map (.int .i64)) → Hid (F.length = side * side) → hole < side * side → n + 5 ^ f ≤ 1000 →
    Calls Try.prog 48 #[.slice (some ⟨g, 0, none⟩) (side * side) c, .int .i64 side, .int .i64 x, .int .i64 y, .int .i64 ((2 ^ f : Nat) : Int), .int .i64 hole, .int .i64 n] w
      fun e w' => (∃ m : Nat, (crnS side f x y hole (F, n)).2 = m ∧ m ≤ n + 5 ^ f ∧ e = .returned (.tuple #[.slice (some ⟨g, 0, none⟩) (side * side) c, .int .i64 m]) ∧ Wr w' lo 3 (some ⟨g, 0, none⟩) ((crnS side f x y hole (F, n)).1.map (.int .i64)) ∧ Hid ((crnS side f x y hole (F, n)).1.length = side * side)) ∧ w.grownBy w' (some g)
set_option maxHeartbeats 1000000 in
theorem crs_zero (side c g lo x y : Nat) : CrsOk side c g lo 0 x y := by
  intro w F hole n R HL h1 h2
  have e0 : (((2 ^ 0 : Nat) : Int) == 1) = true := by decide
  generalize ((2 ^ 0 : Nat) : Int) = l at *
  go_enter Try.func48, Try.ntmps48
  go_wp2
  go_ret2
  exact ⟨⟨n, rfl, by omega, rfl, R, HL⟩, World.grownBy.refl _ _⟩
/-- one quarter -/
def crsB (side f x y hole : Nat) (v : Int) (s : List Int × Int) (q : Nat) : List Int × Int :=
  if (x + q % 2 * 2 ^ f ≤ hole % side ∧ hole % side < x + q % 2 * 2 ^ f + 2 ^ f) ∧ (y + q / 2 * 2 ^ f ≤ hole / side ∧ hole / side < y + q / 2 * 2 ^ f + 2 ^ f)
  then crnS side f (x + q % 2 * 2 ^ f) (y + q / 2 * 2 ^ f) hole s
  else crnS side f (x + q % 2 * 2 ^ f) (y + q / 2 * 2 ^ f) ((y + 2 ^ f - 1 + q / 2) * side + (x + 2 ^ f - 1 + q % 2)) (s.1.set ((y + 2 ^ f - 1 + q / 2) * side + (x + 2 ^ f - 1 + q % 2)) v, s.2)
def crsQ (side f x y hole : Nat) (v : Int) (s : List Int × Int) (q : Nat) : List Int × Int := (List.range q).foldl (crsB side f x y hole v) s
theorem crsQ_step (side f x y hole : Nat) (v : Int) (s : List Int × Int) (q : Nat) : crsQ side f x y hole v s (q + 1) = crsB side f x y hole v (crsQ side f x y hole v s q) q := by
  unfold crsQ; rw [List.range_succ, List.foldl_append]; rfl
theorem crnS_eq (side f x y hole : Nat) (F : List Int) (n : Int) : crnS side (f + 1) x y hole (F, n) = crsQ side f x y hole n (F, n + 1) 4 := rfl
/-- q quarters are filled -/
def LpS (side f x y hole g lo : Nat) (s : List Int × Int) (n : Nat) (w : World) (q m : Nat) (wr : World) : Prop :=
  (crsQ side f x y hole n s q).2 = m ∧ m ≤ n + 1 + q * 5 ^ f ∧ Wr wr lo 3 (some ⟨g, 0, none⟩) ((crsQ side f x y hole n s q).1.map (.int .i64)) ∧ Hid ((crsQ side f x y hole n s q).1.length = side * side) ∧ w.grownBy wr (some g)
theorem LpS.inn {side f x y hole g lo n q m X Y : Nat} {s : List Int × Int} {w wr w5 : World} (hX : x + q % 2 * 2 ^ f = X) (hY : y + q / 2 * 2 ^ f = Y)
    (hin : (X ≤ hole % side ∧ hole % side < X + 2 ^ f) ∧ (Y ≤ hole / side ∧ hole / side < Y + 2 ^ f)) (H : LpS side f x y hole g lo s n w q m wr) {m' : Nat}
    (e : (crnS side f X Y hole ((crsQ side f x y hole n s q).1, (m : Int))).2 = m') (hl : m' ≤ m + 5 ^ f) (R : Wr w5 lo 3 (some ⟨g, 0, none⟩) ((crnS side f X Y hole ((crsQ side f x y hole n s q).1, (m : Int))).1.map (.int .i64)))
    (L : Hid ((crnS side f X Y hole ((crsQ side f x y hole n s q).1, (m : Int))).1.length = side * side)) (G : wr.grownBy w5 (some g)) : LpS side f x y hole g lo s n w (q + 1) m' w5 := by
  obtain ⟨h1, h2, h3, h4, h5⟩ := H
  have e0 : ((crsQ side f x y hole n s q).1, (m : Int)) = crsQ side f x y hole n s q := by rw [← h1]
  have e1 : crsQ side f x y hole n s (q + 1) = crnS side f X Y hole (crsQ side f x y hole n s q) := by
    rw [crsQ_step]; unfold crsB; rw [hX, hY, if_pos hin]
  rw [e0] at e R L
  exact ⟨by rw [e1]; exact e, by rw [Nat.succ_mul]; omega, by rw [e1]; exact R, by rw [e1]; exact L, grownBy_trans' h5 G⟩
theorem LpS.out {side f x y hole g lo n q m X Y J : Nat} {s : List Int × Int} {w wr w4 w5 : World} (hX : x + q % 2 * 2 ^ f = X) (hY : y + q / 2 * 2 ^ f = Y) (hJ : (y + 2 ^ f - 1 + q / 2) * side + (x + 2 ^ f - 1 + q % 2) = J)
    (hin : ¬ ((X ≤ hole % side ∧ hole % side < X + 2 ^ f) ∧ (Y ≤ hole / side ∧ hole / side < Y + 2 ^ f))) (H : LpS side f x y hole g lo s n w q m wr) (G0 : wr.grownBy w4 (some g)) {m' : Nat}
    (e : (crnS side f X Y J ((crsQ side f x y hole n s q).1.set J n, (m : Int))).2 = m') (hl : m' ≤ m + 5 ^ f) (R : Wr w5 lo 3 (some ⟨g, 0, none⟩) ((crnS side f X Y J ((crsQ side f x y hole n s q).1.set J n, (m : Int))).1.map (.int .i64)))
    (L : Hid ((crnS side f X Y J ((crsQ side f x y hole n s q).1.set J n, (m : Int))).1.length = side * side)) (G : w4.grownBy w5 (some g)) : LpS side f x y hole g lo s n w (q + 1) m' w5 := by
  obtain ⟨h1, h2, h3, h4, h5⟩ := H
  have e1 : crsQ side f x y hole n s (q + 1) = crnS side f X Y J ((crsQ side f x y hole n s q).1.set J n, (m : Int)) := by
    rw [crsQ_step]; unfold crsB; rw [hX, hY, hJ, if_neg hin, h1]
  exact ⟨by rw [e1]; exact e, by rw [Nat.succ_mul]; omega, by rw [e1]; exact R, by rw [e1]; exact L, grownBy_trans' h5 (grownBy_trans' G0 G)⟩
theorem cells_ofS {w : World} {g N : Nat} {F : List Int} {lo : Nat} (h : Wr w lo 3 (some ⟨g, 0, none⟩) (F.map (.int .i64))) (hl : F.length = N) {j : Nat} (hj : j < N) : (∃ ov, w.cell? ⟨g, j, none⟩ = some ov) ∧ w.frozen? ⟨g, j, none⟩ = false := by
  have hne : F.map (Value.int .i64) ≠ [] := by intro e; have := congrArg List.length e; rw [List.length_map, hl] at this; simp at this; omega
  obtain ⟨g', e, -, -, hf⟩ := h.form hne
  injection e with e; injection e with e; subst e
  have := h.rd.cellEM (k := j) (by rw [hl]; exact hj)
  rw [Nat.zero_add] at this
  exact ⟨⟨_, this⟩, hf j⟩
theorem Wr.putI {w : World} {g lo : Nat} {F : List Int} (h : Wr w lo 3 (some ⟨g, 0, none⟩) (F.map (.int .i64))) (j : Nat) (v : Int) : Wr (w.setCell ⟨g, j, none⟩ (.int .i64 v)) lo 3 (some ⟨g, 0, none⟩) ((F.set j v).map (.int .i64)) := by
  rw [List.map_set]; exact h.store j _
end Go.Proofs.Ytnignglhefcecaa

/- The reference's CornerFill at the squares side 2, level 1 at 0, 0, side 4, level 1 at 0, 0, side 4, level 1 at 2, 0. -/
namespace Go.Proofs.Ytnignglhefcecaa
open Go.RowKit

set_option maxRecDepth 100000 in
set_option maxHeartbeats 4000000 in
theorem crs_2_1_0_0 (c g lo : Nat) : CrsOk 2 c g lo 1 0 0 := by
  intro w F hole n R HL h1 h2
  rw [crnS_eq]
  have z1 : (5 : Nat) ^ 1 = 5 * 5 ^ 0 := by decide
  have z2 : 1 ≤ (5 : Nat) ^ 0 := by decide
  have z3 : (5 : Nat) ^ 0 = 1 := by decide
  have hn : n ≤ 1000 := by omega
  obtain ⟨hx, ex⟩ : ∃ hx : Nat, hole % 2 = hx := ⟨_, rfl⟩
  obtain ⟨hy, ey⟩ : ∃ hy : Nat, hole / 2 = hy := ⟨_, rfl⟩
  have e1 : (hole : Int).tmod 2 = (hx : Int) := by rw [Int.tmod_eq_emod_of_nonneg (by omega)]; omega
  have e2 : (hole : Int) % 2 = (hx : Int) := by omega
  have e3 : (hole : Int).tdiv 2 = (hy : Int) := by rw [Int.tdiv_eq_ediv_of_nonneg (by omega)]; omega
  have e4 : (hole : Int) / 2 = (hy : Int) := by omega
  have hxs : hx < 2 := by omega
  have hys : hy < 2 := by omega
  have EX := Lib.hid ex
  have EY := Lib.hid ey
  have hho : hole < 4 := h1
  clear ex ey
  have H0 : LpS 2 0 0 0 hole g lo (F, (n : Int) + 1) n w 0 (n + 1) w := ⟨rfl, by omega, R, HL, World.grownBy.refl _ _⟩
  have C0 := Lib.hid (fun (z : World) (F' : List Int) (ho m : Nat) (R : Wr z lo 3 (some ⟨g, 0, none⟩) (F'.map (.int .i64))) (L : Hid (F'.length = 2 * 2)) (h : ho < 4) (hm : m + 5 ^ 0 ≤ 1000) =>
    (show Calls Try.prog 48 #[.slice (some ⟨g, 0, none⟩) 4 c, .int .i64 2, .int .i64 0, .int .i64 0, .int .i64 1, .int .i64 ho, .int .i64 m] z _ from (crs_zero 2 c g lo 0 0) z F' ho m R L h hm))
  have C1 := Lib.hid (fun (z : World) (F' : List Int) (ho m : Nat) (R : Wr z lo 3 (some ⟨g, 0, none⟩) (F'.map (.int .i64))) (L : Hid (F'.length = 2 * 2)) (h : ho < 4) (hm : m + 5 ^ 0 ≤ 1000) =>
    (show Calls Try.prog 48 #[.slice (some ⟨g, 0, none⟩) 4 c, .int .i64 2, .int .i64 1, .int .i64 0, .int .i64 1, .int .i64 ho, .int .i64 m] z _ from (crs_zero 2 c g lo 1 0) z F' ho m R L h hm))
  have C2 := Lib.hid (fun (z : World) (F' : List Int) (ho m : Nat) (R : Wr z lo 3 (some ⟨g, 0, none⟩) (F'.map (.int .i64))) (L : Hid (F'.length = 2 * 2)) (h : ho < 4) (hm : m + 5 ^ 0 ≤ 1000) =>
    (show Calls Try.prog 48 #[.slice (some ⟨g, 0, none⟩) 4 c, .int .i64 2, .int .i64 0, .int .i64 1, .int .i64 1, .int .i64 ho, .int .i64 m] z _ from (crs_zero 2 c g lo 0 1) z F' ho m R L h hm))
  have C3 := Lib.hid (fun (z : World) (F' : List Int) (ho m : Nat) (R : Wr z lo 3 (some ⟨g, 0, none⟩) (F'.map (.int .i64))) (L : Hid (F'.length = 2 * 2)) (h : ho < 4) (hm : m + 5 ^ 0 ≤ 1000) =>
    (show Calls Try.prog 48 #[.slice (some ⟨g, 0, none⟩) 4 c, .int .i64 2, .int .i64 1, .int .i64 1, .int .i64 1, .int .i64 ho, .int .i64 m] z _ from (crs_zero 2 c g lo 1 1) z F' ho m R L h hm))
  clear R HL h1
  show Calls Try.prog 48 #[.slice (some ⟨g, 0, none⟩) 4 c, .int .i64 2, .int .i64 0, .int .i64 0, .int .i64 2, .int .i64 hole, .int .i64 n] w _
  go_enter Try.func48, Try.ntmps48
  go_wp2
  go_loopw [0, 6, 18] (fun v0 v6 i wr => ∃ q m : Nat, q ≤ 4 ∧ i = .int .i64 q ∧ v6 = .int .i64 m ∧ v0 = .slice (some ⟨g, 0, none⟩) 4 c ∧ LpS 2 0 0 0 hole g lo (F, (n : Int) + 1) n w q m wr) (fun _ _ i _ => 4 - (intOf i).toNat)
  case atStart => exact ⟨0, n + 1, by omega, rfl, by go_num, rfl, H0⟩
  case round =>
    clear H0
    obtain ⟨q, m, hq, rfl, rfl, rfl, H⟩ := hrel
    have hm := H.2.1
    rcases (show q = 0 ∨ q = 1 ∨ q = 2 ∨ q = 3 ∨ q = 4 from by omega) with rfl | rfl | rfl | rfl | rfl
    · have hle : m + 5 ^ 0 ≤ 1000 := by omega
      obtain ⟨⟨ov, k1⟩, k2⟩ := cells_ofS H.2.2.1 H.2.2.2.1.out (j := 0) (by decide)
      by_cases hin : (0 ≤ hx ∧ hx < 1) ∧ (0 ≤ hy ∧ hy < 1)
      · have hin' : (0 ≤ hole % 2 ∧ hole % 2 < 0 + 2 ^ 0) ∧ (0 ≤ hole / 2 ∧ hole / 2 < 0 + 2 ^ 0) := by rw [EX.out, EY.out]; exact hin
        have HIN := Lib.hid hin'
        obtain ⟨⟨i1, i2⟩, i3, i4⟩ := hin
        clear hin'
        go_wp2_with (first | (go_at_call 32; refine (l1in_t _ _ _ _ (by omega) (by omega)).mono ?_; rintro e w' ⟨rfl, rfl⟩))
        refine (C0.out _ _ hole m H.2.2.1 H.2.2.2.1 hho hle).mono ?_
        rintro e w5 ⟨⟨m', j1, j2, rfl, j3, j4⟩, j5⟩
        go_wp2
        go_roundw
        case rel => exact ⟨1, m', by omega, rfl, rfl, rfl, LpS.inn (X := 0) (Y := 0) rfl rfl HIN.out H j1 j2 j3 j4 j5⟩
        case measure => simp [intOf]
      · have hin' : ¬ ((0 ≤ hole % 2 ∧ hole % 2 < 0 + 2 ^ 0) ∧ (0 ≤ hole / 2 ∧ hole / 2 < 0 + 2 ^ 0)) := by rw [EX.out, EY.out]; exact hin
        have HIN := Lib.hid hin'
        clear hin'
        have R4 := H.2.2.1.putI 0 n
        have L4 : Hid (((crsQ 2 0 0 0 hole n (F, (n : Int) + 1) 0).1.set 0 n).length = 2 * 2) := by show _ = _; rw [List.length_set]; exact H.2.2.2.1.out
        have G4 : wr.grownBy (wr.setCell ⟨g, 0, none⟩ (.int .i64 n)) (some g) := gb_store (World.grownBy.refl _ _)
        by_cases ht : 0 ≤ hx ∧ hx < 1
        · obtain ⟨i1, i2⟩ := ht
          have i5 : hy < 0 ∨ 1 ≤ hy := by omega
          clear hin
          go_wp2_with (first | (go_at_call 32; refine (l1in_t _ _ _ _ (by omega) (by omega)).mono ?_; rintro e w' ⟨rfl, rfl⟩) | (go_at_call 32; refine (l1in_f _ _ _ _ (by omega)).mono ?_; rintro e w' ⟨rfl, rfl⟩))
          refine (C0.out _ _ 0 m R4 L4 (by decide) hle).mono ?_
          rintro e w5 ⟨⟨m', j1, j2, rfl, j3, j4⟩, j5⟩
          go_wp2
          go_roundw
          case rel => exact ⟨1, m', by omega, rfl, rfl, rfl, LpS.out (X := 0) (Y := 0) (J := 0) rfl rfl rfl HIN.out H G4 j1 j2 j3 j4 j5⟩
          case measure => simp [intOf]
        · have i5 : hx < 0 ∨ 1 ≤ hx := by omega
          clear hin ht
          go_wp2_with (first | (go_at_call 32; refine (l1in_f _ _ _ _ (by omega)).mono ?_; rintro e w' ⟨rfl, rfl⟩))
          refine (C0.out _ _ 0 m R4 L4 (by decide) hle).mono ?_
          rintro e w5 ⟨⟨m', j1, j2, rfl, j3, j4⟩, j5⟩
          go_wp2
          go_roundw
          case rel => exact ⟨1, m', by omega, rfl, rfl, rfl, LpS.out (X := 0) (Y := 0) (J := 0) rfl rfl rfl HIN.out H G4 j1 j2 j3 j4 j5⟩
          case measure => simp [intOf]
    · have hle : m + 5 ^ 0 ≤ 1000 := by omega
      obtain ⟨⟨ov, k1⟩, k2⟩ := cells_ofS H.2.2.1 H.2.2.2.1.out (j := 1) (by decide)
      by_cases hin : (1 ≤ hx ∧ hx < 2) ∧ (0 ≤ hy ∧ hy < 1)
      · have hin' : (1 ≤ hole % 2 ∧ hole % 2 < 1 + 2 ^ 0) ∧ (0 ≤ hole / 2 ∧ hole / 2 < 0 + 2 ^ 0) := by rw [EX.out, EY.out]; exact hin
        have HIN := Lib.hid hin'
        obtain ⟨⟨i1, i2⟩, i3, i4⟩ := hin
        clear hin'
        go_wp2_with (first | (go_at_call 32; refine (l1in_t _ _ _ _ (by omega) (by omega)).mono ?_; rintro e w' ⟨rfl, rfl⟩))
        refine (C1.out _ _ hole m H.2.2.1 H.2.2.2.1 hho hle).mono ?_
        rintro e w5 ⟨⟨m', j1, j2, rfl, j3, j4⟩, j5⟩
        go_wp2
        go_roundw
        case rel => exact ⟨2, m', by omega, rfl, rfl, rfl, LpS.inn (X := 1) (Y := 0) rfl rfl HIN.out H j1 j2 j3 j4 j5⟩
        case measure => simp [intOf]
      · have hin' : ¬ ((1 ≤ hole % 2 ∧ hole % 2 < 1 + 2 ^ 0) ∧ (0 ≤ hole / 2 ∧ hole / 2 < 0 + 2 ^ 0)) := by rw [EX.out, EY.out]; exact hin
        have HIN := Lib.hid hin'
        clear hin'
        have R4 := H.2.2.1.putI 1 n
        have L4 : Hid (((crsQ 2 0 0 0 hole n (F, (n : Int) + 1) 1).1.set 1 n).length = 2 * 2) := by show _ = _; rw [List.length_set]; exact H.2.2.2.1.out
        have G4 : wr.grownBy (wr.setCell ⟨g, 1, none⟩ (.int .i64 n)) (some g) := gb_store (World.grownBy.refl _ _)
        by_cases ht : 1 ≤ hx ∧ hx < 2
        · obtain ⟨i1, i2⟩ := ht
          have i5 : hy < 0 ∨ 1 ≤ hy := by omega
          clear hin
          go_wp2_with (first | (go_at_call 32; refine (l1in_t _ _ _ _ (by omega) (by omega)).mono ?_; rintro e w' ⟨rfl, rfl⟩) | (go_at_call 32; refine (l1in_f _ _ _ _ (by omega)).mono ?_; rintro e w' ⟨rfl, rfl⟩))
          refine (C1.out _ _ 1 m R4 L4 (by decide) hle).mono ?_
          rintro e w5 ⟨⟨m', j1, j2, rfl, j3, j4⟩, j5⟩
          go_wp2
          go_roundw
          case rel => exact ⟨2, m', by omega, rfl, rfl, rfl, LpS.out (X := 1) (Y := 0) (J := 1) rfl rfl rfl HIN.out H G4 j1 j2 j3 j4 j5⟩
          case measure => simp [intOf]
        · have i5 : hx < 1 ∨ 2 ≤ hx := by omega
          clear hin ht
          go_wp2_with (first | (go_at_call 32; refine (l1in_f _ _ _ _ (by omega)).mono ?_; rintro e w' ⟨rfl, rfl⟩))
          refine (C1.out _ _ 1 m R4 L4 (by decide) hle).mono ?_
          rintro e w5 ⟨⟨m', j1, j2, rfl, j3, j4⟩, j5⟩
          go_wp2
          go_roundw
          case rel => exact ⟨2, m', by omega, rfl, rfl, rfl, LpS.out (X := 1) (Y := 0) (J := 1) rfl rfl rfl HIN.out H G4 j1 j2 j3 j4 j5⟩
          case measure => simp [intOf]
    · have hle : m + 5 ^ 0 ≤ 1000 := by omega
      obtain ⟨⟨ov, k1⟩, k2⟩ := cells_ofS H.2.2.1 H.2.2.2.1.out (j := 2) (by decide)
      by_cases hin : (0 ≤ hx ∧ hx < 1) ∧ (1 ≤ hy ∧ hy < 2)
      · have hin' : (0 ≤ hole % 2 ∧ hole % 2 < 0 + 2 ^ 0) ∧ (1 ≤ hole / 2 ∧ hole / 2 < 1 + 2 ^ 0) := by rw [EX.out, EY.out]; exact hin
        have HIN := Lib.hid hin'
        obtain ⟨⟨i1, i2⟩, i3, i4⟩ := hin
        clear hin'
        go_wp2_with (first | (go_at_call 32; refine (l1in_t _ _ _ _ (by omega) (by omega)).mono ?_; rintro e w' ⟨rfl, rfl⟩))
        refine (C2.out _ _ hole m H.2.2.1 H.2.2.2.1 hho hle).mono ?_
        rintro e w5 ⟨⟨m', j1, j2, rfl, j3, j4⟩, j5⟩
        go_wp2
        go_roundw
        case rel => exact ⟨3, m', by omega, rfl, rfl, rfl, LpS.inn (X := 0) (Y := 1) rfl rfl HIN.out H j1 j2 j3 j4 j5⟩
        case measure => simp [intOf]
      · have hin' : ¬ ((0 ≤ hole % 2 ∧ hole % 2 < 0 + 2 ^ 0) ∧ (1 ≤ hole / 2 ∧ hole / 2 < 1 + 2 ^ 0)) := by rw [EX.out, EY.out]; exact hin
        have HIN := Lib.hid hin'
        clear hin'
        have R4 := H.2.2.1.putI 2 n
        have L4 : Hid (((crsQ 2 0 0 0 hole n (F, (n : Int) + 1) 2).1.set 2 n).length = 2 * 2) := by show _ = _; rw [List.length_set]; exact H.2.2.2.1.out
        have G4 : wr.grownBy (wr.setCell ⟨g, 2, none⟩ (.int .i64 n)) (some g) := gb_store (World.grownBy.refl _ _)
        by_cases ht : 0 ≤ hx ∧ hx < 1
        · obtain ⟨i1, i2⟩ := ht
          have i5 : hy < 1 ∨ 2 ≤ hy := by omega
          clear hin
          go_wp2_with (first | (go_at_call 32; refine (l1in_t _ _ _ _ (by omega) (by omega)).mono ?_; rintro e w' ⟨rfl, rfl⟩) | (go_at_call 32; refine (l1in_f _ _ _ _ (by omega)).mono ?_; rintro e w' ⟨rfl, rfl⟩))
          refine (C2.out _ _ 2 m R4 L4 (by decide) hle).mono ?_
          rintro e w5 ⟨⟨m', j1, j2, rfl, j3, j4⟩, j5⟩
          go_wp2
          go_roundw
          case rel => exact ⟨3, m', by omega, rfl, rfl, rfl, LpS.out (X := 0) (Y := 1) (J := 2) rfl rfl rfl HIN.out H G4 j1 j2 j3 j4 j5⟩
          case measure => simp [intOf]
        · have i5 : hx < 0 ∨ 1 ≤ hx := by omega
          clear hin ht
          go_wp2_with (first | (go_at_call 32; refine (l1in_f _ _ _ _ (by omega)).mono ?_; rintro e w' ⟨rfl, rfl⟩))
          refine (C2.out _ _ 2 m R4 L4 (by decide) hle).mono ?_
          rintro e w5 ⟨⟨m', j1, j2, rfl, j3, j4⟩, j5⟩
          go_wp2
          go_roundw
          case rel => exact ⟨3, m', by omega, rfl, rfl, rfl, LpS.out (X := 0) (Y := 1) (J := 2) rfl rfl rfl HIN.out H G4 j1 j2 j3 j4 j5⟩
          case measure => simp [intOf]
    · have hle : m + 5 ^ 0 ≤ 1000 := by omega
      obtain ⟨⟨ov, k1⟩, k2⟩ := cells_ofS H.2.2.1 H.2.2.2.1.out (j := 3) (by decide)
      by_cases hin : (1 ≤ hx ∧ hx < 2) ∧ (1 ≤ hy ∧ hy < 2)
      · have hin' : (1 ≤ hole % 2 ∧ hole % 2 < 1 + 2 ^ 0) ∧ (1 ≤ hole / 2 ∧ hole / 2 < 1 + 2 ^ 0) := by rw [EX.out, EY.out]; exact hin
        have HIN := Lib.hid hin'
        obtain ⟨⟨i1, i2⟩, i3, i4⟩ := hin
        clear hin'
        go_wp2_with (first | (go_at_call 32; refine (l1in_t _ _ _ _ (by omega) (by omega)).mono ?_; rintro e w' ⟨rfl, rfl⟩))
        refine (C3.out _ _ hole m H.2.2.1 H.2.2.2.1 hho hle).mono ?_
        rintro e w5 ⟨⟨m', j1, j2, rfl, j3, j4⟩, j5⟩
        go_wp2
        go_roundw
        case rel => exact ⟨4, m', by omega, rfl, rfl, rfl, LpS.inn (X := 1) (Y := 1) rfl rfl HIN.out H j1 j2 j3 j4 j5⟩
        case measure => simp [intOf]
      · have hin' : ¬ ((1 ≤ hole % 2 ∧ hole % 2 < 1 + 2 ^ 0) ∧ (1 ≤ hole / 2 ∧ hole / 2 < 1 + 2 ^ 0)) := by rw [EX.out, EY.out]; exact hin
        have HIN := Lib.hid hin'
        clear hin'
        have R4 := H.2.2.1.putI 3 n
        have L4 : Hid (((crsQ 2 0 0 0 hole n (F, (n : Int) + 1) 3).1.set 3 n).length = 2 * 2) := by show _ = _; rw [List.length_set]; exact H.2.2.2.1.out
        have G4 : wr.grownBy (wr.setCell ⟨g, 3, none⟩ (.int .i64 n)) (some g) := gb_store (World.grownBy.refl _ _)
        by_cases ht : 1 ≤ hx ∧ hx < 2
        · obtain ⟨i1, i2⟩ := ht
          have i5 : hy < 1 ∨ 2 ≤ hy := by omega
          clear hin
          go_wp2_with (first | (go_at_call 32; refine (l1in_t _ _ _ _ (by omega) (by omega)).mono ?_; rintro e w' ⟨rfl, rfl⟩) | (go_at_call 32; refine (l1in_f _ _ _ _ (by omega)).mono ?_; rintro e w' ⟨rfl, rfl⟩))
          refine (C3.out _ _ 3 m R4 L4 (by decide) hle).mono ?_
          rintro e w5 ⟨⟨m', j1, j2, rfl, j3, j4⟩, j5⟩
          go_wp2
          go_roundw
          case rel => exact ⟨4, m', by omega, rfl, rfl, rfl, LpS.out (X := 1) (Y := 1) (J := 3) rfl rfl rfl HIN.out H G4 j1 j2 j3 j4 j5⟩
          case measure => simp [intOf]
        · have i5 : hx < 1 ∨ 2 ≤ hx := by omega
          clear hin ht
          go_wp2_with (first | (go_at_call 32; refine (l1in_f _ _ _ _ (by omega)).mono ?_; rintro e w' ⟨rfl, rfl⟩))
          refine (C3.out _ _ 3 m R4 L4 (by decide) hle).mono ?_
          rintro e w5 ⟨⟨m', j1, j2, rfl, j3, j4⟩, j5⟩
          go_wp2
          go_roundw
          case rel => exact ⟨4, m', by omega, rfl, rfl, rfl, LpS.out (X := 1) (Y := 1) (J := 3) rfl rfl rfl HIN.out H G4 j1 j2 j3 j4 j5⟩
          case measure => simp [intOf]
    · go_wp2
      go_ret2
      obtain ⟨k1, k2, k3, k4, k5⟩ := H
      exact ⟨⟨m, k1, by omega, rfl, k3, k4⟩, k5⟩
set_option maxRecDepth 100000 in
set_option maxHeartbeats 4000000 in
theorem crs_4_1_0_0 (c g lo : Nat) : CrsOk 4 c g lo 1 0 0 := by
  intro w F hole n R HL h1 h2
  rw [crnS_eq]
  have z1 : (5 : Nat) ^ 1 = 5 * 5 ^ 0 := by decide
  have z2 : 1 ≤ (5 : Nat) ^ 0 := by decide
  have z3 : (5 : Nat) ^ 0 = 1 := by decide
  have hn : n ≤ 1000 := by omega
  obtain ⟨hx, ex⟩ : ∃ hx : Nat, hole % 4 = hx := ⟨_, rfl⟩
  obtain ⟨hy, ey⟩ : ∃ hy : Nat, hole / 4 = hy := ⟨_, rfl⟩
  have e1 : (hole : Int).tmod 4 = (hx : Int) := by rw [Int.tmod_eq_emod_of_nonneg (by omega)]; omega
  have e2 : (hole : Int) % 4 = (hx : Int) := by omega
  have e3 : (hole : Int).tdiv 4 = (hy : Int) := by rw [Int.tdiv_eq_ediv_of_nonneg (by omega)]; omega
  have e4 : (hole : Int) / 4 = (hy : Int) := by omega
  have hxs : hx < 4 := by omega
  have hys : hy < 4 := by omega
  have EX := Lib.hid ex
  have EY := Lib.hid ey
  have hho : hole < 16 := h1
  clear ex ey
  have H0 : LpS 4 0 0 0 hole g lo (F, (n : Int) + 1) n w 0 (n + 1) w := ⟨rfl, by omega, R, HL, World.grownBy.refl _ _⟩
  have C0 := Lib.hid (fun (z : World) (F' : List Int) (ho m : Nat) (R : Wr z lo 3 (some ⟨g, 0, none⟩) (F'.map (.int .i64))) (L : Hid (F'.length = 4 * 4)) (h : ho < 16) (hm : m + 5 ^ 0 ≤ 1000) =>
    (show Calls Try.prog 48 #[.slice (some ⟨g, 0, none⟩) 16 c, .int .i64 4, .int .i64 0, .int .i64 0, .int .i64 1, .int .i64 ho, .int .i64 m] z _ from (crs_zero 4 c g lo 0 0) z F' ho m R L h hm))
  have C1 := Lib.hid (fun (z : World) (F' : List Int) (ho m : Nat) (R : Wr z lo 3 (some ⟨g, 0, none⟩) (F'.map (.int .i64))) (L : Hid (F'.length = 4 * 4)) (h : ho < 16) (hm : m + 5 ^ 0 ≤ 1000) =>
    (show Calls Try.prog 48 #[.slice (some ⟨g, 0, none⟩) 16 c, .int .i64 4, .int .i64 1, .int .i64 0, .int .i64 1, .int .i64 ho, .int .i64 m] z _ from (crs_zero 4 c g lo 1 0) z F' ho m R L h hm))
  have C2 := Lib.hid (fun (z : World) (F' : List Int) (ho m : Nat) (R : Wr z lo 3 (some ⟨g, 0, none⟩) (F'.map (.int .i64))) (L : Hid (F'.length = 4 * 4)) (h : ho < 16) (hm : m + 5 ^ 0 ≤ 1000) =>
    (show Calls Try.prog 48 #[.slice (some ⟨g, 0, none⟩) 16 c, .int .i64 4, .int .i64 0, .int .i64 1, .int .i64 1, .int .i64 ho, .int .i64 m] z _ from (crs_zero 4 c g lo 0 1) z F' ho m R L h hm))
  have C3 := Lib.hid (fun (z : World) (F' : List Int) (ho m : Nat) (R : Wr z lo 3 (some ⟨g, 0, none⟩) (F'.map (.int .i64))) (L : Hid (F'.length = 4 * 4)) (h : ho < 16) (hm : m + 5 ^ 0 ≤ 1000) =>
    (show Calls Try.prog 48 #[.slice (some ⟨g, 0, none⟩) 16 c, .int .i64 4, .int .i64 1, .int .i64 1, .int .i64 1, .int .i64 ho, .int .i64 m] z _ from (crs_zero 4 c g lo 1 1) z F' ho m R L h hm))
  clear R HL h1
  show Calls Try.prog 48 #[.slice (some ⟨g, 0, none⟩) 16 c, .int .i64 4, .int .i64 0, .int .i64 0, .int .i64 2, .int .i64 hole, .int .i64 n] w _
  go_enter Try.func48, Try.ntmps48
  go_wp2
  go_loopw [0, 6, 18] (fun v0 v6 i wr => ∃ q m : Nat, q ≤ 4 ∧ i = .int .i64 q ∧ v6 = .int .i64 m ∧ v0 = .slice (some ⟨g, 0, none⟩) 16 c ∧ LpS 4 0 0 0 hole g lo (F, (n : Int) + 1) n w q m wr) (fun _ _ i _ => 4 - (intOf i).toNat)
  case atStart => exact ⟨0, n + 1, by omega, rfl, by go_num, rfl, H0⟩
  case round =>
    clear H0
    obtain ⟨q, m, hq, rfl, rfl, rfl, H⟩ := hrel
    have hm := H.2.1
    rcases (show q = 0 ∨ q = 1 ∨ q = 2 ∨ q = 3 ∨ q = 4 from by omega) with rfl | rfl | rfl | rfl | rfl
    · have hle : m + 5 ^ 0 ≤ 1000 := by omega
      obtain ⟨⟨ov, k1⟩, k2⟩ := cells_ofS H.2.2.1 H.2.2.2.1.out (j := 0) (by decide)
      by_cases hin : (0 ≤ hx ∧ hx < 1) ∧ (0 ≤ hy ∧ hy < 1)
      · have hin' : (0 ≤ hole % 4 ∧ hole % 4 < 0 + 2 ^ 0) ∧ (0 ≤ hole / 4 ∧ hole / 4 < 0 + 2 ^ 0) := by rw [EX.out, EY.out]; exact hin
        have HIN := Lib.hid hin'
        obtain ⟨⟨i1, i2⟩, i3, i4⟩ := hin
        clear hin'
        go_wp2_with (first | (go_at_call 32; refine (l1in_t _ _ _ _ (by omega) (by omega)).mono ?_; rintro e w' ⟨rfl, rfl⟩))
        refine (C0.out _ _ hole m H.2.2.1 H.2.2.2.1 hho hle).mono ?_
        rintro e w5 ⟨⟨m', j1, j2, rfl, j3, j4⟩, j5⟩
        go_wp2
        go_roundw
        case rel => exact ⟨1, m', by omega, rfl, rfl, rfl, LpS.inn (X := 0) (Y := 0) rfl rfl HIN.out H j1 j2 j3 j4 j5⟩
        case measure => simp [intOf]
      · have hin' : ¬ ((0 ≤ hole % 4 ∧ hole % 4 < 0 + 2 ^ 0) ∧ (0 ≤ hole / 4 ∧ hole / 4 < 0 + 2 ^ 0)) := by rw [EX.out, EY.out]; exact hin
        have HIN := Lib.hid hin'
        clear hin'
        have R4 := H.2.2.1.putI 0 n
        have L4 : Hid (((crsQ 4 0 0 0 hole n (F, (n : Int) + 1) 0).1.set 0 n).length = 4 * 4) := by show _ = _; rw [List.length_set]; exact H.2.2.2.1.out
        have G4 : wr.grownBy (wr.setCell ⟨g, 0, none⟩ (.int .i64 n)) (some g) := gb_store (World.grownBy.refl _ _)
        by_cases ht : 0 ≤ hx ∧ hx < 1
        · obtain ⟨i1, i2⟩ := ht
          have i5 : hy < 0 ∨ 1 ≤ hy := by omega
          clear hin
          go_wp2_with (first | (go_at_call 32; refine (l1in_t _ _ _ _ (by omega) (by omega)).mono ?_; rintro e w' ⟨rfl, rfl⟩) | (go_at_call 32; refine (l1in_f _ _ _ _ (by omega)).mono ?_; rintro e w' ⟨rfl, rfl⟩))
          refine (C0.out _ _ 0 m R4 L4 (by decide) hle).mono ?_
          rintro e w5 ⟨⟨m', j1, j2, rfl, j3, j4⟩, j5⟩
          go_wp2
          go_roundw
          case rel => exact ⟨1, m', by omega, rfl, rfl, rfl, LpS.out (X := 0) (Y := 0) (J := 0) rfl rfl rfl HIN.out H G4 j1 j2 j3 j4 j5⟩
          case measure => simp [intOf]
        · have i5 : hx < 0 ∨ 1 ≤ hx := by omega
          clear hin ht
          go_wp2_with (first | (go_at_call 32; refine (l1in_f _ _ _ _ (by omega)).mono ?_; rintro e w' ⟨rfl, rfl⟩))
          refine (C0.out _ _ 0 m R4 L4 (by decide) hle).mono ?_
          rintro e w5 ⟨⟨m', j1, j2, rfl, j3, j4⟩, j5⟩
          go_wp2
          go_roundw
          case rel => exact ⟨1, m', by omega, rfl, rfl, rfl, LpS.out (X := 0) (Y := 0) (J := 0) rfl rfl rfl HIN.out H G4 j1 j2 j3 j4 j5⟩
          case measure => simp [intOf]
    · have hle : m + 5 ^ 0 ≤ 1000 := by omega
      obtain ⟨⟨ov, k1⟩, k2⟩ := cells_ofS H.2.2.1 H.2.2.2.1.out (j := 1) (by decide)
      by_cases hin : (1 ≤ hx ∧ hx < 2) ∧ (0 ≤ hy ∧ hy < 1)
      · have hin' : (1 ≤ hole % 4 ∧ hole % 4 < 1 + 2 ^ 0) ∧ (0 ≤ hole / 4 ∧ hole / 4 < 0 + 2 ^ 0) := by rw [EX.out, EY.out]; exact hin
        have HIN := Lib.hid hin'
        obtain ⟨⟨i1, i2⟩, i3, i4⟩ := hin
        clear hin'
        go_wp2_with (first | (go_at_call 32; refine (l1in_t _ _ _ _ (by omega) (by omega)).mono ?_; rintro e w' ⟨rfl, rfl⟩))
        refine (C1.out _ _ hole m H.2.2.1 H.2.2.2.1 hho hle).mono ?_
        rintro e w5 ⟨⟨m', j1, j2, rfl, j3, j4⟩, j5⟩
        go_wp2
        go_roundw
        case rel => exact ⟨2, m', by omega, rfl, rfl, rfl, LpS.inn (X := 1) (Y := 0) rfl rfl HIN.out H j1 j2 j3 j4 j5⟩
        case measure => simp [intOf]
      · have hin' : ¬ ((1 ≤ hole % 4 ∧ hole % 4 < 1 + 2 ^ 0) ∧ (0 ≤ hole / 4 ∧ hole / 4 < 0 + 2 ^ 0)) := by rw [EX.out, EY.out]; exact hin
        have HIN := Lib.hid hin'
        clear hin'
        have R4 := H.2.2.1.putI 1 n
        have L4 : Hid (((crsQ 4 0 0 0 hole n (F, (n : Int) + 1) 1).1.set 1 n).length = 4 * 4) := by show _ = _; rw [List.length_set]; exact H.2.2.2.1.out
        have G4 : wr.grownBy (wr.setCell ⟨g, 1, none⟩ (.int .i64 n)) (some g) := gb_store (World.grownBy.refl _ _)
        by_cases ht : 1 ≤ hx ∧ hx < 2
        · obtain ⟨i1, i2⟩ := ht
          have i5 : hy < 0 ∨ 1 ≤ hy := by omega
          clear hin
          go_wp2_with (first | (go_at_call 32; refine (l1in_t _ _ _ _ (by omega) (by omega)).mono ?_; rintro e w' ⟨rfl, rfl⟩) | (go_at_call 32; refine (l1in_f _ _ _ _ (by omega)).mono ?_; rintro e w' ⟨rfl, rfl⟩))
          refine (C1.out _ _ 1 m R4 L4 (by decide) hle).mono ?_
          rintro e w5 ⟨⟨m', j1, j2, rfl, j3, j4⟩, j5⟩
          go_wp2
          go_roundw
          case rel => exact ⟨2, m', by omega, rfl, rfl, rfl, LpS.out (X := 1) (Y := 0) (J := 1) rfl rfl rfl HIN.out H G4 j1 j2 j3 j4 j5⟩
          case measure => simp [intOf]
        · have i5 : hx < 1 ∨ 2 ≤ hx := by omega
          clear hin ht
          go_wp2_with (first | (go_at_call 32; refine (l1in_f _ _ _ _ (by omega)).mono ?_; rintro e w' ⟨rfl, rfl⟩))
          refine (C1.out _ _ 1 m R4 L4 (by decide) hle).mono ?_
          rintro e w5 ⟨⟨m', j1, j2, rfl, j3, j4⟩, j5⟩
          go_wp2
          go_roundw
          case rel => exact ⟨2, m', by omega, rfl, rfl, rfl, LpS.out (X := 1) (Y := 0) (J := 1) rfl rfl rfl HIN.out H G4 j1 j2 j3 j4 j5⟩
          case measure => simp [intOf]
    · have hle : m + 5 ^ 0 ≤ 1000 := by omega
      obtain ⟨⟨ov, k1⟩, k2⟩ := cells_ofS H.2.2.1 H.2.2.2.1.out (j := 4) (by decide)
      by_cases hin : (0 ≤ hx ∧ hx < 1) ∧ (1 ≤ hy ∧ hy < 2)
      · have hin' : (0 ≤ hole % 4 ∧ hole % 4 < 0 + 2 ^ 0) ∧ (1 ≤ hole / 4 ∧ hole / 4 < 1 + 2 ^ 0) := by rw [EX.out, EY.out]; exact hin
        have HIN := Lib.hid hin'
        obtain ⟨⟨i1, i2⟩, i3, i4⟩ := hin
        clear hin'
        go_wp2_with (first | (go_at_call 32; refine (l1in_t _ _ _ _ (by omega) (by omega)).mono ?_; rintro e w' ⟨rfl, rfl⟩))
        refine (C2.out _ _ hole m H.2.2.1 H.2.2.2.1 hho hle).mono ?_
        rintro e w5 ⟨⟨m', j1, j2, rfl, j3, j4⟩, j5⟩
        go_wp2
        go_roundw
        case rel => exact ⟨3, m', by omega, rfl, rfl, rfl, LpS.inn (X := 0) (Y := 1) rfl rfl HIN.out H j1 j2 j3 j4 j5⟩
        case measure => simp [intOf]
      · have hin' : ¬ ((0 ≤ hole % 4 ∧ hole % 4 < 0 + 2 ^ 0) ∧ (1 ≤ hole / 4 ∧ hole / 4 < 1 + 2 ^ 0)) := by rw [EX.out, EY.out]; exact hin
        have HIN := Lib.hid hin'
        clear hin'
        have R4 := H.2.2.1.putI 4 n
        have L4 : Hid (((crsQ 4 0 0 0 hole n (F, (n : Int) + 1) 2).1.set 4 n).length = 4 * 4) := by show _ = _; rw [List.length_set]; exact H.2.2.2.1.out
        have G4 : wr.grownBy (wr.setCell ⟨g, 4, none⟩ (.int .i64 n)) (some g) := gb_store (World.grownBy.refl _ _)
        by_cases ht : 0 ≤ hx ∧ hx < 1
        · obtain ⟨i1, i2⟩ := ht
          have i5 : hy < 1 ∨ 2 ≤ hy := by omega
          clear hin
          go_wp2_with (first | (go_at_call 32; refine (l1in_t _ _ _ _ (by omega) (by omega)).mono ?_; rintro e w' ⟨rfl, rfl⟩) | (go_at_call 32; refine (l1in_f _ _ _ _ (by omega)).mono ?_; rintro e w' ⟨rfl, rfl⟩))
          refine (C2.out _ _ 4 m R4 L4 (by decide) hle).mono ?_
          rintro e w5 ⟨⟨m', j1, j2, rfl, j3, j4⟩, j5⟩
          go_wp2
          go_roundw
          case rel => exact ⟨3, m', by omega, rfl, rfl, rfl, LpS.out (X := 0) (Y := 1) (J := 4) rfl rfl rfl HIN.out H G4 j1 j2 j3 j4 j5⟩
          case measure => simp [intOf]
        · have i5 : hx < 0 ∨ 1 ≤ hx := by omega
          clear hin ht
          go_wp2_with (first | (go_at_call 32; refine (l1in_f _ _ _ _ (by omega)).mono ?_; rintro e w' ⟨rfl, rfl⟩))
          refine (C2.out _ _ 4 m R4 L4 (by decide) hle).mono ?_
          rintro e w5 ⟨⟨m', j1, j2, rfl, j3, j4⟩, j5⟩
          go_wp2
          go_roundw
          case rel => exact ⟨3, m', by omega, rfl, rfl, rfl, LpS.out (X := 0) (Y := 1) (J := 4) rfl rfl rfl HIN.out H G4 j1 j2 j3 j4 j5⟩
          case measure => simp [intOf]
    · have hle : m + 5 ^ 0 ≤ 1000 := by omega
      obtain ⟨⟨ov, k1⟩, k2⟩ := cells_ofS H.2.2.1 H.2.2.2.1.out (j := 5) (by decide)
      by_cases hin : (1 ≤ hx ∧ hx < 2) ∧ (1 ≤ hy ∧ hy < 2)
      · have hin' : (1 ≤ hole % 4 ∧ hole % 4 < 1 + 2 ^ 0) ∧ (1 ≤ hole / 4 ∧ hole / 4 < 1 + 2 ^ 0) := by rw [EX.out, EY.out]; exact hin
        have HIN := Lib.hid hin'
        obtain ⟨⟨i1, i2⟩, i3, i4⟩ := hin
        clear hin'
        go_wp2_with (first | (go_at_call 32; refine (l1in_t _ _ _ _ (by omega) (by omega)).mono ?_; rintro e w' ⟨rfl, rfl⟩))
        refine (C3.out _ _ hole m H.2.2.1 H.2.2.2.1 hho hle).mono ?_
        rintro e w5 ⟨⟨m', j1, j2, rfl, j3, j4⟩, j5⟩
        go_wp2
        go_roundw
        case rel => exact ⟨4, m', by omega, rfl, rfl, rfl, LpS.inn (X := 1) (Y := 1) rfl rfl HIN.out H j1 j2 j3 j4 j5⟩
        case measure => simp [intOf]
      · have hin' : ¬ ((1 ≤ hole % 4 ∧ hole % 4 < 1 + 2 ^ 0) ∧ (1 ≤ hole / 4 ∧ hole / 4 < 1 + 2 ^ 0)) := by rw [EX.out, EY.out]; exact hin
        have HIN := Lib.hid hin'
        clear hin'
        have R4 := H.2.2.1.putI 5 n
        have L4 : Hid (((crsQ 4 0 0 0 hole n (F, (n : Int) + 1) 3).1.set 5 n).length = 4 * 4) := by show _ = _; rw [List.length_set]; exact H.2.2.2.1.out
        have G4 : wr.grownBy (wr.setCell ⟨g, 5, none⟩ (.int .i64 n)) (some g) := gb_store (World.grownBy.refl _ _)
        by_cases ht : 1 ≤ hx ∧ hx < 2
        · obtain ⟨i1, i2⟩ := ht
          have i5 : hy < 1 ∨ 2 ≤ hy := by omega
          clear hin
          go_wp2_with (first | (go_at_call 32; refine (l1in_t _ _ _ _ (by omega) (by omega)).mono ?_; rintro e w' ⟨rfl, rfl⟩) | (go_at_call 32; refine (l1in_f _ _ _ _ (by omega)).mono ?_; rintro e w' ⟨rfl, rfl⟩))
          refine (C3.out _ _ 5 m R4 L4 (by decide) hle).mono ?_
          rintro e w5 ⟨⟨m', j1, j2, rfl, j3, j4⟩, j5⟩
          go_wp2
          go_roundw
          case rel => exact ⟨4, m', by omega, rfl, rfl, rfl, LpS.out (X := 1) (Y := 1) (J := 5) rfl rfl rfl HIN.out H G4 j1 j2 j3 j4 j5⟩
          case measure => simp [intOf]
        · have i5 : hx < 1 ∨ 2 ≤ hx := by omega
          clear hin ht
          go_wp2_with (first | (go_at_call 32; refine (l1in_f _ _ _ _ (by omega)).mono ?_; rintro e w' ⟨rfl, rfl⟩))
          refine (C3.out _ _ 5 m R4 L4 (by decide) hle).mono ?_
          rintro e w5 ⟨⟨m', j1, j2, rfl, j3, j4⟩, j5⟩
          go_wp2
          go_roundw
          case rel => exact ⟨4, m', by omega, rfl, rfl, rfl, LpS.out (X := 1) (Y := 1) (J := 5) rfl rfl rfl HIN.out H G4 j1 j2 j3 j4 j5⟩
          case measure => simp [intOf]
    · go_wp2
      go_ret2
      obtain ⟨k1, k2, k3, k4, k5⟩ := H
      exact ⟨⟨m, k1, by omega, rfl, k3, k4⟩, k5⟩
set_option maxRecDepth 100000 in
set_option maxHeartbeats 4000000 in
theorem crs_4_1_2_0 (c g lo : Nat) : CrsOk 4 c g lo 1 2 0 := by
  intro w F hole n R HL h1 h2
  rw [crnS_eq]
  have z1 : (5 : Nat) ^ 1 = 5 * 5 ^ 0 := by decide
  have z2 : 1 ≤ (5 : Nat) ^ 0 := by decide
  have z3 : (5 : Nat) ^ 0 = 1 := by decide
  have hn : n ≤ 1000 := by omega
  obtain ⟨hx, ex⟩ : ∃ hx : Nat, hole % 4 = hx := ⟨_, rfl⟩
  obtain ⟨hy, ey⟩ : ∃ hy : Nat, hole / 4 = hy := ⟨_, rfl⟩
  have e1 : (hole : Int).tmod 4 = (hx : Int) := by rw [Int.tmod_eq_emod_of_nonneg (by omega)]; omega
  have e2 : (hole : Int) % 4 = (hx : Int) := by omega
  have e3 : (hole : Int).tdiv 4 = (hy : Int) := by rw [Int.tdiv_eq_ediv_of_nonneg (by omega)]; omega
  have e4 : (hole : Int) / 4 = (hy : Int) := by omega
  have hxs : hx < 4 := by omega
  have hys : hy < 4 := by omega
  have EX := Lib.hid ex
  have EY := Lib.hid ey
  have hho : hole < 16 := h1
  clear ex ey
  have H0 : LpS 4 0 2 0 hole g lo (F, (n : Int) + 1) n w 0 (n + 1) w := ⟨rfl, by omega, R, HL, World.grownBy.refl _ _⟩
  have C0 := Lib.hid (fun (z : World) (F' : List Int) (ho m : Nat) (R : Wr z lo 3 (some ⟨g, 0, none⟩) (F'.map (.int .i64))) (L : Hid (F'.length = 4 * 4)) (h : ho < 16) (hm : m + 5 ^ 0 ≤ 1000) =>
    (show Calls Try.prog 48 #[.slice (some ⟨g, 0, none⟩) 16 c, .int .i64 4, .int .i64 2, .int .i64 0, .int .i64 1, .int .i64 ho, .int .i64 m] z _ from (crs_zero 4 c g lo 2 0) z F' ho m R L h hm))
  have C1 := Lib.hid (fun (z : World) (F' : List Int) (ho m : Nat) (R : Wr z lo 3 (some ⟨g, 0, none⟩) (F'.map (.int .i64))) (L : Hid (F'.length = 4 * 4)) (h : ho < 16) (hm : m + 5 ^ 0 ≤ 1000) =>
    (show Calls Try.prog 48 #[.slice (some ⟨g, 0, none⟩) 16 c, .int .i64 4, .int .i64 3, .int .i64 0, .int .i64 1, .int .i64 ho, .int .i64 m] z _ from (crs_zero 4 c g lo 3 0) z F' ho m R L h hm))
  have C2 := Lib.hid (fun (z : World) (F' : List Int) (ho m : Nat) (R : Wr z lo 3 (some ⟨g, 0, none⟩) (F'.map (.int .i64))) (L : Hid (F'.length = 4 * 4)) (h : ho < 16) (hm : m + 5 ^ 0 ≤ 1000) =>
    (show Calls Try.prog 48 #[.slice (some ⟨g, 0, none⟩) 16 c, .int .i64 4, .int .i64 2, .int .i64 1, .int .i64 1, .int .i64 ho, .int .i64 m] z _ from (crs_zero 4 c g lo 2 1) z F' ho m R L h hm))
  have C3 := Lib.hid (fun (z : World) (F' : List Int) (ho m : Nat) (R : Wr z lo 3 (some ⟨g, 0, none⟩) (F'.map (.int .i64))) (L : Hid (F'.length = 4 * 4)) (h : ho < 16) (hm : m + 5 ^ 0 ≤ 1000) =>
    (show Calls Try.prog 48 #[.slice (some ⟨g, 0, none⟩) 16 c, .int .i64 4, .int .i64 3, .int .i64 1, .int .i64 1, .int .i64 ho, .int .i64 m] z _ from (crs_zero 4 c g lo 3 1) z F' ho m R L h hm))
  clear R HL h1
  show Calls Try.prog 48 #[.slice (some ⟨g, 0, none⟩) 16 c, .int .i64 4, .int .i64 2, .int .i64 0, .int .i64 2, .int .i64 hole, .int .i64 n] w _
  go_enter Try.func48, Try.ntmps48
  go_wp2
  go_loopw [0, 6, 18] (fun v0 v6 i wr => ∃ q m : Nat, q ≤ 4 ∧ i = .int .i64 q ∧ v6 = .int .i64 m ∧ v0 = .slice (some ⟨g, 0, none⟩) 16 c ∧ LpS 4 0 2 0 hole g lo (F, (n : Int) + 1) n w q m wr) (fun _ _ i _ => 4 - (intOf i).toNat)
  case atStart => exact ⟨0, n + 1, by omega, rfl, by go_num, rfl, H0⟩
  case round =>
    clear H0
    obtain ⟨q, m, hq, rfl, rfl, rfl, H⟩ := hrel
    have hm := H.2.1
    rcases (show q = 0 ∨ q = 1 ∨ q = 2 ∨ q = 3 ∨ q = 4 from by omega) with rfl | rfl | rfl | rfl | rfl
    · have hle : m + 5 ^ 0 ≤ 1000 := by omega
      obtain ⟨⟨ov, k1⟩, k2⟩ := cells_ofS H.2.2.1 H.2.2.2.1.out (j := 2) (by decide)
      by_cases hin : (2 ≤ hx ∧ hx < 3) ∧ (0 ≤ hy ∧ hy < 1)
      · have hin' : (2 ≤ hole % 4 ∧ hole % 4 < 2 + 2 ^ 0) ∧ (0 ≤ hole / 4 ∧ hole / 4 < 0 + 2 ^ 0) := by rw [EX.out, EY.out]; exact hin
        have HIN := Lib.hid hin'
        obtain ⟨⟨i1, i2⟩, i3, i4⟩ := hin
        clear hin'
        go_wp2_with (first | (go_at_call 32; refine (l1in_t _ _ _ _ (by omega) (by omega)).mono ?_; rintro e w' ⟨rfl, rfl⟩))
        refine (C0.out _ _ hole m H.2.2.1 H.2.2.2.1 hho hle).mono ?_
        rintro e w5 ⟨⟨m', j1, j2, rfl, j3, j4⟩, j5⟩
        go_wp2
        go_roundw
        case rel => exact ⟨1, m', by omega, rfl, rfl, rfl, LpS.inn (X := 2) (Y := 0) rfl rfl HIN.out H j1 j2 j3 j4 j5⟩
        case measure => simp [intOf]
      · have hin' : ¬ ((2 ≤ hole % 4 ∧ hole % 4 < 2 + 2 ^ 0) ∧ (0 ≤ hole / 4 ∧ hole / 4 < 0 + 2 ^ 0)) := by rw [EX.out, EY.out]; exact hin
        have HIN := Lib.hid hin'
        clear hin'
        have R4 := H.2.2.1.putI 2 n
        have L4 : Hid (((crsQ 4 0 2 0 hole n (F, (n : Int) + 1) 0).1.set 2 n).length = 4 * 4) := by show _ = _; rw [List.length_set]; exact H.2.2.2.1.out
        have G4 : wr.grownBy (wr.setCell ⟨g, 2, none⟩ (.int .i64 n)) (some g) := gb_store (World.grownBy.refl _ _)
        by_cases ht : 2 ≤ hx ∧ hx < 3
        · obtain ⟨i1, i2⟩ := ht
          have i5 : hy < 0 ∨ 1 ≤ hy := by omega
          clear hin
          go_wp2_with (first | (go_at_call 32; refine (l1in_t _ _ _ _ (by omega) (by omega)).mono ?_; rintro e w' ⟨rfl, rfl⟩) | (go_at_call 32; refine (l1in_f _ _ _ _ (by omega)).mono ?_; rintro e w' ⟨rfl, rfl⟩))
          refine (C0.out _ _ 2 m R4 L4 (by decide) hle).mono ?_
          rintro e w5 ⟨⟨m', j1, j2, rfl, j3, j4⟩, j5⟩
          go_wp2
          go_roundw
          case rel => exact ⟨1, m', by omega, rfl, rfl, rfl, LpS.out (X := 2) (Y := 0) (J := 2) rfl rfl rfl HIN.out H G4 j1 j2 j3 j4 j5⟩
          case measure => simp [intOf]
        · have i5 : hx < 2 ∨ 3 ≤ hx := by omega
          clear hin ht
          go_wp2_with (first | (go_at_call 32; refine (l1in_f _ _ _ _ (by omega)).mono ?_; rintro e w' ⟨rfl, rfl⟩))
          refine (C0.out _ _ 2 m R4 L4 (by decide) hle).mono ?_
          rintro e w5 ⟨⟨m', j1, j2, rfl, j3, j4⟩, j5⟩
          go_wp2
          go_roundw
          case rel => exact ⟨1, m', by omega, rfl, rfl, rfl, LpS.out (X := 2) (Y := 0) (J := 2) rfl rfl rfl HIN.out H G4 j1 j2 j3 j4 j5⟩
          case measure => simp [intOf]
    · have hle : m + 5 ^ 0 ≤ 1000 := by omega
      obtain ⟨⟨ov, k1⟩, k2⟩ := cells_ofS H.2.2.1 H.2.2.2.1.out (j := 3) (by decide)
      by_cases hin : (3 ≤ hx ∧ hx < 4) ∧ (0 ≤ hy ∧ hy < 1)
      · have hin' : (3 ≤ hole % 4 ∧ hole % 4 < 3 + 2 ^ 0) ∧ (0 ≤ hole / 4 ∧ hole / 4 < 0 + 2 ^ 0) := by rw [EX.out, EY.out]; exact hin
        have HIN := Lib.hid hin'
        obtain ⟨⟨i1, i2⟩, i3, i4⟩ := hin
        clear hin'
        go_wp2_with (first | (go_at_call 32; refine (l1in_t _ _ _ _ (by omega) (by omega)).mono ?_; rintro e w' ⟨rfl, rfl⟩))
        refine (C1.out _ _ hole m H.2.2.1 H.2.2.2.1 hho hle).mono ?_
        rintro e w5 ⟨⟨m', j1, j2, rfl, j3, j4⟩, j5⟩
        go_wp2
        go_roundw
        case rel => exact ⟨2, m', by omega, rfl, rfl, rfl, LpS.inn (X := 3) (Y := 0) rfl rfl HIN.out H j1 j2 j3 j4 j5⟩
        case measure => simp [intOf]
      · have hin' : ¬ ((3 ≤ hole % 4 ∧ hole % 4 < 3 + 2 ^ 0) ∧ (0 ≤ hole / 4 ∧ hole / 4 < 0 + 2 ^ 0)) := by rw [EX.out, EY.out]; exact hin
        have HIN := Lib.hid hin'
        clear hin'
        have R4 := H.2.2.1.putI 3 n
        have L4 : Hid (((crsQ 4 0 2 0 hole n (F, (n : Int) + 1) 1).1.set 3 n).length = 4 * 4) := by show _ = _; rw [List.length_set]; exact H.2.2.2.1.out
        have G4 : wr.grownBy (wr.setCell ⟨g, 3, none⟩ (.int .i64 n)) (some g) := gb_store (World.grownBy.refl _ _)
        by_cases ht : 3 ≤ hx ∧ hx < 4
        · obtain ⟨i1, i2⟩ := ht
          have i5 : hy < 0 ∨ 1 ≤ hy := by omega
          clear hin
          go_wp2_with (first | (go_at_call 32; refine (l1in_t _ _ _ _ (by omega) (by omega)).mono ?_; rintro e w' ⟨rfl, rfl⟩) | (go_at_call 32; refine (l1in_f _ _ _ _ (by omega)).mono ?_; rintro e w' ⟨rfl, rfl⟩))
          refine (C1.out _ _ 3 m R4 L4 (by decide) hle).mono ?_
          rintro e w5 ⟨⟨m', j1, j2, rfl, j3, j4⟩, j5⟩
          go_wp2
          go_roundw
          case rel => exact ⟨2, m', by omega, rfl, rfl, rfl, LpS.out (X := 3) (Y := 0) (J := 3) rfl rfl rfl HIN.out H G4 j1 j2 j3 j4 j5⟩
          case measure => simp [intOf]
        · have i5 : hx < 3 ∨ 4 ≤ hx := by omega
          clear hin ht
          go_wp2_with (first | (go_at_call 32; refine (l1in_f _ _ _ _ (by omega)).mono ?_; rintro e w' ⟨rfl, rfl⟩))
          refine (C1.out _ _ 3 m R4 L4 (by decide) hle).mono ?_
          rintro e w5 ⟨⟨m', j1, j2, rfl, j3, j4⟩, j5⟩
          go_wp2
          go_roundw
          case rel => exact ⟨2, m', by omega, rfl, rfl, rfl, LpS.out (X := 3) (Y := 0) (J := 3) rfl rfl rfl HIN.out H G4 j1 j2 j3 j4 j5⟩
          case measure => simp [intOf]
    · have hle : m + 5 ^ 0 ≤ 1000 := by omega
      obtain ⟨⟨ov, k1⟩, k2⟩ := cells_ofS H.2.2.1 H.2.2.2.1.out (j := 6) (by decide)
      by_cases hin : (2 ≤ hx ∧ hx < 3) ∧ (1 ≤ hy ∧ hy < 2)
      · have hin' : (2 ≤ hole % 4 ∧ hole % 4 < 2 + 2 ^ 0) ∧ (1 ≤ hole / 4 ∧ hole / 4 < 1 + 2 ^ 0) := by rw [EX.out, EY.out]; exact hin
        have HIN := Lib.hid hin'
        obtain ⟨⟨i1, i2⟩, i3, i4⟩ := hin
        clear hin'
        go_wp2_with (first | (go_at_call 32; refine (l1in_t _ _ _ _ (by omega) (by omega)).mono ?_; rintro e w' ⟨rfl, rfl⟩))
        refine (C2.out _ _ hole m H.2.2.1 H.2.2.2.1 hho hle).mono ?_
        rintro e w5 ⟨⟨m', j1, j2, rfl, j3, j4⟩, j5⟩
        go_wp2
        go_roundw
        case rel => exact ⟨3, m', by omega, rfl, rfl, rfl, LpS.inn (X := 2) (Y := 1) rfl rfl HIN.out H j1 j2 j3 j4 j5⟩
        case measure => simp [intOf]
      · have hin' : ¬ ((2 ≤ hole % 4 ∧ hole % 4 < 2 + 2 ^ 0) ∧ (1 ≤ hole / 4 ∧ hole / 4 < 1 + 2 ^ 0)) := by rw [EX.out, EY.out]; exact hin
        have HIN := Lib.hid hin'
        clear hin'
        have R4 := H.2.2.1.putI 6 n
        have L4 : Hid (((crsQ 4 0 2 0 hole n (F, (n : Int) + 1) 2).1.set 6 n).length = 4 * 4) := by show _ = _; rw [List.length_set]; exact H.2.2.2.1.out
        have G4 : wr.grownBy (wr.setCell ⟨g, 6, none⟩ (.int .i64 n)) (some g) := gb_store (World.grownBy.refl _ _)
        by_cases ht : 2 ≤ hx ∧ hx < 3
        · obtain ⟨i1, i2⟩ := ht
          have i5 : hy < 1 ∨ 2 ≤ hy := by omega
          clear hin
          go_wp2_with (first | (go_at_call 32; refine (l1in_t _ _ _ _ (by omega) (by omega)).mono ?_; rintro e w' ⟨rfl, rfl⟩) | (go_at_call 32; refine (l1in_f _ _ _ _ (by omega)).mono ?_; rintro e w' ⟨rfl, rfl⟩))
          refine (C2.out _ _ 6 m R4 L4 (by decide) hle).mono ?_
          rintro e w5 ⟨⟨m', j1, j2, rfl, j3, j4⟩, j5⟩
          go_wp2
          go_roundw
          case rel => exact ⟨3, m', by omega, rfl, rfl, rfl, LpS.out (X := 2) (Y := 1) (J := 6) rfl rfl rfl HIN.out H G4 j1 j2 j3 j4 j5⟩
          case measure => simp [intOf]
        · have i5 : hx < 2 ∨ 3 ≤ hx := by omega
          clear hin ht
          go_wp2_with (first | (go_at_call 32; refine (l1in_f _ _ _ _ (by omega)).mono ?_; rintro e w' ⟨rfl, rfl⟩))
          refine (C2.out _ _ 6 m R4 L4 (by decide) hle).mono ?_
          rintro e w5 ⟨⟨m', j1, j2, rfl, j3, j4⟩, j5⟩
          go_wp2
          go_roundw
          case rel => exact ⟨3, m', by omega, rfl, rfl, rfl, LpS.out (X := 2) (Y := 1) (J := 6) rfl rfl rfl HIN.out H G4 j1 j2 j3 j4 j5⟩
          case measure => simp [intOf]
    · have hle : m + 5 ^ 0 ≤ 1000 := by omega
      obtain ⟨⟨ov, k1⟩, k2⟩ := cells_ofS H.2.2.1 H.2.2.2.1.out (j := 7) (by decide)
      by_cases hin : (3 ≤ hx ∧ hx < 4) ∧ (1 ≤ hy ∧ hy < 2)
      · have hin' : (3 ≤ hole % 4 ∧ hole % 4 < 3 + 2 ^ 0) ∧ (1 ≤ hole / 4 ∧ hole / 4 < 1 + 2 ^ 0) := by rw [EX.out, EY.out]; exact hin
        have HIN := Lib.hid hin'
        obtain ⟨⟨i1, i2⟩, i3, i4⟩ := hin
        clear hin'
        go_wp2_with (first | (go_at_call 32; refine (l1in_t _ _ _ _ (by omega) (by omega)).mono ?_; rintro e w' ⟨rfl, rfl⟩))
        refine (C3.out _ _ hole m H.2.2.1 H.2.2.2.1 hho hle).mono ?_
        rintro e w5 ⟨⟨m', j1, j2, rfl, j3, j4⟩, j5⟩
        go_wp2
        go_roundw
        case rel => exact ⟨4, m', by omega, rfl, rfl, rfl, LpS.inn (X := 3) (Y := 1) rfl rfl HIN.out H j1 j2 j3 j4 j5⟩
        case measure => simp [intOf]
      · have hin' : ¬ ((3 ≤ hole % 4 ∧ hole % 4 < 3 + 2 ^ 0) ∧ (1 ≤ hole / 4 ∧ hole / 4 < 1 + 2 ^ 0)) := by rw [EX.out, EY.out]; exact hin
        have HIN := Lib.hid hin'
        clear hin'
        have R4 := H.2.2.1.putI 7 n
        have L4 : Hid (((crsQ 4 0 2 0 hole n (F, (n : Int) + 1) 3).1.set 7 n).length = 4 * 4) := by show _ = _; rw [List.length_set]; exact H.2.2.2.1.out
        have G4 : wr.grownBy (wr.setCell ⟨g, 7, none⟩ (.int .i64 n)) (some g) := gb_store (World.grownBy.refl _ _)
        by_cases ht : 3 ≤ hx ∧ hx < 4
        · obtain ⟨i1, i2⟩ := ht
          have i5 : hy < 1 ∨ 2 ≤ hy := by omega
          clear hin
          go_wp2_with (first | (go_at_call 32; refine (l1in_t _ _ _ _ (by omega) (by omega)).mono ?_; rintro e w' ⟨rfl, rfl⟩) | (go_at_call 32; refine (l1in_f _ _ _ _ (by omega)).mono ?_; rintro e w' ⟨rfl, rfl⟩))
          refine (C3.out _ _ 7 m R4 L4 (by decide) hle).mono ?_
          rintro e w5 ⟨⟨m', j1, j2, rfl, j3, j4⟩, j5⟩
          go_wp2
          go_roundw
          case rel => exact ⟨4, m', by omega, rfl, rfl, rfl, LpS.out (X := 3) (Y := 1) (J := 7) rfl rfl rfl HIN.out H G4 j1 j2 j3 j4 j5⟩
          case measure => simp [intOf]
        · have i5 : hx < 3 ∨ 4 ≤ hx := by omega
          clear hin ht
          go_wp2_with (first | (go_at_call 32; refine (l1in_f _ _ _ _ (by omega)).mono ?_; rintro e w' ⟨rfl, rfl⟩))
          refine (C3.out _ _ 7 m R4 L4 (by decide) hle).mono ?_
          rintro e w5 ⟨⟨m', j1, j2, rfl, j3, j4⟩, j5⟩
          go_wp2
          go_roundw
          case rel => exact ⟨4, m', by omega, rfl, rfl, rfl, LpS.out (X := 3) (Y := 1) (J := 7) rfl rfl rfl HIN.out H G4 j1 j2 j3 j4 j5⟩
          case measure => simp [intOf]
    · go_wp2
      go_ret2
      obtain ⟨k1, k2, k3, k4, k5⟩ := H
      exact ⟨⟨m, k1, by omega, rfl, k3, k4⟩, k5⟩
end Go.Proofs.Ytnignglhefcecaa

/- The reference's CornerFill at the squares side 4, level 1 at 0, 2, side 4, level 1 at 2, 2. -/
namespace Go.Proofs.Ytnignglhefcecaa
open Go.RowKit

set_option maxRecDepth 100000 in
set_option maxHeartbeats 4000000 in
theorem crs_4_1_0_2 (c g lo : Nat) : CrsOk 4 c g lo 1 0 2 := by
  intro w F hole n R HL h1 h2
  rw [crnS_eq]
  have z1 : (5 : Nat) ^ 1 = 5 * 5 ^ 0 := by decide
  have z2 : 1 ≤ (5 : Nat) ^ 0 := by decide
  have z3 : (5 : Nat) ^ 0 = 1 := by decide
  have hn : n ≤ 1000 := by omega
  obtain ⟨hx, ex⟩ : ∃ hx : Nat, hole % 4 = hx := ⟨_, rfl⟩
  obtain ⟨hy, ey⟩ : ∃ hy : Nat, hole / 4 = hy := ⟨_, rfl⟩
  have e1 : (hole : Int).tmod 4 = (hx : Int) := by rw [Int.tmod_eq_emod_of_nonneg (by omega)]; omega
  have e2 : (hole : Int) % 4 = (hx : Int) := by omega
  have e3 : (hole : Int).tdiv 4 = (hy : Int) := by rw [Int.tdiv_eq_ediv_of_nonneg (by omega)]; omega
  have e4 : (hole : Int) / 4 = (hy : Int) := by omega
  have hxs : hx < 4 := by omega
  have hys : hy < 4 := by omega
  have EX := Lib.hid ex
  have EY := Lib.hid ey
  have hho : hole < 16 := h1
  clear ex ey
  have H0 : LpS 4 0 0 2 hole g lo (F, (n : Int) + 1) n w 0 (n + 1) w := ⟨rfl, by omega, R, HL, World.grownBy.refl _ _⟩
  have C0 := Lib.hid (fun (z : World) (F' : List Int) (ho m : Nat) (R : Wr z lo 3 (some ⟨g, 0, none⟩) (F'.map (.int .i64))) (L : Hid (F'.length = 4 * 4)) (h : ho < 16) (hm : m + 5 ^ 0 ≤ 1000) =>
    (show Calls Try.prog 48 #[.slice (some ⟨g, 0, none⟩) 16 c, .int .i64 4, .int .i64 0, .int .i64 2, .int .i64 1, .int .i64 ho, .int .i64 m] z _ from (crs_zero 4 c g lo 0 2) z F' ho m R L h hm))
  have C1 := Lib.hid (fun (z : World) (F' : List Int) (ho m : Nat) (R : Wr z lo 3 (some ⟨g, 0, none⟩) (F'.map (.int .i64))) (L : Hid (F'.length = 4 * 4)) (h : ho < 16) (hm : m + 5 ^ 0 ≤ 1000) =>
    (show Calls Try.prog 48 #[.slice (some ⟨g, 0, none⟩) 16 c, .int .i64 4, .int .i64 1, .int .i64 2, .int .i64 1, .int .i64 ho, .int .i64 m] z _ from (crs_zero 4 c g lo 1 2) z F' ho m R L h hm))
  have C2 := Lib.hid (fun (z : World) (F' : List Int) (ho m : Nat) (R : Wr z lo 3 (some ⟨g, 0, none⟩) (F'.map (.int .i64))) (L : Hid (F'.length = 4 * 4)) (h : ho < 16) (hm : m + 5 ^ 0 ≤ 1000) =>
    (show Calls Try.prog 48 #[.slice (some ⟨g, 0, none⟩) 16 c, .int .i64 4, .int .i64 0, .int .i64 3, .int .i64 1, .int .i64 ho, .int .i64 m] z _ from (crs_zero 4 c g lo 0 3) z F' ho m R L h hm))
  have C3 := Lib.hid (fun (z : World) (F' : List Int) (ho m : Nat) (R : Wr z lo 3 (some ⟨g, 0, none⟩) (F'.map (.int .i64))) (L : Hid (F'.length = 4 * 4)) (h : ho < 16) (hm : m + 5 ^ 0 ≤ 1000) =>
    (show Calls Try.prog 48 #[.slice (some ⟨g, 0, none⟩) 16 c, .int .i64 4, .int .i64 1, .int .i64 3, .int .i64 1, .int .i64 ho, .int .i64 m] z _ from (crs_zero 4 c g lo 1 3) z F' ho m R L h hm))
  clear R HL h1
  show Calls Try.prog 48 #[.slice (some ⟨g, 0, none⟩) 16 c, .int .i64 4, .int .i64 0, .int .i64 2, .int .i64 2, .int .i64 hole, .int .i64 n] w _
  go_enter Try.func48, Try.ntmps48
  go_wp2
  go_loopw [0, 6, 18] (fun v0 v6 i wr => ∃ q m : Nat, q ≤ 4 ∧ i = .int .i64 q ∧ v6 = .int .i64 m ∧ v0 = .slice (some ⟨g, 0, none⟩) 16 c ∧ LpS 4 0 0 2 hole g lo (F, (n : Int) + 1) n w q m wr) (fun _ _ i _ => 4 - (intOf i).toNat)
  case atStart => exact ⟨0, n + 1, by omega, rfl, by go_num, rfl, H0⟩
  case round =>
    clear H0
    obtain ⟨q, m, hq, rfl, rfl, rfl, H⟩ := hrel
    have hm := H.2.1
    rcases (show q = 0 ∨ q = 1 ∨ q = 2 ∨ q = 3 ∨ q = 4 from by omega) with rfl | rfl | rfl | rfl | rfl
    · have hle : m + 5 ^ 0 ≤ 1000 := by omega
      obtain ⟨⟨ov, k1⟩, k2⟩ := cells_ofS H.2.2.1 H.2.2.2.1.out (j := 8) (by decide)
      by_cases hin : (0 ≤ hx ∧ hx < 1) ∧ (2 ≤ hy ∧ hy < 3)
      · have hin' : (0 ≤ hole % 4 ∧ hole % 4 < 0 + 2 ^ 0) ∧ (2 ≤ hole / 4 ∧ hole / 4 < 2 + 2 ^ 0) := by rw [EX.out, EY.out]; exact hin
        have HIN := Lib.hid hin'
        obtain ⟨⟨i1, i2⟩, i3, i4⟩ := hin
        clear hin'
        go_wp2_with (first | (go_at_call 32; refine (l1in_t _ _ _ _ (by omega) (by omega)).mono ?_; rintro e w' ⟨rfl, rfl⟩))
        refine (C0.out _ _ hole m H.2.2.1 H.2.2.2.1 hho hle).mono ?_
        rintro e w5 ⟨⟨m', j1, j2, rfl, j3, j4⟩, j5⟩
        go_wp2
        go_roundw
        case rel => exact ⟨1, m', by omega, rfl, rfl, rfl, LpS.inn (X := 0) (Y := 2) rfl rfl HIN.out H j1 j2 j3 j4 j5⟩
        case measure => simp [intOf]
      · have hin' : ¬ ((0 ≤ hole % 4 ∧ hole % 4 < 0 + 2 ^ 0) ∧ (2 ≤ hole / 4 ∧ hole / 4 < 2 + 2 ^ 0)) := by rw [EX.out, EY.out]; exact hin
        have HIN := Lib.hid hin'
        clear hin'
        have R4 := H.2.2.1.putI 8 n
        have L4 : Hid (((crsQ 4 0 0 2 hole n (F, (n : Int) + 1) 0).1.set 8 n).length = 4 * 4) := by show _ = _; rw [List.length_set]; exact H.2.2.2.1.out
        have G4 : wr.grownBy (wr.setCell ⟨g, 8, none⟩ (.int .i64 n)) (some g) := gb_store (World.grownBy.refl _ _)
        by_cases ht : 0 ≤ hx ∧ hx < 1
        · obtain ⟨i1, i2⟩ := ht
          have i5 : hy < 2 ∨ 3 ≤ hy := by omega
          clear hin
          go_wp2_with (first | (go_at_call 32; refine (l1in_t _ _ _ _ (by omega) (by omega)).mono ?_; rintro e w' ⟨rfl, rfl⟩) | (go_at_call 32; refine (l1in_f _ _ _ _ (by omega)).mono ?_; rintro e w' ⟨rfl, rfl⟩))
          refine (C0.out _ _ 8 m R4 L4 (by decide) hle).mono ?_
          rintro e w5 ⟨⟨m', j1, j2, rfl, j3, j4⟩, j5⟩
          go_wp2
          go_roundw
          case rel => exact ⟨1, m', by omega, rfl, rfl, rfl, LpS.out (X := 0) (Y := 2) (J := 8) rfl rfl rfl HIN.out H G4 j1 j2 j3 j4 j5⟩
          case measure => simp [intOf]
        · have i5 : hx < 0 ∨ 1 ≤ hx := by omega
          clear hin ht
          go_wp2_with (first | (go_at_call 32; refine (l1in_f _ _ _ _ (by omega)).mono ?_; rintro e w' ⟨rfl, rfl⟩))
          refine (C0.out _ _ 8 m R4 L4 (by decide) hle).mono ?_
          rintro e w5 ⟨⟨m', j1, j2, rfl, j3, j4⟩, j5⟩
          go_wp2
          go_roundw
          case rel => exact ⟨1, m', by omega, rfl, rfl, rfl, LpS.out (X := 0) (Y := 2) (J := 8) rfl rfl rfl HIN.out H G4 j1 j2 j3 j4 j5⟩
          case measure => simp [intOf]
    · have hle : m + 5 ^ 0 ≤ 1000 := by omega
      obtain ⟨⟨ov, k1⟩, k2⟩ := cells_ofS H.2.2.1 H.2.2.2.1.out (j := 9) (by decide)
      by_cases hin : (1 ≤ hx ∧ hx < 2) ∧ (2 ≤ hy ∧ hy < 3)
      · have hin' : (1 ≤ hole % 4 ∧ hole % 4 < 1 + 2 ^ 0) ∧ (2 ≤ hole / 4 ∧ hole / 4 < 2 + 2 ^ 0) := by rw [EX.out, EY.out]; exact hin
        have HIN := Lib.hid hin'
        obtain ⟨⟨i1, i2⟩, i3, i4⟩ := hin
        clear hin'
        go_wp2_with (first | (go_at_call 32; refine (l1in_t _ _ _ _ (by omega) (by omega)).mono ?_; rintro e w' ⟨rfl, rfl⟩))
        refine (C1.out _ _ hole m H.2.2.1 H.2.2.2.1 hho hle).mono ?_
        rintro e w5 ⟨⟨m', j1, j2, rfl, j3, j4⟩, j5⟩
        go_wp2
        go_roundw
        case rel => exact ⟨2, m', by omega, rfl, rfl, rfl, LpS.inn (X := 1) (Y := 2) rfl rfl HIN.out H j1 j2 j3 j4 j5⟩
        case measure => simp [intOf]
      · have hin' : ¬ ((1 ≤ hole % 4 ∧ hole % 4 < 1 + 2 ^ 0) ∧ (2 ≤ hole / 4 ∧ hole / 4 < 2 + 2 ^ 0)) := by rw [EX.out, EY.out]; exact hin
        have HIN := Lib.hid hin'
        clear hin'
        have R4 := H.2.2.1.putI 9 n
        have L4 : Hid (((crsQ 4 0 0 2 hole n (F, (n : Int) + 1) 1).1.set 9 n).length = 4 * 4) := by show _ = _; rw [List.length_set]; exact H.2.2.2.1.out
        have G4 : wr.grownBy (wr.setCell ⟨g, 9, none⟩ (.int .i64 n)) (some g) := gb_store (World.grownBy.refl _ _)
        by_cases ht : 1 ≤ hx ∧ hx < 2
        · obtain ⟨i1, i2⟩ := ht
          have i5 : hy < 2 ∨ 3 ≤ hy := by omega
          clear hin
          go_wp2_with (first | (go_at_call 32; refine (l1in_t _ _ _ _ (by omega) (by omega)).mono ?_; rintro e w' ⟨rfl, rfl⟩) | (go_at_call 32; refine (l1in_f _ _ _ _ (by omega)).mono ?_; rintro e w' ⟨rfl, rfl⟩))
          refine (C1.out _ _ 9 m R4 L4 (by decide) hle).mono ?_
          rintro e w5 ⟨⟨m', j1, j2, rfl, j3, j4⟩, j5⟩
          go_wp2
          go_roundw
          case rel => exact ⟨2, m', by omega, rfl, rfl, rfl, LpS.out (X := 1) (Y := 2) (J := 9) rfl rfl rfl HIN.out H G4 j1 j2 j3 j4 j5⟩
          case measure => simp [intOf]
        · have i5 : hx < 1 ∨ 2 ≤ hx := by omega
          clear hin ht
          go_wp2_with (first | (go_at_call 32; refine (l1in_f _ _ _ _ (by omega)).mono ?_; rintro e w' ⟨rfl, rfl⟩))
          refine (C1.out _ _ 9 m R4 L4 (by decide) hle).mono ?_
          rintro e w5 ⟨⟨m', j1, j2, rfl, j3, j4⟩, j5⟩
          go_wp2
          go_roundw
          case rel => exact ⟨2, m', by omega, rfl, rfl, rfl, LpS.out (X := 1) (Y := 2) (J := 9) rfl rfl rfl HIN.out H G4 j1 j2 j3 j4 j5⟩
          case measure => simp [intOf]
    · have hle : m + 5 ^ 0 ≤ 1000 := by omega
      obtain ⟨⟨ov, k1⟩, k2⟩ := cells_ofS H.2.2.1 H.2.2.2.1.out (j := 12) (by decide)
      by_cases hin : (0 ≤ hx ∧ hx < 1) ∧ (3 ≤ hy ∧ hy < 4)
      · have hin' : (0 ≤ hole % 4 ∧ hole % 4 < 0 + 2 ^ 0) ∧ (3 ≤ hole / 4 ∧ hole / 4 < 3 + 2 ^ 0) := by rw [EX.out, EY.out]; exact hin
        have HIN := Lib.hid hin'
        obtain ⟨⟨i1, i2⟩, i3, i4⟩ := hin
        clear hin'
        go_wp2_with (first | (go_at_call 32; refine (l1in_t _ _ _ _ (by omega) (by omega)).mono ?_; rintro e w' ⟨rfl, rfl⟩))
        refine (C2.out _ _ hole m H.2.2.1 H.2.2.2.1 hho hle).mono ?_
        rintro e w5 ⟨⟨m', j1, j2, rfl, j3, j4⟩, j5⟩
        go_wp2
        go_roundw
        case rel => exact ⟨3, m', by omega, rfl, rfl, rfl, LpS.inn (X := 0) (Y := 3) rfl rfl HIN.out H j1 j2 j3 j4 j5⟩
        case measure => simp [intOf]
      · have hin' : ¬ ((0 ≤ hole % 4 ∧ hole % 4 < 0 + 2 ^ 0) ∧ (3 ≤ hole / 4 ∧ hole / 4 < 3 + 2 ^ 0)) := by rw [EX.out, EY.out]; exact hin
        have HIN := Lib.hid hin'
        clear hin'
        have R4 := H.2.2.1.putI 12 n
        have L4 : Hid (((crsQ 4 0 0 2 hole n (F, (n : Int) + 1) 2).1.set 12 n).length = 4 * 4) := by show _ = _; rw [List.length_set]; exact H.2.2.2.1.out
        have G4 : wr.grownBy (wr.setCell ⟨g, 12, none⟩ (.int .i64 n)) (some g) := gb_store (World.grownBy.refl _ _)
        by_cases ht : 0 ≤ hx ∧ hx < 1
        · obtain ⟨i1, i2⟩ := ht
          have i5 : hy < 3 ∨ 4 ≤ hy := by omega
          clear hin
          go_wp2_with (first | (go_at_call 32; refine (l1in_t _ _ _ _ (by omega) (by omega)).mono ?_; rintro e w' ⟨rfl, rfl⟩) | (go_at_call 32; refine (l1in_f _ _ _ _ (by omega)).mono ?_; rintro e w' ⟨rfl, rfl⟩))
          refine (C2.out _ _ 12 m R4 L4 (by decide) hle).mono ?_
          rintro e w5 ⟨⟨m', j1, j2, rfl, j3, j4⟩, j5⟩
          go_wp2
          go_roundw
          case rel => exact ⟨3, m', by omega, rfl, rfl, rfl, LpS.out (X := 0) (Y := 3) (J := 12) rfl rfl rfl HIN.out H G4 j1 j2 j3 j4 j5⟩
          case measure => simp [intOf]
        · have i5 : hx < 0 ∨ 1 ≤ hx := by omega
          clear hin ht
          go_wp2_with (first | (go_at_call 32; refine (l1in_f _ _ _ _ (by omega)).mono ?_; rintro e w' ⟨rfl, rfl⟩))
          refine (C2.out _ _ 12 m R4 L4 (by decide) hle).mono ?_
          rintro e w5 ⟨⟨m', j1, j2, rfl, j3, j4⟩, j5⟩
          go_wp2
          go_roundw
          case rel => exact ⟨3, m', by omega, rfl, rfl, rfl, LpS.out (X := 0) (Y := 3) (J := 12) rfl rfl rfl HIN.out H G4 j1 j2 j3 j4 j5⟩
          case measure => simp [intOf]
    · have hle : m + 5 ^ 0 ≤ 1000 := by omega
      obtain ⟨⟨ov, k1⟩, k2⟩ := cells_ofS H.2.2.1 H.2.2.2.1.out (j := 13) (by decide)
      by_cases hin : (1 ≤ hx ∧ hx < 2) ∧ (3 ≤ hy ∧ hy < 4)
      · have hin' : (1 ≤ hole % 4 ∧ hole % 4 < 1 + 2 ^ 0) ∧ (3 ≤ hole / 4 ∧ hole / 4 < 3 + 2 ^ 0) := by rw [EX.out, EY.out]; exact hin
        have HIN := Lib.hid hin'
        obtain ⟨⟨i1, i2⟩, i3, i4⟩ := hin
        clear hin'
        go_wp2_with (first | (go_at_call 32; refine (l1in_t _ _ _ _ (by omega) (by omega)).mono ?_; rintro e w' ⟨rfl, rfl⟩))
        refine (C3.out _ _ hole m H.2.2.1 H.2.2.2.1 hho hle).mono ?_
        rintro e w5 ⟨⟨m', j1, j2, rfl, j3, j4⟩, j5⟩
        go_wp2
        go_roundw
        case rel => exact ⟨4, m', by omega, rfl, rfl, rfl, LpS.inn (X := 1) (Y := 3) rfl rfl HIN.out H j1 j2 j3 j4 j5⟩
        case measure => simp [intOf]
      · have hin' : ¬ ((1 ≤ hole % 4 ∧ hole % 4 < 1 + 2 ^ 0) ∧ (3 ≤ hole / 4 ∧ hole / 4 < 3 + 2 ^ 0)) := by rw [EX.out, EY.out]; exact hin
        have HIN := Lib.hid hin'
        clear hin'
        have R4 := H.2.2.1.putI 13 n
        have L4 : Hid (((crsQ 4 0 0 2 hole n (F, (n : Int) + 1) 3).1.set 13 n).length = 4 * 4) := by show _ = _; rw [List.length_set]; exact H.2.2.2.1.out
        have G4 : wr.grownBy (wr.setCell ⟨g, 13, none⟩ (.int .i64 n)) (some g) := gb_store (World.grownBy.refl _ _)
        by_cases ht : 1 ≤ hx ∧ hx < 2
        · obtain ⟨i1, i2⟩ := ht
          have i5 : hy < 3 ∨ 4 ≤ hy := by omega
          clear hin
          go_wp2_with (first | (go_at_call 32; refine (l1in_t _ _ _ _ (by omega) (by omega)).mono ?_; rintro e w' ⟨rfl, rfl⟩) | (go_at_call 32; refine (l1in_f _ _ _ _ (by omega)).mono ?_; rintro e w' ⟨rfl, rfl⟩))
          refine (C3.out _ _ 13 m R4 L4 (by decide) hle).mono ?_
          rintro e w5 ⟨⟨m', j1, j2, rfl, j3, j4⟩, j5⟩
          go_wp2
          go_roundw
          case rel => exact ⟨4, m', by omega, rfl, rfl, rfl, LpS.out (X := 1) (Y := 3) (J := 13) rfl rfl rfl HIN.out H G4 j1 j2 j3 j4 j5⟩
          case measure => simp [intOf]
        · have i5 : hx < 1 ∨ 2 ≤ hx := by omega
          clear hin ht
          go_wp2_with (first | (go_at_call 32; refine (l1in_f _ _ _ _ (by omega)).mono ?_; rintro e w' ⟨rfl, rfl⟩))
          refine (C3.out _ _ 13 m R4 L4 (by decide) hle).mono ?_
          rintro e w5 ⟨⟨m', j1, j2, rfl, j3, j4⟩, j5⟩
          go_wp2
          go_roundw
          case rel => exact ⟨4, m', by omega, rfl, rfl, rfl, LpS.out (X := 1) (Y := 3) (J := 13) rfl rfl rfl HIN.out H G4 j1 j2 j3 j4 j5⟩
          case measure => simp [intOf]
    · go_wp2
      go_ret2
      obtain ⟨k1, k2, k3, k4, k5⟩ := H
      exact ⟨⟨m, k1, by omega, rfl, k3, k4⟩, k5⟩
set_option maxRecDepth 100000 in
set_option maxHeartbeats 4000000 in
theorem crs_4_1_2_2 (c g lo : Nat) : CrsOk 4 c g lo 1 2 2 := by
  intro w F hole n R HL h1 h2
  rw [crnS_eq]
  have z1 : (5 : Nat) ^ 1 = 5 * 5 ^ 0 := by decide
  have z2 : 1 ≤ (5 : Nat) ^ 0 := by decide
  have z3 : (5 : Nat) ^ 0 = 1 := by decide
  have hn : n ≤ 1000 := by omega
  obtain ⟨hx, ex⟩ : ∃ hx : Nat, hole % 4 = hx := ⟨_, rfl⟩
  obtain ⟨hy, ey⟩ : ∃ hy : Nat, hole / 4 = hy := ⟨_, rfl⟩
  have e1 : (hole : Int).tmod 4 = (hx : Int) := by rw [Int.tmod_eq_emod_of_nonneg (by omega)]; omega
  have e2 : (hole : Int) % 4 = (hx : Int) := by omega
  have e3 : (hole : Int).tdiv 4 = (hy : Int) := by rw [Int.tdiv_eq_ediv_of_nonneg (by omega)]; omega
  have e4 : (hole : Int) / 4 = (hy : Int) := by omega
  have hxs : hx < 4 := by omega
  have hys : hy < 4 := by omega
  have EX := Lib.hid ex
  have EY := Lib.hid ey
  have hho : hole < 16 := h1
  clear ex ey
  have H0 : LpS 4 0 2 2 hole g lo (F, (n : Int) + 1) n w 0 (n + 1) w := ⟨rfl, by omega, R, HL, World.grownBy.refl _ _⟩
  have C0 := Lib.hid (fun (z : World) (F' : List Int) (ho m : Nat) (R : Wr z lo 3 (some ⟨g, 0, none⟩) (F'.map (.int .i64))) (L : Hid (F'.length = 4 * 4)) (h : ho < 16) (hm : m + 5 ^ 0 ≤ 1000) =>
    (show Calls Try.prog 48 #[.slice (some ⟨g, 0, none⟩) 16 c, .int .i64 4, .int .i64 2, .int .i64 2, .int .i64 1, .int .i64 ho, .int .i64 m] z _ from (crs_zero 4 c g lo 2 2) z F' ho m R L h hm))
  have C1 := Lib.hid (fun (z : World) (F' : List Int) (ho m : Nat) (R : Wr z lo 3 (some ⟨g, 0, none⟩) (F'.map (.int .i64))) (L : Hid (F'.length = 4 * 4)) (h : ho < 16) (hm : m + 5 ^ 0 ≤ 1000) =>
    (show Calls Try.prog 48 #[.slice (some ⟨g, 0, none⟩) 16 c, .int .i64 4, .int .i64 3, .int .i64 2, .int .i64 1, .int .i64 ho, .int .i64 m] z _ from (crs_zero 4 c g lo 3 2) z F' ho m R L h hm))
  have C2 := Lib.hid (fun (z : World) (F' : List Int) (ho m : Nat) (R : Wr z lo 3 (some ⟨g, 0, none⟩) (F'.map (.int .i64))) (L : Hid (F'.length = 4 * 4)) (h : ho < 16) (hm : m + 5 ^ 0 ≤ 1000) =>
    (show Calls Try.prog 48 #[.slice (some ⟨g, 0, none⟩) 16 c, .int .i64 4, .int .i64 2, .int .i64 3, .int .i64 1, .int .i64 ho, .int .i64 m] z _ from (crs_zero 4 c g lo 2 3) z F' ho m R L h hm))
  have C3 := Lib.hid (fun (z : World) (F' : List Int) (ho m : Nat) (R : Wr z lo 3 (some ⟨g, 0, none⟩) (F'.map (.int .i64))) (L : Hid (F'.length = 4 * 4)) (h : ho < 16) (hm : m + 5 ^ 0 ≤ 1000) =>
    (show Calls Try.prog 48 #[.slice (some ⟨g, 0, none⟩) 16 c, .int .i64 4, .int .i64 3, .int .i64 3, .int .i64 1, .int .i64 ho, .int .i64 m] z _ from (crs_zero 4 c g lo 3 3) z F' ho m R L h hm))
  clear R HL h1
  show Calls Try.prog 48 #[.slice (some ⟨g, 0, none⟩) 16 c, .int .i64 4, .int .i64 2, .int .i64 2, .int .i64 2, .int .i64 hole, .int .i64 n] w _
  go_enter Try.func48, Try.ntmps48
  go_wp2
  go_loopw [0, 6, 18] (fun v0 v6 i wr => ∃ q m : Nat, q ≤ 4 ∧ i = .int .i64 q ∧ v6 = .int .i64 m ∧ v0 = .slice (some ⟨g, 0, none⟩) 16 c ∧ LpS 4 0 2 2 hole g lo (F, (n : Int) + 1) n w q m wr) (fun _ _ i _ => 4 - (intOf i).toNat)
  case atStart => exact ⟨0, n + 1, by omega, rfl, by go_num, rfl, H0⟩
  case round =>
    clear H0
    obtain ⟨q, m, hq, rfl, rfl, rfl, H⟩ := hrel
    have hm := H.2.1
    rcases (show q = 0 ∨ q = 1 ∨ q = 2 ∨ q = 3 ∨ q = 4 from by omega) with rfl | rfl | rfl | rfl | rfl
    · have hle : m + 5 ^ 0 ≤ 1000 := by omega
      obtain ⟨⟨ov, k1⟩, k2⟩ := cells_ofS H.2.2.1 H.2.2.2.1.out (j := 10) (by decide)
      by_cases hin : (2 ≤ hx ∧ hx < 3) ∧ (2 ≤ hy ∧ hy < 3)
      · have hin' : (2 ≤ hole % 4 ∧ hole % 4 < 2 + 2 ^ 0) ∧ (2 ≤ hole / 4 ∧ hole / 4 < 2 + 2 ^ 0) := by rw [EX.out, EY.out]; exact hin
        have HIN := Lib.hid hin'
        obtain ⟨⟨i1, i2⟩, i3, i4⟩ := hin
        clear hin'
        go_wp2_with (first | (go_at_call 32; refine (l1in_t _ _ _ _ (by omega) (by omega)).mono ?_; rintro e w' ⟨rfl, rfl⟩))
        refine (C0.out _ _ hole m H.2.2.1 H.2.2.2.1 hho hle).mono ?_
        rintro e w5 ⟨⟨m', j1, j2, rfl, j3, j4⟩, j5⟩
        go_wp2
        go_roundw
        case rel => exact ⟨1, m', by omega, rfl, rfl, rfl, LpS.inn (X := 2) (Y := 2) rfl rfl HIN.out H j1 j2 j3 j4 j5⟩
        case measure => simp [intOf]
      · have hin' : ¬ ((2 ≤ hole % 4 ∧ hole % 4 < 2 + 2 ^ 0) ∧ (2 ≤ hole / 4 ∧ hole / 4 < 2 + 2 ^ 0)) := by rw [EX.out, EY.out]; exact hin
        have HIN := Lib.hid hin'
        clear hin'
        have R4 := H.2.2.1.putI 10 n
        have L4 : Hid (((crsQ 4 0 2 2 hole n (F, (n : Int) + 1) 0).1.set 10 n).length = 4 * 4) := by show _ = _; rw [List.length_set]; exact H.2.2.2.1.out
        have G4 : wr.grownBy (wr.setCell ⟨g, 10, none⟩ (.int .i64 n)) (some g) := gb_store (World.grownBy.refl _ _)
        by_cases ht : 2 ≤ hx ∧ hx < 3
        · obtain ⟨i1, i2⟩ := ht
          have i5 : hy < 2 ∨ 3 ≤ hy := by omega
          clear hin
          go_wp2_with (first | (go_at_call 32; refine (l1in_t _ _ _ _ (by omega) (by omega)).mono ?_; rintro e w' ⟨rfl, rfl⟩) | (go_at_call 32; refine (l1in_f _ _ _ _ (by omega)).mono ?_; rintro e w' ⟨rfl, rfl⟩))
          refine (C0.out _ _ 10 m R4 L4 (by decide) hle).mono ?_
          rintro e w5 ⟨⟨m', j1, j2, rfl, j3, j4⟩, j5⟩
          go_wp2
          go_roundw
          case rel => exact ⟨1, m', by omega, rfl, rfl, rfl, LpS.out (X := 2) (Y := 2) (J := 10) rfl rfl rfl HIN.out H G4 j1 j2 j3 j4 j5⟩
          case measure => simp [intOf]
        · have i5 : hx < 2 ∨ 3 ≤ hx := by omega
          clear hin ht
          go_wp2_with (first | (go_at_call 32; refine (l1in_f _ _ _ _ (by omega)).mono ?_; rintro e w' ⟨rfl, rfl⟩))
          refine (C0.out _ _ 10 m R4 L4 (by decide) hle).mono ?_
          rintro e w5 ⟨⟨m', j1, j2, rfl, j3, j4⟩, j5⟩
          go_wp2
          go_roundw
          case rel => exact ⟨1, m', by omega, rfl, rfl, rfl, LpS.out (X := 2) (Y := 2) (J := 10) rfl rfl rfl HIN.out H G4 j1 j2 j3 j4 j5⟩
          case measure => simp [intOf]
    · have hle : m + 5 ^ 0 ≤ 1000 := by omega
      obtain ⟨⟨ov, k1⟩, k2⟩ := cells_ofS H.2.2.1 H.2.2.2.1.out (j := 11) (by decide)
      by_cases hin : (3 ≤ hx ∧ hx < 4) ∧ (2 ≤ hy ∧ hy < 3)
      · have hin' : (3 ≤ hole % 4 ∧ hole % 4 < 3 + 2 ^ 0) ∧ (2 ≤ hole / 4 ∧ hole / 4 < 2 + 2 ^ 0) := by rw [EX.out, EY.out]; exact hin
        have HIN := Lib.hid hin'
        obtain ⟨⟨i1, i2⟩, i3, i4⟩ := hin
        clear hin'
        go_wp2_with (first | (go_at_call 32; refine (l1in_t _ _ _ _ (by omega) (by omega)).mono ?_; rintro e w' ⟨rfl, rfl⟩))
        refine (C1.out _ _ hole m H.2.2.1 H.2.2.2.1 hho hle).mono ?_
        rintro e w5 ⟨⟨m', j1, j2, rfl, j3, j4⟩, j5⟩
        go_wp2
        go_roundw
        case rel => exact ⟨2, m', by omega, rfl, rfl, rfl, LpS.inn (X := 3) (Y := 2) rfl rfl HIN.out H j1 j2 j3 j4 j5⟩
        case measure => simp [intOf]
      · have hin' : ¬ ((3 ≤ hole % 4 ∧ hole % 4 < 3 + 2 ^ 0) ∧ (2 ≤ hole / 4 ∧ hole / 4 < 2 + 2 ^ 0)) := by rw [EX.out, EY.out]; exact hin
        have HIN := Lib.hid hin'
        clear hin'
        have R4 := H.2.2.1.putI 11 n
        have L4 : Hid (((crsQ 4 0 2 2 hole n (F, (n : Int) + 1) 1).1.set 11 n).length = 4 * 4) := by show _ = _; rw [List.length_set]; exact H.2.2.2.1.out
        have G4 : wr.grownBy (wr.setCell ⟨g, 11, none⟩ (.int .i64 n)) (some g) := gb_store (World.grownBy.refl _ _)
        by_cases ht : 3 ≤ hx ∧ hx < 4
        · obtain ⟨i1, i2⟩ := ht
          have i5 : hy < 2 ∨ 3 ≤ hy := by omega
          clear hin
          go_wp2_with (first | (go_at_call 32; refine (l1in_t _ _ _ _ (by omega) (by omega)).mono ?_; rintro e w' ⟨rfl, rfl⟩) | (go_at_call 32; refine (l1in_f _ _ _ _ (by omega)).mono ?_; rintro e w' ⟨rfl, rfl⟩))
          refine (C1.out _ _ 11 m R4 L4 (by decide) hle).mono ?_
          rintro e w5 ⟨⟨m', j1, j2, rfl, j3, j4⟩, j5⟩
          go_wp2
          go_roundw
          case rel => exact ⟨2, m', by omega, rfl, rfl, rfl, LpS.out (X := 3) (Y := 2) (J := 11) rfl rfl rfl HIN.out H G4 j1 j2 j3 j4 j5⟩
          case measure => simp [intOf]
        · have i5 : hx < 3 ∨ 4 ≤ hx := by omega
          clear hin ht
          go_wp2_with (first | (go_at_call 32; refine (l1in_f _ _ _ _ (by omega)).mono ?_; rintro e w' ⟨rfl, rfl⟩))
          refine (C1.out _ _ 11 m R4 L4 (by decide) hle).mono ?_
          rintro e w5 ⟨⟨m', j1, j2, rfl, j3, j4⟩, j5⟩
          go_wp2
          go_roundw
          case rel => exact ⟨2, m', by omega, rfl, rfl, rfl, LpS.out (X := 3) (Y := 2) (J := 11) rfl rfl rfl HIN.out H G4 j1 j2 j3 j4 j5⟩
          case measure => simp [intOf]
    · have hle : m + 5 ^ 0 ≤ 1000 := by omega
      obtain ⟨⟨ov, k1⟩, k2⟩ := cells_ofS H.2.2.1 H.2.2.2.1.out (j := 14) (by decide)
      by_cases hin : (2 ≤ hx ∧ hx < 3) ∧ (3 ≤ hy ∧ hy < 4)
      · have hin' : (2 ≤ hole % 4 ∧ hole % 4 < 2 + 2 ^ 0) ∧ (3 ≤ hole / 4 ∧ hole / 4 < 3 + 2 ^ 0) := by rw [EX.out, EY.out]; exact hin
        have HIN := Lib.hid hin'
        obtain ⟨⟨i1, i2⟩, i3, i4⟩ := hin
        clear hin'
        go_wp2_with (first | (go_at_call 32; refine (l1in_t _ _ _ _ (by omega) (by omega)).mono ?_; rintro e w' ⟨rfl, rfl⟩))
        refine (C2.out _ _ hole m H.2.2.1 H.2.2.2.1 hho hle).mono ?_
        rintro e w5 ⟨⟨m', j1, j2, rfl, j3, j4⟩, j5⟩
        go_wp2
        go_roundw
        case rel => exact ⟨3, m', by omega, rfl, rfl, rfl, LpS.inn (X := 2) (Y := 3) rfl rfl HIN.out H j1 j2 j3 j4 j5⟩
        case measure => simp [intOf]
      · have hin' : ¬ ((2 ≤ hole % 4 ∧ hole % 4 < 2 + 2 ^ 0) ∧ (3 ≤ hole / 4 ∧ hole / 4 < 3 + 2 ^ 0)) := by rw [EX.out, EY.out]; exact hin
        have HIN := Lib.hid hin'
        clear hin'
        have R4 := H.2.2.1.putI 14 n
        have L4 : Hid (((crsQ 4 0 2 2 hole n (F, (n : Int) + 1) 2).1.set 14 n).length = 4 * 4) := by show _ = _; rw [List.length_set]; exact H.2.2.2.1.out
        have G4 : wr.grownBy (wr.setCell ⟨g, 14, none⟩ (.int .i64 n)) (some g) := gb_store (World.grownBy.refl _ _)
        by_cases ht : 2 ≤ hx ∧ hx < 3
        · obtain ⟨i1, i2⟩ := ht
          have i5 : hy < 3 ∨ 4 ≤ hy := by omega
          clear hin
          go_wp2_with (first | (go_at_call 32; refine (l1in_t _ _ _ _ (by omega) (by omega)).mono ?_; rintro e w' ⟨rfl, rfl⟩) | (go_at_call 32; refine (l1in_f _ _ _ _ (by omega)).mono ?_; rintro e w' ⟨rfl, rfl⟩))
          refine (C2.out _ _ 14 m R4 L4 (by decide) hle).mono ?_
          rintro e w5 ⟨⟨m', j1, j2, rfl, j3, j4⟩, j5⟩
          go_wp2
          go_roundw
          case rel => exact ⟨3, m', by omega, rfl, rfl, rfl, LpS.out (X := 2) (Y := 3) (J := 14) rfl rfl rfl HIN.out H G4 j1 j2 j3 j4 j5⟩
          case measure => simp [intOf]
        · have i5 : hx < 2 ∨ 3 ≤ hx := by omega
          clear hin ht
          go_wp2_with (first | (go_at_call 32; refine (l1in_f _ _ _ _ (by omega)).mono ?_; rintro e w' ⟨rfl, rfl⟩))
          refine (C2.out _ _ 14 m R4 L4 (by decide) hle).mono ?_
          rintro e w5 ⟨⟨m', j1, j2, rfl, j3, j4⟩, j5⟩
          go_wp2
          go_roundw
          case rel => exact ⟨3, m', by omega, rfl, rfl, rfl, LpS.out (X := 2) (Y := 3) (J := 14) rfl rfl rfl HIN.out H G4 j1 j2 j3 j4 j5⟩
          case measure => simp [intOf]
    · have hle : m + 5 ^ 0 ≤ 1000 := by omega
      obtain ⟨⟨ov, k1⟩, k2⟩ := cells_ofS H.2.2.1 H.2.2.2.1.out (j := 15) (by decide)
      by_cases hin : (3 ≤ hx ∧ hx < 4) ∧ (3 ≤ hy ∧ hy < 4)
      · have hin' : (3 ≤ hole % 4 ∧ hole % 4 < 3 + 2 ^ 0) ∧ (3 ≤ hole / 4 ∧ hole / 4 < 3 + 2 ^ 0) := by rw [EX.out, EY.out]; exact hin
        have HIN := Lib.hid hin'
        obtain ⟨⟨i1, i2⟩, i3, i4⟩ := hin
        clear hin'
        go_wp2_with (first | (go_at_call 32; refine (l1in_t _ _ _ _ (by omega) (by omega)).mono ?_; rintro e w' ⟨rfl, rfl⟩))
        refine (C3.out _ _ hole m H.2.2.1 H.2.2.2.1 hho hle).mono ?_
        rintro e w5 ⟨⟨m', j1, j2, rfl, j3, j4⟩, j5⟩
        go_wp2
        go_roundw
        case rel => exact ⟨4, m', by omega, rfl, rfl, rfl, LpS.inn (X := 3) (Y := 3) rfl rfl HIN.out H j1 j2 j3 j4 j5⟩
        case measure => simp [intOf]
      · have hin' : ¬ ((3 ≤ hole % 4 ∧ hole % 4 < 3 + 2 ^ 0) ∧ (3 ≤ hole / 4 ∧ hole / 4 < 3 + 2 ^ 0)) := by rw [EX.out, EY.out]; exact hin
        have HIN := Lib.hid hin'
        clear hin'
        have R4 := H.2.2.1.putI 15 n
        have L4 : Hid (((crsQ 4 0 2 2 hole n (F, (n : Int) + 1) 3).1.set 15 n).length = 4 * 4) := by show _ = _; rw [List.length_set]; exact H.2.2.2.1.out
        have G4 : wr.grownBy (wr.setCell ⟨g, 15, none⟩ (.int .i64 n)) (some g) := gb_store (World.grownBy.refl _ _)
        by_cases ht : 3 ≤ hx ∧ hx < 4
        · obtain ⟨i1, i2⟩ := ht
          have i5 : hy < 3 ∨ 4 ≤ hy := by omega
          clear hin
          go_wp2_with (first | (go_at_call 32; refine (l1in_t _ _ _ _ (by omega) (by omega)).mono ?_; rintro e w' ⟨rfl, rfl⟩) | (go_at_call 32; refine (l1in_f _ _ _ _ (by omega)).mono ?_; rintro e w' ⟨rfl, rfl⟩))
          refine (C3.out _ _ 15 m R4 L4 (by decide) hle).mono ?_
          rintro e w5 ⟨⟨m', j1, j2, rfl, j3, j4⟩, j5⟩
          go_wp2
          go_roundw
          case rel => exact ⟨4, m', by omega, rfl, rfl, rfl, LpS.out (X := 3) (Y := 3) (J := 15) rfl rfl rfl HIN.out H G4 j1 j2 j3 j4 j5⟩
          case measure => simp [intOf]
        · have i5 : hx < 3 ∨ 4 ≤ hx := by omega
          clear hin ht
          go_wp2_with (first | (go_at_call 32; refine (l1in_f _ _ _ _ (by omega)).mono ?_; rintro e w' ⟨rfl, rfl⟩))
          refine (C3.out _ _ 15 m R4 L4 (by decide) hle).mono ?_
          rintro e w5 ⟨⟨m', j1, j2, rfl, j3, j4⟩, j5⟩
          go_wp2
          go_roundw
          case rel => exact ⟨4, m', by omega, rfl, rfl, rfl, LpS.out (X := 3) (Y := 3) (J := 15) rfl rfl rfl HIN.out H G4 j1 j2 j3 j4 j5⟩
          case measure => simp [intOf]
    · go_wp2
      go_ret2
      obtain ⟨k1, k2, k3, k4, k5⟩ := H
      exact ⟨⟨m, k1, by omega, rfl, k3, k4⟩, k5⟩
end Go.Proofs.Ytnignglhefcecaa

/- The reference's CornerFill at the squares side 4, level 2 at 0, 0. -/
namespace Go.Proofs.Ytnignglhefcecaa
open Go.RowKit

set_option maxRecDepth 100000 in
set_option maxHeartbeats 4000000 in
theorem crs_4_2_0_0 (c g lo : Nat) : CrsOk 4 c g lo 2 0 0 := by
  intro w F hole n R HL h1 h2
  rw [crnS_eq]
  have z1 : (5 : Nat) ^ 2 = 5 * 5 ^ 1 := by decide
  have z2 : 1 ≤ (5 : Nat) ^ 1 := by decide
  have z3 : (5 : Nat) ^ 1 = 5 := by decide
  have hn : n ≤ 1000 := by omega
  obtain ⟨hx, ex⟩ : ∃ hx : Nat, hole % 4 = hx := ⟨_, rfl⟩
  obtain ⟨hy, ey⟩ : ∃ hy : Nat, hole / 4 = hy := ⟨_, rfl⟩
  have e1 : (hole : Int).tmod 4 = (hx : Int) := by rw [Int.tmod_eq_emod_of_nonneg (by omega)]; omega
  have e2 : (hole : Int) % 4 = (hx : Int) := by omega
  have e3 : (hole : Int).tdiv 4 = (hy : Int) := by rw [Int.tdiv_eq_ediv_of_nonneg (by omega)]; omega
  have e4 : (hole : Int) / 4 = (hy : Int) := by omega
  have hxs : hx < 4 := by omega
  have hys : hy < 4 := by omega
  have EX := Lib.hid ex
  have EY := Lib.hid ey
  have hho : hole < 16 := h1
  clear ex ey
  have H0 : LpS 4 1 0 0 hole g lo (F, (n : Int) + 1) n w 0 (n + 1) w := ⟨rfl, by omega, R, HL, World.grownBy.refl _ _⟩
  have C0 := Lib.hid (fun (z : World) (F' : List Int) (ho m : Nat) (R : Wr z lo 3 (some ⟨g, 0, none⟩) (F'.map (.int .i64))) (L : Hid (F'.length = 4 * 4)) (h : ho < 16) (hm : m + 5 ^ 1 ≤ 1000) =>
    (show Calls Try.prog 48 #[.slice (some ⟨g, 0, none⟩) 16 c, .int .i64 4, .int .i64 0, .int .i64 0, .int .i64 2, .int .i64 ho, .int .i64 m] z _ from (crs_4_1_0_0 c g lo) z F' ho m R L h hm))
  have C1 := Lib.hid (fun (z : World) (F' : List Int) (ho m : Nat) (R : Wr z lo 3 (some ⟨g, 0, none⟩) (F'.map (.int .i64))) (L : Hid (F'.length = 4 * 4)) (h : ho < 16) (hm : m + 5 ^ 1 ≤ 1000) =>
    (show Calls Try.prog 48 #[.slice (some ⟨g, 0, none⟩) 16 c, .int .i64 4, .int .i64 2, .int .i64 0, .int .i64 2, .int .i64 ho, .int .i64 m] z _ from (crs_4_1_2_0 c g lo) z F' ho m R L h hm))
  have C2 := Lib.hid (fun (z : World) (F' : List Int) (ho m : Nat) (R : Wr z lo 3 (some ⟨g, 0, none⟩) (F'.map (.int .i64))) (L : Hid (F'.length = 4 * 4)) (h : ho < 16) (hm : m + 5 ^ 1 ≤ 1000) =>
    (show Calls Try.prog 48 #[.slice (some ⟨g, 0, none⟩) 16 c, .int .i64 4, .int .i64 0, .int .i64 2, .int .i64 2, .int .i64 ho, .int .i64 m] z _ from (crs_4_1_0_2 c g lo) z F' ho m R L h hm))
  have C3 := Lib.hid (fun (z : World) (F' : List Int) (ho m : Nat) (R : Wr z lo 3 (some ⟨g, 0, none⟩) (F'.map (.int .i64))) (L : Hid (F'.length = 4 * 4)) (h : ho < 16) (hm : m + 5 ^ 1 ≤ 1000) =>
    (show Calls Try.prog 48 #[.slice (some ⟨g, 0, none⟩) 16 c, .int .i64 4, .int .i64 2, .int .i64 2, .int .i64 2, .int .i64 ho, .int .i64 m] z _ from (crs_4_1_2_2 c g lo) z F' ho m R L h hm))
  clear R HL h1
  show Calls Try.prog 48 #[.slice (some ⟨g, 0, none⟩) 16 c, .int .i64 4, .int .i64 0, .int .i64 0, .int .i64 4, .int .i64 hole, .int .i64 n] w _
  go_enter Try.func48, Try.ntmps48
  go_wp2
  go_loopw [0, 6, 18] (fun v0 v6 i wr => ∃ q m : Nat, q ≤ 4 ∧ i = .int .i64 q ∧ v6 = .int .i64 m ∧ v0 = .slice (some ⟨g, 0, none⟩) 16 c ∧ LpS 4 1 0 0 hole g lo (F, (n : Int) + 1) n w q m wr) (fun _ _ i _ => 4 - (intOf i).toNat)
  case atStart => exact ⟨0, n + 1, by omega, rfl, by go_num, rfl, H0⟩
  case round =>
    clear H0
    obtain ⟨q, m, hq, rfl, rfl, rfl, H⟩ := hrel
    have hm := H.2.1
    rcases (show q = 0 ∨ q = 1 ∨ q = 2 ∨ q = 3 ∨ q = 4 from by omega) with rfl | rfl | rfl | rfl | rfl
    · have hle : m + 5 ^ 1 ≤ 1000 := by omega
      obtain ⟨⟨ov, k1⟩, k2⟩ := cells_ofS H.2.2.1 H.2.2.2.1.out (j := 5) (by decide)
      by_cases hin : (0 ≤ hx ∧ hx < 2) ∧ (0 ≤ hy ∧ hy < 2)
      · have hin' : (0 ≤ hole % 4 ∧ hole % 4 < 0 + 2 ^ 1) ∧ (0 ≤ hole / 4 ∧ hole / 4 < 0 + 2 ^ 1) := by rw [EX.out, EY.out]; exact hin
        have HIN := Lib.hid hin'
        obtain ⟨⟨i1, i2⟩, i3, i4⟩ := hin
        clear hin'
        go_wp2_with (first | (go_at_call 32; refine (l1in_t _ _ _ _ (by omega) (by omega)).mono ?_; rintro e w' ⟨rfl, rfl⟩))
        refine (C0.out _ _ hole m H.2.2.1 H.2.2.2.1 hho hle).mono ?_
        rintro e w5 ⟨⟨m', j1, j2, rfl, j3, j4⟩, j5⟩
        go_wp2
        go_roundw
        case rel => exact ⟨1, m', by omega, rfl, rfl, rfl, LpS.inn (X := 0) (Y := 0) rfl rfl HIN.out H j1 j2 j3 j4 j5⟩
        case measure => simp [intOf]
      · have hin' : ¬ ((0 ≤ hole % 4 ∧ hole % 4 < 0 + 2 ^ 1) ∧ (0 ≤ hole / 4 ∧ hole / 4 < 0 + 2 ^ 1)) := by rw [EX.out, EY.out]; exact hin
        have HIN := Lib.hid hin'
        clear hin'
        have R4 := H.2.2.1.putI 5 n
        have L4 : Hid (((crsQ 4 1 0 0 hole n (F, (n : Int) + 1) 0).1.set 5 n).length = 4 * 4) := by show _ = _; rw [List.length_set]; exact H.2.2.2.1.out
        have G4 : wr.grownBy (wr.setCell ⟨g, 5, none⟩ (.int .i64 n)) (some g) := gb_store (World.grownBy.refl _ _)
        by_cases ht : 0 ≤ hx ∧ hx < 2
        · obtain ⟨i1, i2⟩ := ht
          have i5 : hy < 0 ∨ 2 ≤ hy := by omega
          clear hin
          go_wp2_with (first | (go_at_call 32; refine (l1in_t _ _ _ _ (by omega) (by omega)).mono ?_; rintro e w' ⟨rfl, rfl⟩) | (go_at_call 32; refine (l1in_f _ _ _ _ (by omega)).mono ?_; rintro e w' ⟨rfl, rfl⟩))
          refine (C0.out _ _ 5 m R4 L4 (by decide) hle).mono ?_
          rintro e w5 ⟨⟨m', j1, j2, rfl, j3, j4⟩, j5⟩
          go_wp2
          go_roundw
          case rel => exact ⟨1, m', by omega, rfl, rfl, rfl, LpS.out (X := 0) (Y := 0) (J := 5) rfl rfl rfl HIN.out H G4 j1 j2 j3 j4 j5⟩
          case measure => simp [intOf]
        · have i5 : hx < 0 ∨ 2 ≤ hx := by omega
          clear hin ht
          go_wp2_with (first | (go_at_call 32; refine (l1in_f _ _ _ _ (by omega)).mono ?_; rintro e w' ⟨rfl, rfl⟩))
          refine (C0.out _ _ 5 m R4 L4 (by decide) hle).mono ?_
          rintro e w5 ⟨⟨m', j1, j2, rfl, j3, j4⟩, j5⟩
          go_wp2
          go_roundw
          case rel => exact ⟨1, m', by omega, rfl, rfl, rfl, LpS.out (X := 0) (Y := 0) (J := 5) rfl rfl rfl HIN.out H G4 j1 j2 j3 j4 j5⟩
          case measure => simp [intOf]
    · have hle : m + 5 ^ 1 ≤ 1000 := by omega
      obtain ⟨⟨ov, k1⟩, k2⟩ := cells_ofS H.2.2.1 H.2.2.2.1.out (j := 6) (by decide)
      by_cases hin : (2 ≤ hx ∧ hx < 4) ∧ (0 ≤ hy ∧ hy < 2)
      · have hin' : (2 ≤ hole % 4 ∧ hole % 4 < 2 + 2 ^ 1) ∧ (0 ≤ hole / 4 ∧ hole / 4 < 0 + 2 ^ 1) := by rw [EX.out, EY.out]; exact hin
        have HIN := Lib.hid hin'
        obtain ⟨⟨i1, i2⟩, i3, i4⟩ := hin
        clear hin'
        go_wp2_with (first | (go_at_call 32; refine (l1in_t _ _ _ _ (by omega) (by omega)).mono ?_; rintro e w' ⟨rfl, rfl⟩))
        refine (C1.out _ _ hole m H.2.2.1 H.2.2.2.1 hho hle).mono ?_
        rintro e w5 ⟨⟨m', j1, j2, rfl, j3, j4⟩, j5⟩
        go_wp2
        go_roundw
        case rel => exact ⟨2, m', by omega, rfl, rfl, rfl, LpS.inn (X := 2) (Y := 0) rfl rfl HIN.out H j1 j2 j3 j4 j5⟩
        case measure => simp [intOf]
      · have hin' : ¬ ((2 ≤ hole % 4 ∧ hole % 4 < 2 + 2 ^ 1) ∧ (0 ≤ hole / 4 ∧ hole / 4 < 0 + 2 ^ 1)) := by rw [EX.out, EY.out]; exact hin
        have HIN := Lib.hid hin'
        clear hin'
        have R4 := H.2.2.1.putI 6 n
        have L4 : Hid (((crsQ 4 1 0 0 hole n (F, (n : Int) + 1) 1).1.set 6 n).length = 4 * 4) := by show _ = _; rw [List.length_set]; exact H.2.2.2.1.out
        have G4 : wr.grownBy (wr.setCell ⟨g, 6, none⟩ (.int .i64 n)) (some g) := gb_store (World.grownBy.refl _ _)
        by_cases ht : 2 ≤ hx ∧ hx < 4
        · obtain ⟨i1, i2⟩ := ht
          have i5 : hy < 0 ∨ 2 ≤ hy := by omega
          clear hin
          go_wp2_with (first | (go_at_call 32; refine (l1in_t _ _ _ _ (by omega) (by omega)).mono ?_; rintro e w' ⟨rfl, rfl⟩) | (go_at_call 32; refine (l1in_f _ _ _ _ (by omega)).mono ?_; rintro e w' ⟨rfl, rfl⟩))
          refine (C1.out _ _ 6 m R4 L4 (by decide) hle).mono ?_
          rintro e w5 ⟨⟨m', j1, j2, rfl, j3, j4⟩, j5⟩
          go_wp2
          go_roundw
          case rel => exact ⟨2, m', by omega, rfl, rfl, rfl, LpS.out (X := 2) (Y := 0) (J := 6) rfl rfl rfl HIN.out H G4 j1 j2 j3 j4 j5⟩
          case measure => simp [intOf]
        · have i5 : hx < 2 ∨ 4 ≤ hx := by omega
          clear hin ht
          go_wp2_with (first | (go_at_call 32; refine (l1in_f _ _ _ _ (by omega)).mono ?_; rintro e w' ⟨rfl, rfl⟩))
          refine (C1.out _ _ 6 m R4 L4 (by decide) hle).mono ?_
          rintro e w5 ⟨⟨m', j1, j2, rfl, j3, j4⟩, j5⟩
          go_wp2
          go_roundw
          case rel => exact ⟨2, m', by omega, rfl, rfl, rfl, LpS.out (X := 2) (Y := 0) (J := 6) rfl rfl rfl HIN.out H G4 j1 j2 j3 j4 j5⟩
          case measure => simp [intOf]
    · have hle : m + 5 ^ 1 ≤ 1000 := by omega
      obtain ⟨⟨ov, k1⟩, k2⟩ := cells_ofS H.2.2.1 H.2.2.2.1.out (j := 9) (by decide)
      by_cases hin : (0 ≤ hx ∧ hx < 2) ∧ (2 ≤ hy ∧ hy < 4)
      · have hin' : (0 ≤ hole % 4 ∧ hole % 4 < 0 + 2 ^ 1) ∧ (2 ≤ hole / 4 ∧ hole / 4 < 2 + 2 ^ 1) := by rw [EX.out, EY.out]; exact hin
        have HIN := Lib.hid hin'
        obtain ⟨⟨i1, i2⟩, i3, i4⟩ := hin
        clear hin'
        go_wp2_with (first | (go_at_call 32; refine (l1in_t _ _ _ _ (by omega) (by omega)).mono ?_; rintro e w' ⟨rfl, rfl⟩))
        refine (C2.out _ _ hole m H.2.2.1 H.2.2.2.1 hho hle).mono ?_
        rintro e w5 ⟨⟨m', j1, j2, rfl, j3, j4⟩, j5⟩
        go_wp2
        go_roundw
        case rel => exact ⟨3, m', by omega, rfl, rfl, rfl, LpS.inn (X := 0) (Y := 2) rfl rfl HIN.out H j1 j2 j3 j4 j5⟩
        case measure => simp [intOf]
      · have hin' : ¬ ((0 ≤ hole % 4 ∧ hole % 4 < 0 + 2 ^ 1) ∧ (2 ≤ hole / 4 ∧ hole / 4 < 2 + 2 ^ 1)) := by rw [EX.out, EY.out]; exact hin
        have HIN := Lib.hid hin'
        clear hin'
        have R4 := H.2.2.1.putI 9 n
        have L4 : Hid (((crsQ 4 1 0 0 hole n (F, (n : Int) + 1) 2).1.set 9 n).length = 4 * 4) := by show _ = _; rw [List.length_set]; exact H.2.2.2.1.out
        have G4 : wr.grownBy (wr.setCell ⟨g, 9, none⟩ (.int .i64 n)) (some g) := gb_store (World.grownBy.refl _ _)
        by_cases ht : 0 ≤ hx ∧ hx < 2
        · obtain ⟨i1, i2⟩ := ht
          have i5 : hy < 2 ∨ 4 ≤ hy := by omega
          clear hin
          go_wp2_with (first | (go_at_call 32; refine (l1in_t _ _ _ _ (by omega) (by omega)).mono ?_; rintro e w' ⟨rfl, rfl⟩) | (go_at_call 32; refine (l1in_f _ _ _ _ (by omega)).mono ?_; rintro e w' ⟨rfl, rfl⟩))
          refine (C2.out _ _ 9 m R4 L4 (by decide) hle).mono ?_
          rintro e w5 ⟨⟨m', j1, j2, rfl, j3, j4⟩, j5⟩
          go_wp2
          go_roundw
          case rel => exact ⟨3, m', by omega, rfl, rfl, rfl, LpS.out (X := 0) (Y := 2) (J := 9) rfl rfl rfl HIN.out H G4 j1 j2 j3 j4 j5⟩
          case measure => simp [intOf]
        · have i5 : hx < 0 ∨ 2 ≤ hx := by omega
          clear hin ht
          go_wp2_with (first | (go_at_call 32; refine (l1in_f _ _ _ _ (by omega)).mono ?_; rintro e w' ⟨rfl, rfl⟩))
          refine (C2.out _ _ 9 m R4 L4 (by decide) hle).mono ?_
          rintro e w5 ⟨⟨m', j1, j2, rfl, j3, j4⟩, j5⟩
          go_wp2
          go_roundw
          case rel => exact ⟨3, m', by omega, rfl, rfl, rfl, LpS.out (X := 0) (Y := 2) (J := 9) rfl rfl rfl HIN.out H G4 j1 j2 j3 j4 j5⟩
          case measure => simp [intOf]
    · have hle : m + 5 ^ 1 ≤ 1000 := by omega
      obtain ⟨⟨ov, k1⟩, k2⟩ := cells_ofS H.2.2.1 H.2.2.2.1.out (j := 10) (by decide)
      by_cases hin : (2 ≤ hx ∧ hx < 4) ∧ (2 ≤ hy ∧ hy < 4)
      · have hin' : (2 ≤ hole % 4 ∧ hole % 4 < 2 + 2 ^ 1) ∧ (2 ≤ hole / 4 ∧ hole / 4 < 2 + 2 ^ 1) := by rw [EX.out, EY.out]; exact hin
        have HIN := Lib.hid hin'
        obtain ⟨⟨i1, i2⟩, i3, i4⟩ := hin
        clear hin'
        go_wp2_with (first | (go_at_call 32; refine (l1in_t _ _ _ _ (by omega) (by omega)).mono ?_; rintro e w' ⟨rfl, rfl⟩))
        refine (C3.out _ _ hole m H.2.2.1 H.2.2.2.1 hho hle).mono ?_
        rintro e w5 ⟨⟨m', j1, j2, rfl, j3, j4⟩, j5⟩
        go_wp2
        go_roundw
        case rel => exact ⟨4, m', by omega, rfl, rfl, rfl, LpS.inn (X := 2) (Y := 2) rfl rfl HIN.out H j1 j2 j3 j4 j5⟩
        case measure => simp [intOf]
      · have hin' : ¬ ((2 ≤ hole % 4 ∧ hole % 4 < 2 + 2 ^ 1) ∧ (2 ≤ hole / 4 ∧ hole / 4 < 2 + 2 ^ 1)) := by rw [EX.out, EY.out]; exact hin
        have HIN := Lib.hid hin'
        clear hin'
        have R4 := H.2.2.1.putI 10 n
        have L4 : Hid (((crsQ 4 1 0 0 hole n (F, (n : Int) + 1) 3).1.set 10 n).length = 4 * 4) := by show _ = _; rw [List.length_set]; exact H.2.2.2.1.out
        have G4 : wr.grownBy (wr.setCell ⟨g, 10, none⟩ (.int .i64 n)) (some g) := gb_store (World.grownBy.refl _ _)
        by_cases ht : 2 ≤ hx ∧ hx < 4
        · obtain ⟨i1, i2⟩ := ht
          have i5 : hy < 2 ∨ 4 ≤ hy := by omega
          clear hin
          go_wp2_with (first | (go_at_call 32; refine (l1in_t _ _ _ _ (by omega) (by omega)).mono ?_; rintro e w' ⟨rfl, rfl⟩) | (go_at_call 32; refine (l1in_f _ _ _ _ (by omega)).mono ?_; rintro e w' ⟨rfl, rfl⟩))
          refine (C3.out _ _ 10 m R4 L4 (by decide) hle).mono ?_
          rintro e w5 ⟨⟨m', j1, j2, rfl, j3, j4⟩, j5⟩
          go_wp2
          go_roundw
          case rel => exact ⟨4, m', by omega, rfl, rfl, rfl, LpS.out (X := 2) (Y := 2) (J := 10) rfl rfl rfl HIN.out H G4 j1 j2 j3 j4 j5⟩
          case measure => simp [intOf]
        · have i5 : hx < 2 ∨ 4 ≤ hx := by omega
          clear hin ht
          go_wp2_with (first | (go_at_call 32; refine (l1in_f _ _ _ _ (by omega)).mono ?_; rintro e w' ⟨rfl, rfl⟩))
          refine (C3.out _ _ 10 m R4 L4 (by decide) hle).mono ?_
          rintro e w5 ⟨⟨m', j1, j2, rfl, j3, j4⟩, j5⟩
          go_wp2
          go_roundw
          case rel => exact ⟨4, m', by omega, rfl, rfl, rfl, LpS.out (X := 2) (Y := 2) (J := 10) rfl rfl rfl HIN.out H G4 j1 j2 j3 j4 j5⟩
          case measure => simp [intOf]
    · go_wp2
      go_ret2
      obtain ⟨k1, k2, k3, k4, k5⟩ := H
      exact ⟨⟨m, k1, by omega, rfl, k3, k4⟩, k5⟩
end Go.Proofs.Ytnignglhefcecaa

/- Contract: the reference's CornerFill. -/
namespace Go.Proofs.Ytnignglhefcecaa
open Go.RowKit

/-- a new list that may be read, and whether it is one -/
def NewR2 (xs : List Int) (ok : Bool) (w : World) (e : Ending) (w' : World) : Prop :=
  ∃ (A : Option Addr) (c : Nat), e = .returned (.tuple #[.slice A xs.length c, .bool ok]) ∧ Rd w' A (xs.map (.int .i64)) ∧ Below w.heap.size w w'
def crsV (side : Nat) (f cell : Nat) : List Int := (crnS side f 0 0 cell (List.replicate (side * side) (-1), 0)).1
theorem gb_far0 {w0 w w' : World} {g : Nat} (h : Below w0.heap.size w0 w) (hg : w.grownBy w' (some g)) (hlt : w0.heap.size ≤ g) : Below w0.heap.size w0 w' :=
  h.grown hg h.size (fun k hk => by injection hk with hk; omega)
theorem repl_snoc (k : Nat) (v : Int) : List.replicate k v ++ [v] = List.replicate (k + 1) v := by rw [List.replicate_succ']
set_option maxRecDepth 100000 in
set_option maxHeartbeats 4000000 in
theorem sCorner_1 (cell : Nat) (hc : cell < 1) (w : World) :
    Calls Try.prog 19 #[.int .i64 1, .int .i64 cell] w (NewR2 (crsV 1 0 cell) true w) := by
  have CALL := Lib.hid (fun (z : World) (c g lo : Nat) (R : Wr z lo 3 (some ⟨g, 0, none⟩) ((List.replicate 1 (-1)).map (.int .i64))) =>
    (show Calls Try.prog 48 #[.slice (some ⟨g, 0, none⟩) 1 c, .int .i64 1, .int .i64 0, .int .i64 0, .int .i64 1, .int .i64 cell, .int .i64 0] z _ from
      (crs_zero _ _ _ _ _ _) z (List.replicate 1 (-1)) cell 0 R (by show _ = _; simp) hc (by decide)))
  have VEQ := Lib.hid (show (crnS 1 0 0 0 cell (List.replicate 1 (-1), ((0 : Nat) : Int))).1 = crsV 1 0 cell from rfl)
  have B0 := bl_alloc (Below.refl w.heap.size w) (.cells #[] 3)
  have O0 := OwnI.empty w
  have hz0 : w.heap.size + 1 ≤ (w.alloc (.cells #[] 3)).heap.size := by simp
  go_enter Try.func19, Try.ntmps19
  go_wp2_with (go_at_call 32; refine (l1in_t _ _ _ _ (by omega) (by omega)).mono ?_; rintro e w' ⟨rfl, rfl⟩)
  generalize w.alloc (.cells #[] 3) = wa at *
  go_loopw [6, 7] (fun v i wr => ∃ k : Nat, k ≤ 1 ∧ i = .int .i64 k ∧ OwnI wr w.heap.size v (List.replicate k (-1)) ∧ Below w.heap.size w wr) (fun _ i _ => 1 - (intOf i).toNat)
  case atStart => exact ⟨0, Nat.zero_le _, rfl, O0, B0⟩
  case round =>
    clear O0 B0 hz0
    obtain ⟨k, hk, rfl, hown, B1⟩ := hrel
    have hsz := B1.size
    by_cases hlt : k < 1
    · have hln : (List.replicate k (-1 : Int)).length = k := by simp
      have HS := Lib.hid (repl_snoc k (-1))
      have hl2 : (List.replicate k (-1 : Int)).length ≤ 1000000000000 := by omega
      have HLN := Lib.hid hln
      clear hln
      go_wp2_with (at_builtin; refine app_int _ rfl _ _ rfl w.heap.size _ _ rfl hown _ rfl hl2 hsz ?_; intro A' c' w3 hown3 hg3)
      have b3 := app_below B1 (Nat.le_refl _) hsz hown hg3
      rw [HLN.out] at hown3
      exact ⟨⟨k + 1, by omega, by go_num, by rw [← HS.out]; exact hown3, b3⟩, by simp [intOf]; omega⟩
    · obtain rfl : k = 1 := by omega
      obtain ⟨A, c, rfl, ho⟩ := hown
      have hw := Wr.of_own ho
      obtain ⟨g, rfl, hg1, -⟩ := hw.form (by simp)
      simp only [List.length_replicate]
      go_wp2_with fail
      refine (CALL.out _ _ _ _ hw).mono ?_
      rintro e w5 ⟨⟨m, -, -, rfl, R5, L5⟩, G5⟩
      rw [VEQ.out] at R5 L5
      go_wp2
      go_ret2
      exact ⟨some ⟨g, 0, none⟩, c, by rw [show (crsV 1 0 cell).length = 1 from L5.out]; rfl, R5.rd, gb_far0 B1 G5 hg1⟩
set_option maxRecDepth 100000 in
set_option maxHeartbeats 4000000 in
theorem sCorner_2 (cell : Nat) (hc : cell < 4) (w : World) :
    Calls Try.prog 19 #[.int .i64 2, .int .i64 cell] w (NewR2 (crsV 2 1 cell) true w) := by
  have CALL := Lib.hid (fun (z : World) (c g lo : Nat) (R : Wr z lo 3 (some ⟨g, 0, none⟩) ((List.replicate 4 (-1)).map (.int .i64))) =>
    (show Calls Try.prog 48 #[.slice (some ⟨g, 0, none⟩) 4 c, .int .i64 2, .int .i64 0, .int .i64 0, .int .i64 2, .int .i64 cell, .int .i64 0] z _ from
      (crs_2_1_0_0 _ _ _) z (List.replicate 4 (-1)) cell 0 R (by show _ = _; simp) hc (by decide)))
  have VEQ := Lib.hid (show (crnS 2 1 0 0 cell (List.replicate 4 (-1), ((0 : Nat) : Int))).1 = crsV 2 1 cell from rfl)
  have B0 := bl_alloc (Below.refl w.heap.size w) (.cells #[] 3)
  have O0 := OwnI.empty w
  have hz0 : w.heap.size + 1 ≤ (w.alloc (.cells #[] 3)).heap.size := by simp
  go_enter Try.func19, Try.ntmps19
  go_wp2_with (go_at_call 32; refine (l1in_t _ _ _ _ (by omega) (by omega)).mono ?_; rintro e w' ⟨rfl, rfl⟩)
  generalize w.alloc (.cells #[] 3) = wa at *
  go_loopw [6, 7] (fun v i wr => ∃ k : Nat, k ≤ 4 ∧ i = .int .i64 k ∧ OwnI wr w.heap.size v (List.replicate k (-1)) ∧ Below w.heap.size w wr) (fun _ i _ => 4 - (intOf i).toNat)
  case atStart => exact ⟨0, Nat.zero_le _, rfl, O0, B0⟩
  case round =>
    clear O0 B0 hz0
    obtain ⟨k, hk, rfl, hown, B1⟩ := hrel
    have hsz := B1.size
    by_cases hlt : k < 4
    · have hln : (List.replicate k (-1 : Int)).length = k := by simp
      have HS := Lib.hid (repl_snoc k (-1))
      have hl2 : (List.replicate k (-1 : Int)).length ≤ 1000000000000 := by omega
      have HLN := Lib.hid hln
      clear hln
      go_wp2_with (at_builtin; refine app_int _ rfl _ _ rfl w.heap.size _ _ rfl hown _ rfl hl2 hsz ?_; intro A' c' w3 hown3 hg3)
      have b3 := app_below B1 (Nat.le_refl _) hsz hown hg3
      rw [HLN.out] at hown3
      exact ⟨⟨k + 1, by omega, by go_num, by rw [← HS.out]; exact hown3, b3⟩, by simp [intOf]; omega⟩
    · obtain rfl : k = 4 := by omega
      obtain ⟨A, c, rfl, ho⟩ := hown
      have hw := Wr.of_own ho
      obtain ⟨g, rfl, hg1, -⟩ := hw.form (by simp)
      simp only [List.length_replicate]
      go_wp2_with fail
      refine (CALL.out _ _ _ _ hw).mono ?_
      rintro e w5 ⟨⟨m, -, -, rfl, R5, L5⟩, G5⟩
      rw [VEQ.out] at R5 L5
      go_wp2
      go_ret2
      exact ⟨some ⟨g, 0, none⟩, c, by rw [show (crsV 2 1 cell).length = 4 from L5.out]; rfl, R5.rd, gb_far0 B1 G5 hg1⟩
set_option maxRecDepth 100000 in
set_option maxHeartbeats 4000000 in
theorem sCorner_4 (cell : Nat) (hc : cell < 16) (w : World) :
    Calls Try.prog 19 #[.int .i64 4, .int .i64 cell] w (NewR2 (crsV 4 2 cell) true w) := by
  have CALL := Lib.hid (fun (z : World) (c g lo : Nat) (R : Wr z lo 3 (some ⟨g, 0, none⟩) ((List.replicate 16 (-1)).map (.int .i64))) =>
    (show Calls Try.prog 48 #[.slice (some ⟨g, 0, none⟩) 16 c, .int .i64 4, .int .i64 0, .int .i64 0, .int .i64 4, .int .i64 cell, .int .i64 0] z _ from
      (crs_4_2_0_0 _ _ _) z (List.replicate 16 (-1)) cell 0 R (by show _ = _; simp) hc (by decide)))
  have VEQ := Lib.hid (show (crnS 4 2 0 0 cell (List.replicate 16 (-1), ((0 : Nat) : Int))).1 = crsV 4 2 cell from rfl)
  have B0 := bl_alloc (Below.refl w.heap.size w) (.cells #[] 3)
  have O0 := OwnI.empty w
  have hz0 : w.heap.size + 1 ≤ (w.alloc (.cells #[] 3)).heap.size := by simp
  go_enter Try.func19, Try.ntmps19
  go_wp2_with (go_at_call 32; refine (l1in_t _ _ _ _ (by omega) (by omega)).mono ?_; rintro e w' ⟨rfl, rfl⟩)
  generalize w.alloc (.cells #[] 3) = wa at *
  go_loopw [6, 7] (fun v i wr => ∃ k : Nat, k ≤ 16 ∧ i = .int .i64 k ∧ OwnI wr w.heap.size v (List.replicate k (-1)) ∧ Below w.heap.size w wr) (fun _ i _ => 16 - (intOf i).toNat)
  case atStart => exact ⟨0, Nat.zero_le _, rfl, O0, B0⟩
  case round =>
    clear O0 B0 hz0
    obtain ⟨k, hk, rfl, hown, B1⟩ := hrel
    have hsz := B1.size
    by_cases hlt : k < 16
    · have hln : (List.replicate k (-1 : Int)).length = k := by simp
      have HS := Lib.hid (repl_snoc k (-1))
      have hl2 : (List.replicate k (-1 : Int)).length ≤ 1000000000000 := by omega
      have HLN := Lib.hid hln
      clear hln
      go_wp2_with (at_builtin; refine app_int _ rfl _ _ rfl w.heap.size _ _ rfl hown _ rfl hl2 hsz ?_; intro A' c' w3 hown3 hg3)
      have b3 := app_below B1 (Nat.le_refl _) hsz hown hg3
      rw [HLN.out] at hown3
      exact ⟨⟨k + 1, by omega, by go_num, by rw [← HS.out]; exact hown3, b3⟩, by simp [intOf]; omega⟩
    · obtain rfl : k = 16 := by omega
      obtain ⟨A, c, rfl, ho⟩ := hown
      have hw := Wr.of_own ho
      obtain ⟨g, rfl, hg1, -⟩ := hw.form (by simp)
      simp only [List.length_replicate]
      go_wp2_with fail
      refine (CALL.out _ _ _ _ hw).mono ?_
      rintro e w5 ⟨⟨m, -, -, rfl, R5, L5⟩, G5⟩
      rw [VEQ.out] at R5 L5
      go_wp2
      go_ret2
      exact ⟨some ⟨g, 0, none⟩, c, by rw [show (crsV 4 2 cell).length = 16 from L5.out]; rfl, R5.rd, gb_far0 B1 G5 hg1⟩
set_option maxHeartbeats 1000000 in
theorem sCorner_no (side cell : Int) (h : ¬ ((side = 1 ∨ side = 2 ∨ side = 4) ∧ 0 ≤ cell ∧ cell < side * side)) (w : World) :
    Calls Try.prog 19 #[.int .i64 side, .int .i64 cell] w (NewR2 [] false w) := by
  have B1 := bl_alloc (Below.refl w.heap.size w) (.cells #[] 3)
  by_cases hs : side = 1 ∨ side = 2 ∨ side = 4
  · have hcell : cell < 0 ∨ side * side ≤ cell := by
      rcases Int.lt_or_le cell 0 with h1 | h1
      · exact .inl h1
      · rcases Int.lt_or_le cell (side * side) with h2 | h2
        · exact absurd ⟨hs, h1, h2⟩ h
        · exact .inr h2
    clear h
    rcases hs with rfl | rfl | rfl
    all_goals
      go_enter Try.func19, Try.ntmps19
      go_wp2_with (go_at_call 32; refine (l1in_f _ _ _ _ (by omega)).mono ?_; rintro e w' ⟨rfl, rfl⟩)
      go_ret2
      exact ⟨_, 0, rfl, Rd.nil _ _, B1⟩
  · have n1 : (side != 1) = true := by simp; omega
    have n2 : (side != 2) = true := by simp; omega
    have n4 : (side != 4) = true := by simp; omega
    clear h hs
    go_enter Try.func19, Try.ntmps19
    go_wp2
    go_ret2
    exact ⟨_, 0, rfl, Rd.nil _ _, B1⟩
end Go.Proofs.Ytnignglhefcecaa
