/- Contract: the reference's CornerFill, the square. -/
import Derived.Test.YtnciemnlnijhfaaCornN
import Derived.Test.YtnciemnlnijhfaaMemE
import Derived.Test.YtnciemnlnijhfaaGb
namespace Go.Proofs.Ytnciemnlnijhfaa
open Go.RowKit

def CrsOk (side c g lo f x y : Nat) : Prop :=
  ∀ (w : World) (F : List Int) (hole n : Nat), Wr w lo 3 (some ⟨g, 0, none⟩) (F.map (.int .i64)) → Hid (F.length = side * side) → hole < side * side → n + 5 ^ f ≤ 1000 →
    Calls Try.prog 81 #[.slice (some ⟨g, 0, none⟩) (side * side) c, .int .i64 side, .int .i64 x, .int .i64 y, .int .i64 ((2 ^ f : Nat) : Int), .int .i64 hole, .int .i64 n] w
      fun e w' => (∃ m : Nat, (crnS side f x y hole (F, n)).2 = m ∧ m ≤ n + 5 ^ f ∧ e = .returned (.tuple #[.slice (some ⟨g, 0, none⟩) (side * side) c, .int .i64 m]) ∧ Wr w' lo 3 (some ⟨g, 0, none⟩) ((crnS side f x y hole (F, n)).1.map (.int .i64)) ∧ Hid ((crnS side f x y hole (F, n)).1.length = side * side)) ∧ w.grownBy w' (some g)
set_option maxHeartbeats 1000000 in
theorem crs_zero (side c g lo x y : Nat) : CrsOk side c g lo 0 x y := by
  intro w F hole n R HL h1 h2
  have e0 : (((2 ^ 0 : Nat) : Int) == 1) = true := by decide
  generalize ((2 ^ 0 : Nat) : Int) = l at *
  go_enter Try.func81, Try.ntmps81
  go_wp2
  go_ret2
  exact ⟨⟨n, rfl, by omega, rfl, R, HL⟩, World.grownBy.refl _ _⟩
/-- one quarter -/
def crsB (side f x y hole : Nat) (v : Int) (s : List Int × Int) (q : Nat) : List Int × Int :=
  if (x + q % 2 * 2 ^ f ≤ hole % side ∧ hole % side < x + q % 2 * 2 ^ f + 2 ^ f) ∧ (y + q / 2 * 2 ^ f ≤ hole / side ∧ hole / side < y + q / 2 * 2 ^ f + 2 ^ f)
  then crnS side f (x + q % 2 * 2 ^ f) (y + q / 2 * 2 ^ f) hole s
  else crnS side f (x + q % 2 * 2 ^ f) (y + q / 2 * 2 ^ f) ((y + 2 ^ f - 1 + q / 2) * side + (x + 2 ^ f - 1 + q % 2)) (s.1.set ((y + 2 ^ f - 1 + q / 2) * side + (x + 2 ^ f - 1 + q % 2)) v, s.2)
def crsQ (side f x y hole : Nat) (v : Int) (s : List Int × Int) (q : Nat) : List Int × Int := (List.range q).foldl (crsB side f x y hole v) s
theorem crsQ_step (side f x y hole : Nat) (v : Int) (s : List Int × Int) (q : Nat) : crsQ side f x y hole v s (q + 1) = crsB side f x y hole v (crsQ side f x y hole v s q) q := by
  unfold crsQ; rw [List.range_succ, List.foldl_append]; rfl
theorem crnS_eq (side f x y hole : Nat) (F : List Int) (n : Int) : crnS side (f + 1) x y hole (F, n) = crsQ side f x y hole n (F, n + 1) 4 := rfl
/-- q quarters are filled -/
def LpS (side f x y hole g lo : Nat) (s : List Int × Int) (n : Nat) (w : World) (q m : Nat) (wr : World) : Prop :=
  (crsQ side f x y hole n s q).2 = m ∧ m ≤ n + 1 + q * 5 ^ f ∧ Wr wr lo 3 (some ⟨g, 0, none⟩) ((crsQ side f x y hole n s q).1.map (.int .i64)) ∧ Hid ((crsQ side f x y hole n s q).1.length = side * side) ∧ w.grownBy wr (some g)
theorem LpS.inn {side f x y hole g lo n q m X Y : Nat} {s : List Int × Int} {w wr w5 : World} (hX : x + q % 2 * 2 ^ f = X) (hY : y + q / 2 * 2 ^ f = Y)
    (hin : (X ≤ hole % side ∧ hole % side < X + 2 ^ f) ∧ (Y ≤ hole / side ∧ hole / side < Y + 2 ^ f)) (H : LpS side f x y hole g lo s n w q m wr) {m' : Nat}
    (e : (crnS side f X Y hole ((crsQ side f x y hole n s q).1, (m : Int))).2 = m') (hl : m' ≤ m + 5 ^ f) (R : Wr w5 lo 3 (some ⟨g, 0, none⟩) ((crnS side f X Y hole ((crsQ side f x y hole n s q).1, (m : Int))).1.map (.int .i64)))
    (L : Hid ((crnS side f X Y hole ((crsQ side f x y hole n s q).1, (m : Int))).1.length = side * side)) (G : wr.grownBy w5 (some g)) : LpS side f x y hole g lo s n w (q + 1) m' w5 := by
  obtain ⟨h1, h2, h3, h4, h5⟩ := H
  have e0 : ((crsQ side f x y hole n s q).1, (m : Int)) = crsQ side f x y hole n s q := by rw [← h1]
  have e1 : crsQ side f x y hole n s (q + 1) = crnS side f X Y hole (crsQ side f x y hole n s q) := by
    rw [crsQ_step]; unfold crsB; rw [hX, hY, if_pos hin]
  rw [e0] at e R L
  exact ⟨by rw [e1]; exact e, by rw [Nat.succ_mul]; omega, by rw [e1]; exact R, by rw [e1]; exact L, grownBy_trans' h5 G⟩
theorem LpS.out {side f x y hole g lo n q m X Y J : Nat} {s : List Int × Int} {w wr w4 w5 : World} (hX : x + q % 2 * 2 ^ f = X) (hY : y + q / 2 * 2 ^ f = Y) (hJ : (y + 2 ^ f - 1 + q / 2) * side + (x + 2 ^ f - 1 + q % 2) = J)
    (hin : ¬ ((X ≤ hole % side ∧ hole % side < X + 2 ^ f) ∧ (Y ≤ hole / side ∧ hole / side < Y + 2 ^ f))) (H : LpS side f x y hole g lo s n w q m wr) (G0 : wr.grownBy w4 (some g)) {m' : Nat}
    (e : (crnS side f X Y J ((crsQ side f x y hole n s q).1.set J n, (m : Int))).2 = m') (hl : m' ≤ m + 5 ^ f) (R : Wr w5 lo 3 (some ⟨g, 0, none⟩) ((crnS side f X Y J ((crsQ side f x y hole n s q).1.set J n, (m : Int))).1.map (.int .i64)))
    (L : Hid ((crnS side f X Y J ((crsQ side f x y hole n s q).1.set J n, (m : Int))).1.length = side * side)) (G : w4.grownBy w5 (some g)) : LpS side f x y hole g lo s n w (q + 1) m' w5 := by
  obtain ⟨h1, h2, h3, h4, h5⟩ := H
  have e1 : crsQ side f x y hole n s (q + 1) = crnS side f X Y J ((crsQ side f x y hole n s q).1.set J n, (m : Int)) := by
    rw [crsQ_step]; unfold crsB; rw [hX, hY, hJ, if_neg hin, h1]
  exact ⟨by rw [e1]; exact e, by rw [Nat.succ_mul]; omega, by rw [e1]; exact R, by rw [e1]; exact L, grownBy_trans' h5 (grownBy_trans' G0 G)⟩
theorem cells_ofS {w : World} {g N : Nat} {F : List Int} {lo : Nat} (h : Wr w lo 3 (some ⟨g, 0, none⟩) (F.map (.int .i64))) (hl : F.length = N) {j : Nat} (hj : j < N) : (∃ ov, w.cell? ⟨g, j, none⟩ = some ov) ∧ w.frozen? ⟨g, j, none⟩ = false := by
  have hne : F.map (Value.int .i64) ≠ [] := by intro e; have := congrArg List.length e; rw [List.length_map, hl] at this; simp at this; omega
  obtain ⟨g', e, -, -, hf⟩ := h.form hne
  injection e with e; injection e with e; subst e
  have := h.rd.cellEM (k := j) (by rw [hl]; exact hj)
  rw [Nat.zero_add] at this
  exact ⟨⟨_, this⟩, hf j⟩
theorem Wr.putI {w : World} {g lo : Nat} {F : List Int} (h : Wr w lo 3 (some ⟨g, 0, none⟩) (F.map (.int .i64))) (j : Nat) (v : Int) : Wr (w.setCell ⟨g, j, none⟩ (.int .i64 v)) lo 3 (some ⟨g, 0, none⟩) ((F.set j v).map (.int .i64)) := by
  rw [List.map_set]; exact h.store j _
end Go.Proofs.Ytnciemnlnijhfaa
