
/- The region of a piece, plainly. -/
import Derived.Test.YtohbnogmeldmpaaMoveN
namespace Go.Proofs.Ytohbnogmeldmpaa
open Go.RowKit

/-- one past the greatest column and row of the first k -/
def hiK (ps : List Ce) (k : Nat) : Ce := (ps.take k).foldl (fun m c => (max m.1 (c.1 + 1), max m.2 (c.2 + 1))) (0, 0)
theorem hiK_zero (ps : List Ce) : hiK ps 0 = (0, 0) := rfl
theorem hiK_step (ps : List Ce) (k : Nat) (h : k < ps.length) : hiK ps (k + 1) = (max (hiK ps k).1 (ps[k].1 + 1), max (hiK ps k).2 (ps[k].2 + 1)) := by
  unfold hiK; rw [take_one_more ps k h, List.foldl_append]; rfl
/-- between 0 and b -/
def upBd (b : Int) (q : Ce) : Prop := 0 ≤ q.1 ∧ q.1 ≤ b ∧ 0 ≤ q.2 ∧ q.2 ≤ b
theorem hiK_bd {b : Int} {ps : List Ce} (hb : 0 ≤ b) (h : ∀ c ∈ ps, upBd b c) {k : Nat} (hk : k ≤ ps.length) : upBd (b + 1) (hiK ps k) := by
  induction k with
  | zero => rw [hiK_zero]; unfold upBd; simp only; omega
  | succ k ih =>
    have h1 := ih (by omega)
    have h2 := h ps[k] (List.getElem_mem (by omega))
    rw [hiK_step ps k (by omega)]
    unfold upBd at *
    simp only
    omega
theorem hiK_le {ps : List Ce} {k : Nat} (hk : k ≤ ps.length) : ∀ c ∈ ps.take k, c.1 < (hiK ps k).1 ∧ c.2 < (hiK ps k).2 := by
  induction k with
  | zero => intro c hc; simp at hc
  | succ k ih =>
    intro c hc
    rw [take_one_more ps k (by omega)] at hc
    rw [hiK_step ps k (by omega)]
    rcases List.mem_append.1 hc with h | h
    · have := ih (by omega) c h
      simp only
      omega
    · simp at h
      subst h
      simp only
      omega
def hiP (ps : List Ce) : Ce := hiK ps ps.length
theorem hiP_lt (ps : List Ce) : ∀ c ∈ ps, c.1 < (hiP ps).1 ∧ c.2 < (hiP ps).2 := fun c hc => hiK_le (Nat.le_refl _) c (by rw [List.take_length]; exact hc)
theorem hiP_nil : hiP [] = (0, 0) := rfl
/-- the field with the first k cells set -/
def fillK (W : Int) (n : Nat) (ps : List Ce) (k : Nat) : List Bool := (ps.take k).foldl (fun B c => B.set (c.2 * W + c.1).toNat true) (List.replicate n false)
theorem fillK_zero (W : Int) (n : Nat) (ps : List Ce) : fillK W n ps 0 = List.replicate n false := rfl
theorem fillK_step (W : Int) (n : Nat) (ps : List Ce) (k : Nat) (h : k < ps.length) : fillK W n ps (k + 1) = (fillK W n ps k).set (ps[k].2 * W + ps[k].1).toNat true := by
  unfold fillK; rw [take_one_more ps k h, List.foldl_append]; rfl
theorem fillK_len (W : Int) (n : Nat) (ps : List Ce) {k : Nat} (hk : k ≤ ps.length) : (fillK W n ps k).length = n := by
  induction k with
  | zero => rw [fillK_zero, List.length_replicate]
  | succ k ih => rw [fillK_step _ _ _ _ (by omega), List.length_set, ih (by omega)]
/-- the field of a piece, with its cells set -/
def fieldP (ps : List Ce) : List Bool := fillK (hiP ps).1 ((hiP ps).1 * (hiP ps).2).toNat ps ps.length
theorem fieldP_nil : fieldP [] = [] := rfl
theorem cell_lt {W T x y : Int} (x0 : 0 ≤ x) (x1 : x < W) (y0 : 0 ≤ y) (y1 : y < T) : 0 ≤ y * W ∧ y * W + x < W * T := by
  have h1 : y * W ≤ (T - 1) * W := Int.mul_le_mul_of_nonneg_right (by omega) (by omega)
  have h2 : 0 ≤ y * W := Int.mul_nonneg y0 (by omega)
  have h3 : (T - 1) * W = W * T - W := by rw [Int.sub_mul, Int.mul_comm T W, Int.one_mul]
  omega
theorem mvd_bd {ps : List Ce} (h : ∀ c ∈ ps, inBd 9 c) : ∀ c ∈ mvd ps, upBd 18 c := by
  intro c hc
  have hc' := (sortC_perm _).mem_iff.1 (show c ∈ sortC (ps.map (subC (loP ps))) from hc)
  obtain ⟨d, hd, rfl⟩ := List.mem_map.1 hc'
  have h1 := h d hd
  have h2 := loP_le ps d hd
  have h3 : inBd 9 (loP ps) := loK_bd h (by omega) _
  unfold inBd at *
  unfold upBd subC
  simp only
  omega
theorem field_bd {b : Int} {X : List Ce} (hb : 0 ≤ b) (h : ∀ c ∈ X, upBd b c) : upBd (b + 1) (hiP X) ∧ (0 ≤ (hiP X).1 * (hiP X).2) ∧ (hiP X).1 * (hiP X).2 ≤ (b + 1) * (b + 1) := by
  have h1 := hiK_bd hb h (Nat.le_refl _)
  refine ⟨h1, ?_⟩
  change upBd (b + 1) (hiP X) at h1
  unfold upBd at h1
  obtain ⟨a, b', c, d⟩ := h1
  exact ⟨Int.mul_nonneg a c, Int.mul_le_mul b' d c (by omega)⟩
theorem mvdV_bd {f : Ce → Ce} {ps : List Ce} (hf : ∀ c, inBd 9 c → inBd 9 (f c)) : ∀ c ∈ mvdV f ps, upBd 18 c := by
  intro c hc
  unfold mvdV at hc
  split at hc
  · rename_i hp
    obtain ⟨-, hb, -⟩ := ok_of_pieceB hp
    refine mvd_bd ?_ c hc
    intro d hd
    obtain ⟨q, hq, rfl⟩ := List.mem_map.1 hd
    exact hf _ (hb q hq)
  · simp at hc
end Go.Proofs.Ytohbnogmeldmpaa
