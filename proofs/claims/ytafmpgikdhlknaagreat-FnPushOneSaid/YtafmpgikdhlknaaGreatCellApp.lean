
/- Slices of cells that the call owns; quiet calls. -/
import Derived.Test.YtafmpgikdhlknaaGreatCellHas
import Derived.Deep.RegionHeld3
namespace Go.Proofs.YtafmpgikdhlknaaGreat
open Go.RowKit

section
variable {ops : Array Oper} {rest : List Oper} {o : Oper} {a : Act} {Q : Exit → Act → World → Prop}
end
/-- a call that leaves the world as it was, in a region that only reads -/
theorem quietL {P : Program} {f : FuncId} {args : Array Value} {w : World} {n : Nat} {v : Value}
    (h : Calls P f args (w.drewN n) fun e w' => e = .returned v ∧ w.drewN n = w') : Calls P f args (w.drewN n) fun e w' => e = .returned v ∧ ∃ m, w' = w.drewN m :=
  h.mono fun _ _ ⟨he, hm⟩ => ⟨he, n, hm.symm⟩
/-- a part of a slice from its head -/
theorem RdC.take {w : World} {A : Option Addr} {ps : List Ce} (h : RdC w A ps) (k : Nat) : RdC w A (ps.take k) := fun hne => by
  have hne2 : cellsV ps ≠ [] := by
    intro e
    have h1 := cellsV_len ps
    have h2 := cellsV_len (ps.take k)
    rw [e] at h1
    have : (cellsV (ps.take k)).length = 0 := by rw [h2, List.length_take]; simp at h1; omega
    exact hne (List.eq_nil_of_length_eq_zero this)
  obtain ⟨ad, e, hc⟩ := h hne2
  refine ⟨ad, e, fun j u hu => hc j u ?_⟩
  have hsp : cellsV ps = cellsV (ps.take k) ++ cellsV (ps.drop k) := by rw [← cellsV_append, List.take_append_drop]
  rw [hsp]
  have hj : j < (cellsV (ps.take k)).length := by
    rcases Nat.lt_or_ge j (cellsV (ps.take k)).length with h1 | h1
    · exact h1
    · rw [List.getElem?_eq_none h1] at hu; cases hu
  rw [List.getElem?_append_left hj]; exact hu
/-- no cell of it comes before itself -/
theorem nodup_of_take {ps : List Ce} (h : ∀ j (hj : j < ps.length), ps[j] ∉ ps.take j) : ps.Nodup := by
  unfold List.Nodup
  rw [List.pairwise_iff_getElem]
  intro i j hi hj hij e
  apply h j hj
  rw [List.mem_take_iff_getElem]
  exact ⟨i, by omega, e⟩
theorem nodup_no {ps : List Ce} (h : ps.Nodup) (j : Nat) (hj : j < ps.length) : ps[j] ∉ ps.take j := by
  intro hm
  rw [List.mem_take_iff_getElem] at hm
  obtain ⟨i, hi, e⟩ := hm
  unfold List.Nodup at h
  rw [List.pairwise_iff_getElem] at h
  exact h i j (by omega) hj (by omega) e
theorem sq_bd {d : Int} (h1 : -18 ≤ d) (h2 : d ≤ 18) : 0 ≤ d * d ∧ d * d ≤ 324 ∧ (d * d = 0 ↔ d = 0) ∧ (d * d = 1 ↔ d = 1 ∨ d = -1) ∧ (¬ (d = 0 ∨ d = 1 ∨ d = -1) → 4 ≤ d * d) := by
  rcases (show d ≤ -2 ∨ d = -1 ∨ d = 0 ∨ d = 1 ∨ 2 ≤ d from by omega) with h | h | h | h | h
  · have e1 := Int.mul_le_mul (show (2 : Int) ≤ -d by omega) (show (2 : Int) ≤ -d by omega) (by omega) (by omega)
    have e2 := Int.mul_le_mul (show -d ≤ (18 : Int) by omega) (show -d ≤ (18 : Int) by omega) (by omega) (by omega)
    rw [Int.neg_mul_neg] at e1 e2
    omega
  · subst h; omega
  · subst h; omega
  · subst h; omega
  · have e1 := Int.mul_le_mul h h (by omega) (by omega)
    have e2 := Int.mul_le_mul h2 h2 (by omega) (by omega)
    omega
theorem adj_sq {x y u v : Int} (h1 : -18 ≤ x - u) (h2 : x - u ≤ 18) (h3 : -18 ≤ y - v) (h4 : y - v ≤ 18) : decide (adjC (x, y) (u, v)) = ((x - u) * (x - u) + (y - v) * (y - v) == 1) := by
  obtain ⟨a1, a2, a3, a4, a5⟩ := sq_bd h1 h2
  obtain ⟨b1, b2, b3, b4, b5⟩ := sq_bd h3 h4
  by_cases h : adjC (x, y) (u, v)
  · rw [decide_eq_true h]; symm; rw [beq_iff_eq]
    unfold adjC at h; dsimp only at h
    rcases h with ⟨e1, e2⟩ | ⟨e1, e2⟩
    · have := b4.2 e2; have := a3.2 (by omega); omega
    · have := a4.2 e2; have := b3.2 (by omega); omega
  · rw [decide_eq_false h]; symm; rw [beq_eq_false_iff_ne]
    intro e
    apply h
    unfold adjC; dsimp only
    by_cases c1 : x - u = 0 ∨ x - u = 1 ∨ x - u = -1
    · by_cases c2 : y - v = 0 ∨ y - v = 1 ∨ y - v = -1
      · by_cases d0 : x - u = 0
        · have := a3.2 d0
          have := b4.1 (by omega)
          omega
        · have := a4.2 (by omega)
          have := b3.1 (by omega)
          omega
      · have := b5 c2; omega
    · have := a5 c1; omega
end Go.Proofs.YtafmpgikdhlknaaGreat
