/- All colours are all cells, plainly. -/
import Derived.Test.YthkpiacanfajbaaColour
namespace Go.Proofs.Ythkpiacanfajbaa
open Go.RowKit

/-- how many of the first n have one of the first m colours -/
def colSum (W nu : Int) (bs : List Bool) (n : Nat) : Nat → Int
  | 0 => 0
  | k + 1 => colSum W nu bs n k + cntTo (inCol W nu k bs) n
theorem colSum_next (W nu : Int) (bs : List Bool) (n : Nat) (hv : 0 ≤ ((n : Int) % W + (n : Int) / W) % nu) (m : Nat) :
    colSum W nu bs (n + 1) m = colSum W nu bs n m + if bs.getD n false = true ∧ ((n : Int) % W + (n : Int) / W) % nu < m then 1 else 0 := by
  induction m with
  | zero =>
    show (0 : Int) = 0 + _
    rw [if_neg (by rintro ⟨-, h⟩; omega)]; rfl
  | succ m ih =>
    show colSum W nu bs (n + 1) m + cntTo _ (n + 1) = colSum W nu bs n m + cntTo _ n + _
    rw [ih, cntTo_succ]
    have e : inCol W nu m bs n = (bs.getD n false && decide (((n : Int) % W + (n : Int) / W) % nu = m)) := rfl
    rw [e]
    generalize ((n : Int) % W + (n : Int) / W) % nu = v at *
    cases bs.getD n false with
    | false => simp
    | true =>
      rcases (show v < m ∨ v = m ∨ (m : Int) < v from by omega) with h | h | h
      · rw [if_pos ⟨rfl, h⟩, if_neg (by simp; omega), if_pos ⟨rfl, by omega⟩]; omega
      · rw [if_neg (by rintro ⟨-, h2⟩; omega), if_pos (by simp [h]), if_pos ⟨rfl, by omega⟩]; omega
      · rw [if_neg (by rintro ⟨-, h2⟩; omega), if_neg (by simp; omega), if_neg (by rintro ⟨-, h2⟩; omega)]; omega
theorem colSum_all (W nu : Int) (bs : List Bool) (n m : Nat) (hm : nu = m) (hn : 1 ≤ nu) : colSum W nu bs n m = cntTo (fun i => bs.getD i false) n := by
  induction n with
  | zero =>
    clear hm
    induction m with
    | zero => rfl
    | succ m ih => show colSum W nu bs 0 m + cntTo _ 0 = _; rw [ih]; rfl
  | succ n ih =>
    have hv := Int.emod_nonneg ((n : Int) % W + (n : Int) / W) (show nu ≠ 0 by omega)
    have hl := Int.emod_lt_of_pos ((n : Int) % W + (n : Int) / W) (show 0 < nu by omega)
    rw [colSum_next W nu bs n hv, ih, cntTo_succ]
    congr 1
    by_cases h : bs.getD n false = true
    · rw [if_pos ⟨h, by omega⟩, if_pos h]
    · rw [if_neg (fun hh => h hh.1), if_neg h]
theorem cntTo_cnt (bs : List Bool) : cntTo (fun i => bs.getD i false) bs.length = cnt bs := by
  have : ∀ k, k ≤ bs.length → cntTo (fun i => bs.getD i false) k = cnt (bs.take k) := by
    intro k
    induction k with
    | zero => intro _; simp [cntTo, cnt]
    | succ k ih =>
      intro hk
      rw [cntTo_succ, cnt_step bs k (by omega), ih (by omega)]
      have e : bs.getD k false = bs[k] := by simp [List.getD_eq_getElem?_getD, List.getElem?_eq_getElem (show k < bs.length by omega)]
      rw [e]
  have h := this bs.length (Nat.le_refl _)
  rwa [List.take_length] at h
theorem colSum_cells (W nu : Int) (bs : List Bool) (m : Nat) (hm : nu = m) (hn : 1 ≤ nu) : colSum W nu bs bs.length m = cnt bs := by
  rw [colSum_all W nu bs _ m hm hn, cntTo_cnt]
theorem colSum_bd (W nu : Int) (bs : List Bool) (n m : Nat) : 0 ≤ colSum W nu bs n m ∧ colSum W nu bs n m ≤ (m : Int) * n := by
  induction m with
  | zero => exact ⟨Int.le_refl _, by simp [colSum]⟩
  | succ m ih =>
    have := cntTo_bd (inCol W nu m bs) n
    have e : ((m + 1 : Nat) : Int) * n = (m : Int) * n + n := by rw [Int.natCast_add, Int.add_mul]; simp
    rw [e]
    show 0 ≤ colSum W nu bs n m + _ ∧ colSum W nu bs n m + _ ≤ _
    omega
end Go.Proofs.Ythkpiacanfajbaa
