
/- Contracts: copies, comparisons and sizes of lists of cells, as the laws make them; such an argument opened. -/
import Derived.Test.YtohbnogmeldmpaaBw
import Derived.Test.YtohbnogmeldmpaaEq
import Derived.Test.YtohbnogmeldmpaaOpen
import Derived.Deep.SlicePairs
namespace Go.Proofs.Ytohbnogmeldmpaa
open Go.RowKit

/-- two cells more of a row -/
theorem set2_take (l : List Ce) (k : Nat) (h : k < l.length) :
    ((cellsV (l.take k) ++ List.replicate ((l.length - k) * 2) (Value.int .i64 0)).set (k * 2) (.int .i64 l[k].1)).set (k * 2 + 1) (.int .i64 l[k].2) = cellsV (l.take (k + 1)) ++ List.replicate ((l.length - (k + 1)) * 2) (Value.int .i64 0) := by
  have h1 : (cellsV (l.take k)).length = k * 2 := by rw [cellsV_len, List.length_take]; omega
  obtain ⟨m, hm⟩ : ∃ m, (l.length - k) * 2 = m + 1 + 1 := ⟨(l.length - k) * 2 - 2, by omega⟩
  have hm2 : (l.length - (k + 1)) * 2 = m := by omega
  rw [take_one_more l k h, cellsV_append, hm, hm2, List.replicate_succ, List.replicate_succ, List.set_append_right _ _ (by omega), h1, Nat.sub_self, List.set_cons_zero, List.set_append_right _ _ (by omega), h1,
    show k * 2 + 1 - k * 2 = 0 + 1 by omega, List.set_cons_succ, List.set_cons_zero, List.append_assoc]
  rfl
theorem zero_at (l : List Ce) (k : Nat) (h : k < l.length) :
    (cellsV (l.take k) ++ List.replicate ((l.length - k) * 2) (Value.int .i64 0))[k * 2]? = some (.int .i64 0) ∧ (cellsV (l.take k) ++ List.replicate ((l.length - k) * 2) (Value.int .i64 0))[k * 2 + 1]? = some (.int .i64 0) := by
  have h1 : (cellsV (l.take k)).length = k * 2 := by rw [cellsV_len, List.length_take]; omega
  rw [List.getElem?_append_right (by omega), List.getElem?_append_right (by omega), List.getElem?_replicate, List.getElem?_replicate, if_pos (by omega), if_pos (by omega)]
  exact ⟨rfl, rfl⟩
theorem made2 (n : Nat) : (madeCells #[Value.int .i64 0, .int .i64 0] (n * 2)).toList = cellsV [] ++ List.replicate (n * 2) (Value.int .i64 0) := by
  apply List.ext_getElem?
  intro j
  by_cases hj : j < n * 2
  · rcases Nat.mod_two_eq_zero_or_one j with h | h <;> simp [madeCells, hj, h, cellsV]
  · simp [madeCells, hj, cellsV]
end Go.Proofs.Ytohbnogmeldmpaa
