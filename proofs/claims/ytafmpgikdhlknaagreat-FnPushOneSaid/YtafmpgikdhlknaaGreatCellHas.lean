
/- Contracts: a list of cells has a cell; cells side by side. -/
import Derived.Test.YtafmpgikdhlknaaGreatCell
import Derived.Test.YtafmpgikdhlknaaGreatBase
import Derived.Deep.QuietTactic
import Derived.BigQuiet
namespace Go.Proofs.YtafmpgikdhlknaaGreat
open Go.RowKit

theorem box2 {w wr : World} {x y : Value} {t : TypeId} (h : Below (w.alloc (.cells #[x, y] t)).heap.size (w.alloc (.cells #[x, y] t)) wr) :
    wr.cell? ⟨w.heap.size, 0, none⟩ = some x ∧ wr.cell? ⟨w.heap.size, 1, none⟩ = some y := by
  have hh : (w.alloc (.cells #[x, y] t)).heap[w.heap.size]? = some (.cells #[x, y] t (0, 0)) := heap_alloc_new w _
  exact ⟨(h.cell (p := ⟨w.heap.size, 0, none⟩) (by simp)).trans (cell_of_row _ _ _ _ _ _ hh), (h.cell (p := ⟨w.heap.size, 1, none⟩) (by simp)).trans (cell_of_row _ _ _ _ _ _ hh)⟩
end Go.Proofs.YtafmpgikdhlknaaGreat
