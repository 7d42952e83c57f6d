
/- Contracts: columns and rows, colours. -/
import Derived.Test.YtafmpgikdhlknaaGreatReg
namespace Go.Proofs.YtafmpgikdhlknaaGreat
open Go.RowKit

/-- how many of the first k have a property -/
def cntTo (p : Nat → Bool) (k : Nat) : Int := ((List.range k).filter p).length
theorem cntTo_succ (p : Nat → Bool) (k : Nat) : cntTo p (k + 1) = cntTo p k + if p k = true then 1 else 0 := by
  unfold cntTo; rw [List.range_succ, List.filter_append]; by_cases h : p k = true <;> simp [h]
theorem cntTo_bd (p : Nat → Bool) (k : Nat) : 0 ≤ cntTo p k ∧ cntTo p k ≤ k := by
  unfold cntTo; exact ⟨by omega, by have := List.length_filter_le p (List.range k); simp at this; omega⟩
theorem below_drewN {B : Nat} {a w : World} (h : Below B a w) (n : Nat) : Below B a (w.drewN n) := ⟨h.os, h.tape, h.output, h.size, h.block⟩
/-- the cells of a box that the call made first -/
theorem box_cell {w wr : World} {cs : Array Value} {t : TypeId} (h : Below (w.heap.size + 1) (w.alloc (.cells cs t)) wr) (i : Nat) : wr.cell? ⟨w.heap.size, i, none⟩ = cs[i]? := by
  rw [h.cell (p := ⟨w.heap.size, i, none⟩) (by simp)]
  exact cell_of_row _ _ _ _ _ _ (heap_alloc_new w _)
theorem box3 {w wr : World} {x y z : Value} {t : TypeId} (h : Below (w.alloc (.cells #[x, y, z] t)).heap.size (w.alloc (.cells #[x, y, z] t)) wr) :
    wr.cell? ⟨w.heap.size, 0, none⟩ = some x ∧ wr.cell? ⟨w.heap.size, 1, none⟩ = some y ∧ wr.cell? ⟨w.heap.size, 2, none⟩ = some z := (C3.new w x y z t).belo h
/-- bounds of columns and rows -/
theorem xy_bd {W c : Int} (h1 : 1 ≤ W) (h2 : W ≤ 6) (h3 : 0 ≤ c) (h4 : c ≤ 36) : 0 ≤ c % W ∧ c % W ≤ W - 1 ∧ 0 ≤ c / W ∧ c / W ≤ 36 := by
  rcases (show W = 1 ∨ W = 2 ∨ W = 3 ∨ W = 4 ∨ W = 5 ∨ W = 6 from by omega) with rfl | rfl | rfl | rfl | rfl | rfl <;> omega

set_option maxHeartbeats 400000 in
theorem xy_any (W T : Int) (S : Value) (c : Int) (w : World) (h1 : 1 ≤ W) (h2 : W ≤ 6) (h3 : 0 ≤ c) (h4 : c ≤ 36) :
    Calls Tryz.prog 137 #[.agg #[.int .i64 W, .int .i64 T, S], .int .i64 c] w fun e w' => e = .returned (.tuple #[.int .i64 (c % W), .int .i64 (c / W)]) ∧ Below w.heap.size w w' := by
  obtain ⟨b1, b2, b3, b4⟩ := xy_bd h1 h2 h3 h4
  go_enter Tryz.func137, Tryz.ntmps137
  go_wp2
  go_quiet (fail)
  go_wp2
  go_ret2
  exact ⟨rfl, below_drewN ((Below.refl _ _).alloc (Nat.le_refl _) _) _⟩

/-- whether a cell has a colour -/
def inCol (W nu re : Int) (bs : List Bool) (i : Nat) : Bool := bs.getD i false && decide (((i : Int) % W + (i : Int) / W) % nu = re)
theorem inCol_f {W nu re : Int} {bs : List Bool} {k : Nat} (hk : k < bs.length) (h : bs[k] = false) : inCol W nu re bs k = false := by
  unfold inCol; rw [List.getD_eq_getElem?_getD, List.getElem?_eq_getElem hk]; simp [h]
theorem inCol_t {W nu re : Int} {bs : List Bool} {k : Nat} (hk : k < bs.length) (h : bs[k] = true) : inCol W nu re bs k = decide (((k : Int) % W + (k : Int) / W) % nu = re) := by
  unfold inCol; rw [List.getD_eq_getElem?_getD, List.getElem?_eq_getElem hk]; simp [h]
theorem cnt_t {p : Nat → Bool} {k : Nat} (h : p k = true) : cntTo p (k + 1) = cntTo p k + 1 := by rw [cntTo_succ, if_pos h]
theorem cnt_f {p : Nat → Bool} {k : Nat} (h : p k = false) : cntTo p (k + 1) = cntTo p k := by rw [cntTo_succ, h]; simp


def colourOf (W T : Int) (bs : List Bool) (nu re : Int) : Int := if validB W T bs = true ∧ 1 ≤ nu ∧ nu ≤ 4 ∧ 0 ≤ re ∧ re ≤ nu - 1 then cntTo (inCol W nu re bs) bs.length else -1
theorem valid_len {W T : Int} {bs : List Bool} (h : validB W T bs = true) : 1 ≤ W ∧ W ≤ 6 ∧ 1 ≤ T ∧ T ≤ 6 ∧ bs.length ≤ 36 ∧ (bs.length : Int) = W * T := by
  obtain ⟨⟨a, b⟩, ⟨c, d⟩, e, _⟩ := validB_iff.1 h
  have := mul_bd a b c d
  exact ⟨a, b, c, d, by omega, e⟩

end Go.Proofs.YtafmpgikdhlknaaGreat
