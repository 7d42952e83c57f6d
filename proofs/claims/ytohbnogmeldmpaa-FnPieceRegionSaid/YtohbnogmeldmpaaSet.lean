
/- Contracts: copies of lists of truths; a region with a cell or without it. -/
import Derived.Test.YtohbnogmeldmpaaBoxes
import Derived.Test.YtohbnogmeldmpaaCellApp
import Derived.Test.YtohbnogmeldmpaaStep
namespace Go.Proofs.Ytohbnogmeldmpaa
open Go.RowKit

theorem set3 {w : World} {b g o : Nat} {u0 u1 u2 v : Value} (h : w.cell? ⟨b, o, none⟩ = some v) (hb : b < g) : (((w.setCell ⟨g, 0, none⟩ u0).setCell ⟨g, 1, none⟩ u1).setCell ⟨g, 2, none⟩ u2).cell? ⟨b, o, none⟩ = some v := by
  rw [World.cell?_setCell_other _ _ _ _ (by intro e; injection e with e; omega), World.cell?_setCell_other _ _ _ _ (by intro e; injection e with e; omega), World.cell?_setCell_other _ _ _ _ (by intro e; injection e with e; omega)]; exact h
theorem al_cell {w : World} {o : Obj} {p : Addr} {v : Value} (h : w.cell? p = some v) : (w.alloc o).cell? p = some v := (World.cell?_alloc_lt w o p (World.block_lt_of_cell? w _ h)).trans h
theorem dr_cell {w : World} {p : Addr} {v : Value} (h : w.cell? p = some v) : w.drew.cell? p = some v := h
theorem kb1 {w w' : World} {p : Addr} {v : Value} (hb : Below w.drew.heap.size w.drew w') (h : w.cell? p = some v) : w'.cell? p = some v := (hb.cell (World.block_lt_of_cell? w _ h)).trans h
theorem kb2 {w w' : World} {o : Obj} {p : Addr} {v : Value} (hb : Below (w.alloc o).drew.heap.size (w.alloc o).drew w') (h : w.cell? p = some v) : w'.cell? p = some v :=
  (hb.cell (World.block_lt_of_cell? (w.alloc o) _ (al_cell h))).trans (al_cell h)
/-- a new list of truths that may be written -/
def NewWB (xs : List Bool) (w : World) (e : Ending) (w' : World) : Prop :=
  ∃ A : Option Addr, e = .returned (.slice A xs.length xs.length) ∧ Wr w' w.heap.size 4 A (xs.map .bool) ∧ Below w.heap.size w w'
/-- a region, and whether there is one -/
def SetRet (W T : Int) (bs : List Bool) (ok : Bool) (w : World) (e : Ending) (w' : World) : Prop :=
  ∃ (A : Option Addr) (c : Nat), e = .returned (.tuple #[.agg #[.int .i64 W, .int .i64 T, .slice A bs.length c], .bool ok]) ∧ Wr w' w.heap.size 4 A (bs.map .bool) ∧ Below w.heap.size w w'
end Go.Proofs.Ytohbnogmeldmpaa
