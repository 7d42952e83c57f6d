
/- Worlds in which one block alone has changed. -/
import Derived.Test.YtafmpgikdhlknaaGreatStepN
import Derived.Test.YtafmpgikdhlknaaGreatMemE
import Derived.Deep.RegionHeld3
import Derived.StillTailTactics
namespace Go.Proofs.YtafmpgikdhlknaaGreat
open Go.RowKit

theorem gb_cell {w wr : World} {g : Nat} (hg : w.grownBy wr (some g)) {b o : Nat} {v : Value} (hb : b ≠ g) (h : w.cell? ⟨b, o, none⟩ = some v) : wr.cell? ⟨b, o, none⟩ = some v :=
  (hg.cell_far ⟨b, o, none⟩ (World.block_lt_of_cell? w _ h) (fun e => hb (by injection e))).trans h
theorem C3.gb {w wr : World} {g b : Nat} {x y z : Value} (h : C3 w b x y z) (hg : w.grownBy wr (some g)) (hb : b ≠ g) : C3 wr b x y z := ⟨gb_cell hg hb h.1, gb_cell hg hb h.2.1, gb_cell hg hb h.2.2⟩
theorem gb_below {w wr w' : World} {row : Option Nat} (hg : w.grownBy wr row) (hb : Below wr.heap.size wr w') : w.grownBy w' row :=
  grownBy_trans' hg ⟨hb.os, hb.tape, hb.output, hb.size, fun i hi _ => hb.block i hi⟩
theorem gb_store {w wr : World} {g o : Nat} {u : Value} (hg : w.grownBy wr (some g)) : w.grownBy (wr.setCell ⟨g, o, none⟩ u) (some g) :=
  grownBy_trans' hg ⟨rfl, rfl, rfl, by simp [World.setCell], fun i hi hn => Below.heap_setCell _ _ _ _ (fun e => hn (by simp [e]))⟩
theorem gb_drew {w wr : World} {row : Option Nat} (hg : w.grownBy wr row) : w.grownBy wr.drew row := ⟨hg.os, hg.tape, hg.output, hg.size, hg.block⟩
theorem gb_drewN {w wr : World} {row : Option Nat} (hg : w.grownBy wr row) (n : Nat) : w.grownBy (wr.drewN n) row := ⟨hg.os, hg.tape, hg.output, hg.size, hg.block⟩

theorem gb_far {w : World} {b g o k : Nat} {u v : Value} (h : w.cell? ⟨b, o, none⟩ = some v) (hb : b ≠ g) : (w.setCell ⟨g, k, none⟩ u).cell? ⟨b, o, none⟩ = some v :=
  (World.cell?_setCell_other w ⟨g, k, none⟩ ⟨b, o, none⟩ u (fun e => hb (by injection e with e; exact e.symm))).trans h
theorem step_neq {W T c d : Int} (h1 : 1 ≤ W) (c0 : 0 ≤ c) : stepZ W T c d ≠ c := by
  unfold stepZ; repeat (first | split | omega)
end Go.Proofs.YtafmpgikdhlknaaGreat
