
/- Regions that draw their order, only read old cells, and whose callees keep what lies below: one walk, at a class of worlds. -/
import Derived.Test.YtafmpgikdhlknaaGreatCellApp
import Derived.BigQuiet
namespace Go.Proofs.YtafmpgikdhlknaaGreat
open Go.RowKit

/-- a world in which all that lay in w lies as it did -/
structure BW (w : World) where
  wo : World
  ok : Below w.heap.size w wo
instance (w : World) : Nonempty (BW w) := ⟨⟨w, Below.refl _ _⟩⟩
theorem BW.cell {w : World} (z : BW w) {b : Nat} {o : Nat} (h : b < w.heap.size) {v : Value} (e : w.cell? ⟨b, o, none⟩ = some v) : z.wo.cell? ⟨b, o, none⟩ = some v :=
  ((bcell z.ok).1 b o h).trans e
theorem BW.on {w : World} (z : BW w) {P : Program} {f : FuncId} {args : Array Value} {v : Value} (h : Calls P f args z.wo fun e w' => e = .returned v ∧ Below z.wo.heap.size z.wo w') :
    Calls P f args z.wo fun e w' => e = .returned v ∧ ∃ y : BW w, w' = y.wo :=
  h.mono fun _ w' ⟨he, hb⟩ => ⟨he, ⟨w', bl_go z.ok hb⟩, rfl⟩
/-- .. with what the callee reads given in the form of an equation -/
theorem BW.on' {w : World} (z : BW w) {P : Program} {f : FuncId} {args : Array Value} {u v : Value} (h : Calls P f args z.wo fun e w' => e = .returned u ∧ Below z.wo.heap.size z.wo w') (e : u = v) :
    Calls P f args z.wo fun e w' => e = .returned v ∧ ∃ y : BW w, w' = y.wo := by subst e; exact z.on h
theorem region_bw {P : Program} {id : Nat} {Q : Exit → Act → World → Prop} {a : Act} {w : World} {l : List Oper} (hm : P.follows .mixedOrders = true) (hB : Region.lexB .any l.toArray = true)
    (h : wpQuiet P l.toArray (fun w' => ∃ z : BW w, w' = z.wo) (fun a' => ∀ w', (∃ z : BW w, w' = z.wo) → Q .normal a' w') l a) : (Code.region id l.toArray true).wp P Q a w :=
  wp_region_quiet (C := fun w' => ∃ z : BW w, w' = z.wo) hm hB ⟨⟨_, below_drewN' (Below.refl _ _) 1⟩, rfl⟩ (by simpa using h)
end Go.Proofs.YtafmpgikdhlknaaGreat
