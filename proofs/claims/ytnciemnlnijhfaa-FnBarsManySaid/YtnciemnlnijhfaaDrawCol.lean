/- Contracts: the draws of FnColourMany and FnColoursEven (a region and numbers). -/
import Derived.Test.YtnciemnlnijhfaaDrawSome
namespace Go.Proofs.Ytnciemnlnijhfaa
open Go.RowKit

theorem Rd.pickR {w1 w2 w3 : World} {g : Nat} {B : Option Addr} {xs : List Value} (R : Rd w2 B xs) (hB : ∀ ad, B = some ad → w1.heap.size ≤ ad.block) (hg : g < w1.heap.size) (G : w2.grownBy w3 (some g)) : Rd w3 B xs :=
  R.grownBelow G (fun _ ad ha e => by have := hB ad ha; have e' : ad.block = g := (by simpa using e); omega)
theorem set_grownR (w : World) (p : Addr) (u : Value) : w.grownBy (w.setCell p u) (some p.block) :=
  ⟨rfl, rfl, rfl, by simp [World.setCell], fun i _ hn => Below.heap_setCell _ _ _ _ (fun e => hn (by simp [e]))⟩
/-- a region -/
def Drawn0 (w : World) (e : Ending) (w' : World) : Prop :=
  ∃ (W T : Int) (bs : List Bool) (B : Option Addr) (k : Nat), e = .returned (.agg #[.int .i64 W, .int .i64 T, .slice B bs.length k]) ∧ Rd w' B (bs.map .bool) ∧ bs.length ≤ 37 ∧ Below w.heap.size w w'
/-- a region and a number -/
def Drawn1 (P : Int → Prop) (w : World) (e : Ending) (w' : World) : Prop :=
  ∃ (W T : Int) (bs : List Bool) (B : Option Addr) (k : Nat) (n : Int), e = .returned (.tuple #[.agg #[.int .i64 W, .int .i64 T, .slice B bs.length k], .int .i64 n]) ∧ Rd w' B (bs.map .bool) ∧ bs.length ≤ 37 ∧ P n ∧ Below w.heap.size w w'
/-- a region and two numbers -/
def Drawn2 (P : Int → Int → Prop) (w : World) (e : Ending) (w' : World) : Prop :=
  ∃ (W T : Int) (bs : List Bool) (B : Option Addr) (k : Nat) (n r : Int), e = .returned (.tuple #[.agg #[.int .i64 W, .int .i64 T, .slice B bs.length k], .int .i64 n, .int .i64 r]) ∧ Rd w' B (bs.map .bool) ∧ bs.length ≤ 37 ∧ P n r ∧ Below w.heap.size w w'
end Go.Proofs.Ytnciemnlnijhfaa
