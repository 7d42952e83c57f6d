
/- Contracts: copies of arguments, and comparisons: toBoolS, toRegion, eqBoolS, eqRegion, szRegion and the like. -/
import Derived.Test.YtafmpgikdhlknaaGreatReg
import Derived.Deep.RegionHeld3
namespace Go.Proofs.YtafmpgikdhlknaaGreat
open Go.RowKit

theorem Tryz.infoB : (Tryz.prog.info? 4).map (fun i => (i.zero, i.size, i.bytes)) = some (some (.bool false), 1, 1) := by kernel_rfl
theorem Tryz.infoI : (Tryz.prog.info? 3).map (fun i => (i.zero, i.size, i.bytes)) = some (some (.int .i64 0), 1, 8) := by kernel_rfl

/-- a new slice that holds bs -/
def NewS (P : List Value) (n : Nat) (w : World) (et : TypeId) (e : Ending) (w' : World) : Prop :=
  ∃ (A : Option Addr) (c : Nat), e = .returned (.slice A n c) ∧ w'.ownsRow w.heap.size et 1 (.slice A n c) n P ∧ Below w.heap.size w w'

theorem set_take_rep {α : Type} (f : α → Value) (z : Value) (l : List α) (k : Nat) (h : k < l.length) :
    ((l.take k).map f ++ List.replicate (l.length - k) z).set k (f l[k]) = (l.take (k + 1)).map f ++ List.replicate (l.length - (k + 1)) z := by
  rw [take_one_more l k h, List.map_append, List.set_append_right _ _ (by rw [List.length_map, List.length_take]; omega)]
  have h1 : ((l.take k).map f).length = k := by rw [List.length_map, List.length_take]; omega
  rw [h1, Nat.sub_self]
  obtain ⟨m, hm⟩ : ∃ m, l.length - k = m + 1 := ⟨l.length - k - 1, by omega⟩
  rw [hm, List.replicate_succ, List.set_cons_zero]
  have : l.length - (k + 1) = m := by omega
  rw [this]; simp


end Go.Proofs.YtafmpgikdhlknaaGreat
