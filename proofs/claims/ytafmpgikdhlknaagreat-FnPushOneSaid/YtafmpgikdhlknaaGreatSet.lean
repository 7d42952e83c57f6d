
/- Contracts: copies of lists of truths; a region with a cell or without it. -/
import Derived.Test.YtafmpgikdhlknaaGreatBoxes
import Derived.Test.YtafmpgikdhlknaaGreatCellApp
import Derived.Test.YtafmpgikdhlknaaGreatStep
namespace Go.Proofs.YtafmpgikdhlknaaGreat
open Go.RowKit

theorem set3 {w : World} {b g o : Nat} {u0 u1 u2 v : Value} (h : w.cell? ⟨b, o, none⟩ = some v) (hb : b < g) : (((w.setCell ⟨g, 0, none⟩ u0).setCell ⟨g, 1, none⟩ u1).setCell ⟨g, 2, none⟩ u2).cell? ⟨b, o, none⟩ = some v := by
  rw [World.cell?_setCell_other _ _ _ _ (by intro e; injection e with e; omega), World.cell?_setCell_other _ _ _ _ (by intro e; injection e with e; omega), World.cell?_setCell_other _ _ _ _ (by intro e; injection e with e; omega)]; exact h
theorem al_cell {w : World} {o : Obj} {p : Addr} {v : Value} (h : w.cell? p = some v) : (w.alloc o).cell? p = some v := (World.cell?_alloc_lt w o p (World.block_lt_of_cell? w _ h)).trans h
theorem dr_cell {w : World} {p : Addr} {v : Value} (h : w.cell? p = some v) : w.drew.cell? p = some v := h
theorem kb1 {w w' : World} {p : Addr} {v : Value} (hb : Below w.drew.heap.size w.drew w') (h : w.cell? p = some v) : w'.cell? p = some v := (hb.cell (World.block_lt_of_cell? w _ h)).trans h
theorem kb2 {w w' : World} {o : Obj} {p : Addr} {v : Value} (hb : Below (w.alloc o).drew.heap.size (w.alloc o).drew w') (h : w.cell? p = some v) : w'.cell? p = some v :=
  (hb.cell (World.block_lt_of_cell? (w.alloc o) _ (al_cell h))).trans (al_cell h)
/-- a new list of truths that may be written -/
def NewWB (xs : List Bool) (w : World) (e : Ending) (w' : World) : Prop :=
  ∃ A : Option Addr, e = .returned (.slice A xs.length xs.length) ∧ Wr w' w.heap.size 4 A (xs.map .bool) ∧ Below w.heap.size w w'
set_option maxRecDepth 100000 in
set_option maxHeartbeats 1000000 in
theorem cloneB0_any (ad : Addr) (c : Nat) (bs : List Bool) (w : World) (hr : Rd w (some ad) (bs.map .bool)) (hne : bs ≠ []) (hn : bs.length ≤ 1000000) :
    Calls Tryz.prog 128 #[.slice (some ad) bs.length c] w fun e w' => ∃ (A' : Option Addr) (c' : Nat), e = .returned (.slice A' bs.length c') ∧ OwnB w' w.heap.size (.slice A' bs.length c') bs ∧ bs.length ≤ c' ∧ Below w.heap.size w w' := by
  obtain ⟨i0, hi, hz0, hz1, hz2⟩ := info_parts Tryz.infoB
  have HZ := Lib.hid (And.intro hz0 (And.intro hz1 hz2))
  have hnil : ∀ w, (binOp .eql 23 (.slice (some ad) bs.length c) (.slice none 0 0)).run Tryz.prog w = .ok (.bool false) w := fun w => Lib.run_eql_slice_nil w 23 4 _ _ _ _ _ Tryz.underlying23
  clear hz0 hz1 hz2
  have hown0 : (w.alloc (.cells #[] 4)).ownsRow w.heap.size 4 1 (.slice (some ⟨w.heap.size, 0, none⟩) 0 0) 0 [] := World.ownsRow_lit w #[] 0 (Nat.le_refl _) (by simp) (by simp)
  obtain ⟨ad', e', hcell⟩ := (hr.alloc (.cells #[] 4)) (by simpa using hne)
  have HC := Lib.hid (show ∀ j y, (bs.map Value.bool)[j]? = some y → (w.alloc (.cells #[] 4)).cell? (ad.add j) = some y from fun j y hy => by injection e' with e'; rw [e']; exact hcell j y hy)
  clear hcell e' hr
  have h0 : 0 < bs.length := List.length_pos_iff.2 hne
  go_enter Tryz.func128, Tryz.ntmps128
  go_wp2_with (at_builtin; refine wpList_append_own _ rfl _ _ 23 rfl w.heap.size 4 i0 (.bool false) 1 1 Tryz.underlying23 hi HZ.out.1 HZ.out.2.1 HZ.out.2.2 rfl (by decide) _ _ _ rfl hown0 ad bs.length c (bs.map .bool) rfl (by simp) HC.out (by intro y hy; obtain ⟨b, _, rfl⟩ := List.mem_map.1 hy; rfl) (by unfold maxLen; omega) (by omega) (by simp) ?_; intro v' w3 hown3 hg3 _)
  simp only [Nat.zero_add, List.nil_append] at hown3
  obtain ⟨g, cap, rfl, hg, hlt⟩ := hown3.form h0
  go_ret
  refine ⟨_, _, rfl, ⟨_, _, rfl, hown3⟩, ?_, ?_⟩
  · rcases hown3.2 with ⟨e, e2⟩ | ⟨g, cap, cur, e, _, _, h3, _⟩
    · omega
    · injection e with _ _ e3; omega
  · exact ((Below.refl w.heap.size w).alloc (Nat.le_refl _) _).grown hg3 (by simp) (fun k hk => by have h2 : some w.heap.size = some k := hk; injection h2 with h2; omega)
/-- a region, and whether there is one -/
def SetRet (W T : Int) (bs : List Bool) (ok : Bool) (w : World) (e : Ending) (w' : World) : Prop :=
  ∃ (A : Option Addr) (c : Nat), e = .returned (.tuple #[.agg #[.int .i64 W, .int .i64 T, .slice A bs.length c], .bool ok]) ∧ Wr w' w.heap.size 4 A (bs.map .bool) ∧ Below w.heap.size w w'
end Go.Proofs.YtafmpgikdhlknaaGreat
