
/- The arguments of a law, opened: regions by value, slices. -/
import Derived.Test.YtkdgejmjecldeaaGreatMem
import Derived.Test.YtkdgejmjecldeaaGreatRows
import Derived.ProofKit
import Derived.OpenShut
import Derived.ChangeOld
import Derived.Deep.Grids
import Derived.Deep.Slices
import Derived.Lib.SmallJoins
namespace Go.Proofs.YtkdgejmjecldeaaGreat
open Go.ChangeShapes Go.WideShapes Go.ChangeAt Go.RowKit Go.Deep

theorem own_knob : ownKnob Tryz.prog.godebug = none := by kernel_rfl
theorem laid_out : laidOutB Tryz.prog = true := by kernel_rfl

/-- a list of cells that are there lies in a block that is there -/
theorem rd_of_cells {w : World} {a : Addr} {xs : List Value} (h : ∀ j u, xs[j]? = some u → w.cell? (a.add j) = some u) : Rd w (some a) xs := fun _ => ⟨a, rfl, h⟩

section
variable {H : Type} {enc : TypeId × Value → H} {w : World} {r : Reach} {b0 base : Nat} {v : Value} {d : DataW H} {p : List MemPlace} {held : Bool} {fuel : Nat} {cs : List Value} {x : DataW H × List MemPlace}

theorem rd_bools (h : DataW.trod enc Tryz.prog w 0 (fun _ => true) held fuel 23 cs = some x) :
    ∃ (A : Option Addr) (c : Nat) (bs : List Bool), cs = [.slice A bs.length c] ∧ bs.length ≤ maxLen ∧ Rd w A (bs.map .bool) := by
  rcases open_bools Tryz.underlying23 Tryz.underlying4 (by kernel_rfl) h with ⟨hcs, _⟩ | ⟨a, len, cap, Z, hcs, _, hl, hm, _, hcell⟩
  · exact ⟨none, 0, [], by simpa using hcs, by simp, Rd.nil _ _⟩
  · refine ⟨some a, cap, (List.range len).map Z, by simpa using hcs, by simpa using (by omega : len ≤ maxLen), rd_of_cells fun j u hu => ?_⟩
    have hj : j < len := by
      rcases Nat.lt_or_ge j len with h1 | h1
      · exact h1
      · rw [List.getElem?_eq_none (by simpa using h1)] at hu; cases hu
    rw [hcell j (by omega)]
    simpa [List.getElem?_eq_getElem, hj] using hu
theorem rd_ints {t e : TypeId} {k : IntKind} (ht : Tryz.prog.underlying t = some (.slice e)) (he : Tryz.prog.underlying e = some (.int k)) (hc : Tryz.prog.cellsOf e = 1) (h : DataW.trod enc Tryz.prog w 0 (fun _ => true) held fuel t cs = some x) :
    ∃ (A : Option Addr) (c : Nat) (zs : List Int), cs = [.slice A zs.length c] ∧ zs.length ≤ maxLen ∧ Rd w A (zs.map (.int k)) ∧ ∀ n ∈ zs, (Lit.int k n).wf = true := by
  rcases open_ints ht he hc h with ⟨hcs, _⟩ | ⟨a, len, cap, zs, hcs, _, hl, hm, hz, _, hcell, hwf⟩
  · exact ⟨none, 0, [], by simpa using hcs, by simp, Rd.nil _ _, by simp⟩
  · have hz' : zs.length = cap := by simpa using hz
    have hlen : (zs.take len).length = len := by simp; omega
    refine ⟨some a, cap, zs.take len, by rw [hlen]; exact hcs, by rw [hlen]; omega, rd_of_cells fun j u hu => ?_, fun n hn => hwf n (List.mem_of_mem_take hn)⟩
    have hj : j < len := by
      rcases Nat.lt_or_ge j len with h1 | h1
      · exact h1
      · rw [List.getElem?_eq_none (by rw [List.length_map, hlen]; exact h1)] at hu; cases hu
    rw [hcell j (by omega)]
    rw [List.getElem?_map, List.getElem?_take_of_lt hj] at hu
    rw [List.getD_eq_getElem?_getD, List.getElem?_eq_getElem (by omega)]
    rw [List.getElem?_eq_getElem (by omega)] at hu
    simpa using hu

set_option maxRecDepth 100000 in
theorem open_ints_arg {t e : TypeId} {k : IntKind} (ht : Tryz.prog.underlying t = some (.slice e)) (he : Tryz.prog.underlying e = some (.int k)) (hc : Tryz.prog.cellsOf e = 1)
    (hv : Value.okWide Tryz.prog w r b0 t v) (h : DataW.Trod enc Tryz.prog w 0 (fun _ => true) held t v d p) :
    ∃ (A : Option Addr) (c : Nat) (zs : List Int), v = .slice A zs.length c ∧ zs.length ≤ maxLen ∧ Rd w A (zs.map (.int k)) ∧ ∀ n ∈ zs, (Lit.int k n).wf = true := by
  obtain ⟨a0, len0, cap0, rfl⟩ := okWide_slice ht hv
  obtain ⟨fuel, hf⟩ := h
  obtain ⟨A, c, zs, hcs, h1, h2, h3⟩ := rd_ints ht he hc hf
  simp only [Value.cells, List.cons.injEq, Value.slice.injEq, and_true] at hcs
  obtain ⟨rfl, rfl, rfl⟩ := hcs
  exact ⟨_, _, zs, rfl, h1, h2, h3⟩
set_option maxRecDepth 100000 in
/-- a slice of bytes that came in -/
theorem open_bytes {t e : TypeId} (ht : Tryz.prog.underlying t = some (.slice e)) (he : Tryz.prog.underlying e = some (.int .u8)) (hc : Tryz.prog.cellsOf e = 1)
    (hv : Value.okWide Tryz.prog w r b0 t v) (h : DataW.Trod enc Tryz.prog w 0 (fun _ => true) held t v d p) :
    ∃ (A : Option Addr) (c : Nat) (zs : List Int), v = .slice A zs.length c ∧ zs.length ≤ c ∧ zs.length ≤ maxLen ∧ Rd w A (zs.map (.int .u8)) ∧ ∀ n ∈ zs, 0 ≤ n ∧ n ≤ 255 := by
  obtain ⟨a0, len0, cap0, rfl⟩ := okWide_slice ht hv
  obtain ⟨fuel, hf⟩ := h
  have bd : ∀ n : Int, (Lit.int .u8 n).wf = true → 0 ≤ n ∧ n ≤ 255 := fun n hn => bounds_u8 hn
  rcases open_ints ht he hc hf with ⟨hcs, _⟩ | ⟨a, len, cap, zs, hcs, _, hl, hm, hz, _, hcell, hwf⟩
  · simp [Value.cells] at hcs
    obtain ⟨rfl, rfl, rfl⟩ := hcs
    exact ⟨none, 0, [], rfl, by simp, by simp, Rd.nil _ _, by simp⟩
  · simp [Value.cells] at hcs
    obtain ⟨rfl, rfl, rfl⟩ := hcs
    have hz' : zs.length = cap0 := by simpa using hz
    have hlen : (zs.take len0).length = len0 := by simp; omega
    refine ⟨some a, cap0, zs.take len0, by rw [hlen], by omega, by omega, rd_of_cells fun j u hu => ?_, fun n hn => bd n (hwf n (List.mem_of_mem_take hn))⟩
    have hj : j < len0 := by
      rcases Nat.lt_or_ge j len0 with h1 | h1
      · exact h1
      · rw [List.getElem?_eq_none (by rw [List.length_map, hlen]; exact h1)] at hu; cases hu
    rw [hcell j (by omega)]
    rw [List.getElem?_map, List.getElem?_take_of_lt hj] at hu
    rw [List.getD_eq_getElem?_getD, List.getElem?_eq_getElem (by omega)]
    rw [List.getElem?_eq_getElem (by omega)] at hu
    simpa using hu
set_option maxRecDepth 100000 in
theorem open_region (hv : Value.okWide Tryz.prog w r b0 35 v) (h : DataW.Trod enc Tryz.prog w 0 (fun _ => true) held 35 v d p) :
    ∃ (W T : Int) (A : Option Addr) (c : Nat) (bs : List Bool), v = .agg #[.int .i64 W, .int .i64 T, .slice A bs.length c] ∧ (Lit.int .i64 W).wf = true ∧ (Lit.int .i64 T).wf = true ∧ bs.length ≤ maxLen ∧ Rd w A (bs.map .bool) := by
  obtain ⟨v0, v1, v2, y0, y1, y2, n, rfl, rfl, rfl, h0, h1, h2⟩ := Go.Joins.open_agg3 Tryz.underlying35 (by kernel_rfl) (by kernel_rfl) hv h
  obtain ⟨W, e0, _, w0⟩ := DataW.trod_int Tryz.underlying3 h0
  obtain ⟨T, e1, _, w1⟩ := DataW.trod_int Tryz.underlying3 h1
  obtain ⟨A, c, bs, e2, h3, h4⟩ := rd_bools h2
  simp at e0 e1 e2
  subst e0 e1 e2
  exact ⟨W, T, A, c, bs, rfl, w0, w1, h3, h4⟩
end
end Go.Proofs.YtkdgejmjecldeaaGreat
