/- A slice of cells that came in, opened: its numbers are numbers of 64 bits. -/
import Derived.Test.YtojlicpimkjegaaMoveT
import Derived.Test.YtojlicpimkjegaaCells
namespace Go.Proofs.Ytojlicpimkjegaa
open Go.RowKit

theorem wf_okI {n : Int} (h : (Lit.int .i64 n).wf = true) : okI n := by
  unfold okI
  simp [Lit.wf, IntKind.min, IntKind.max, IntKind.bits, IntKind.signed] at h
  omega
section
open Go.ChangeShapes Go.WideShapes Go.ChangeAt Go.RowKit Go.Deep
variable {H : Type} {enc : TypeId × Value → H} {w : World} {r : Reach} {b0 base : Nat} {v : Value} {d : DataW H} {p : List MemPlace} {held : Bool} {fuel : Nat} {cs : List Value} {x : DataW H × List MemPlace}
set_option maxRecDepth 100000 in
theorem rd_cellsW (h : DataW.trod enc Try.prog w 0 (fun _ => true) held fuel 39 cs = some x) :
    ∃ (A : Option Addr) (c : Nat) (ps : List Ce), cs = [.slice A ps.length c] ∧ ps.length ≤ maxLen ∧ ps.length ≤ c ∧ RdC w A ps ∧ ∀ q ∈ ps, okC q := by
  rcases open_slice_pairs Try.underlying39 Try.underlying73 (by kernel_rfl) rfl rfl (by kernel_rfl) (by kernel_rfl) h with ⟨hcs, _⟩ | ⟨a, len, cap, m, k, V0, V1, D0, D1, P0, P1, hcs, _, hl, hm, hmm, hx, hall⟩
  · exact ⟨none, 0, [], by simpa using hcs, by simp, by simp, Rd.nil _ _, by simp⟩
  · have hmm' : m = cap := by simpa using hmm
    have hv : ∀ i, i < len → ∃ q : Ce, (V0 i = .int .i64 q.1 ∧ V1 i = .int .i64 q.2) ∧ okC q := fun i hi => by
      obtain ⟨-, -, t0, t1⟩ := hall i (by omega)
      obtain ⟨n0, e0, -, f0⟩ := DataW.trod_int Try.underlying3 t0
      obtain ⟨n1, e1, -, f1⟩ := DataW.trod_int Try.underlying3 t1
      simp only [List.cons.injEq, and_true] at e0 e1
      exact ⟨(n0, n1), ⟨e0, e1⟩, wf_okI f0, wf_okI f1⟩
    have hlen : ((List.range len).map fun i => ((intOf (V0 i), intOf (V1 i)) : Ce)).length = len := by simp
    refine ⟨some a, cap, (List.range len).map fun i => (intOf (V0 i), intOf (V1 i)), by rw [hlen]; exact hcs, by rw [hlen]; omega, by rw [hlen]; exact hl, rd_of_cells fun j u hu => ?_, fun q hq => ?_⟩
    rotate_left
    · obtain ⟨i, hi, rfl⟩ := List.mem_map.1 hq
      rw [List.mem_range] at hi
      obtain ⟨q, ⟨e0, e1⟩, hk⟩ := hv i hi
      rw [e0, e1]
      exact hk
    have hj : j < len * 2 := by
      rcases Nat.lt_or_ge j (len * 2) with h1 | h1
      · exact h1
      · rw [List.getElem?_eq_none (by rw [cellsV_len, hlen]; exact h1)] at hu; cases hu
    have hi : j / 2 < len := by omega
    obtain ⟨g0, g1⟩ := cellsV_get ((List.range len).map fun i => ((intOf (V0 i), intOf (V1 i)) : Ce)) (j / 2) (by rw [hlen]; exact hi)
    obtain ⟨q, ⟨e0, e1⟩, -⟩ := hv _ hi
    obtain ⟨a0, a1, -, -⟩ := hall (j / 2) (by omega)
    rw [List.getElem_map, List.getElem_range] at g0 g1
    rw [e0] at a0 g0
    rw [e1] at a1 g1
    rcases Nat.mod_two_eq_zero_or_one j with hp | hp
    · have ej : j / 2 * 2 = j := by omega
      rw [ej] at a0 g0
      rw [a0, ← hu, g0]
      rfl
    · have ej : j / 2 * 2 + 1 = j := by omega
      rw [ej] at a1 g1
      rw [a1, ← hu, g1]
      rfl
set_option maxRecDepth 100000 in
/-- a slice of cells that came in -/
theorem open_cellsW (hv : Value.okWide Try.prog w r b0 39 v) (h : DataW.Trod enc Try.prog w 0 (fun _ => true) held 39 v d p) :
    ∃ (A : Option Addr) (c : Nat) (ps : List Ce), v = .slice A ps.length c ∧ ps.length ≤ maxLen ∧ ps.length ≤ c ∧ RdC w A ps ∧ ∀ q ∈ ps, okC q := by
  obtain ⟨a0, len0, cap0, rfl⟩ := okWide_slice Try.underlying39 hv
  obtain ⟨fuel, hf⟩ := h
  obtain ⟨A, c, zs, hcs, h1, h2, h3, h4⟩ := rd_cellsW hf
  simp only [Value.cells, List.cons.injEq, Value.slice.injEq, and_true] at hcs
  obtain ⟨rfl, rfl, rfl⟩ := hcs
  exact ⟨_, _, zs, rfl, h1, h2, h3, h4⟩
end
end Go.Proofs.Ytojlicpimkjegaa
