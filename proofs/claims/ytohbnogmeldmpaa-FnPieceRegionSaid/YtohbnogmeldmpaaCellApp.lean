
/- Slices of cells that the call owns; quiet calls. -/
import Derived.Test.YtohbnogmeldmpaaCellHas
import Derived.Deep.RegionHeld3
namespace Go.Proofs.Ytohbnogmeldmpaa
open Go.RowKit

theorem Try.infoC : (Try.prog.info? 42).map (fun i => (i.zero, i.size, i.bytes)) = some (some (.agg #[.int .i64 0, .int .i64 0]), 2, 16) := by kernel_rfl
def OwnC (w : World) (base : Nat) (v : Value) (ps : List Ce) : Prop :=
  ∃ (A : Option Addr) (c : Nat), v = .slice A ps.length c ∧ w.ownsRow base 42 2 v ps.length (cellsV ps)
theorem OwnC.below {w w' : World} {base B : Nat} {v : Value} {ps : List Ce} (h : OwnC w base v ps) (hb : Below B w w') (hB : w.heap.size ≤ B) : OwnC w' base v ps := by
  obtain ⟨A, c, e, h⟩ := h; exact ⟨A, c, e, own_below h hb hB⟩
theorem OwnC.belo {w w' : World} {base : Nat} {v : Value} {ps : List Ce} (h : OwnC w base v ps) (hb : Below w.heap.size w w') : OwnC w' base v ps := h.below hb (Nat.le_refl _)
theorem OwnC.alloc {w : World} {base : Nat} {v : Value} {ps : List Ce} (h : OwnC w base v ps) (o : Obj) : OwnC (w.alloc o) base v ps := by
  obtain ⟨A, c, e, h⟩ := h; exact ⟨A, c, e, h.alloc o⟩
theorem OwnC.drewN {w : World} {base : Nat} {v : Value} {ps : List Ce} (h : OwnC w base v ps) (k : Nat) : OwnC (w.drewN k) base v ps := h
theorem OwnC.rd {w : World} {base n c : Nat} {A : Option Addr} {ps : List Ce} (h : OwnC w base (.slice A n c) ps) : RdC w A ps := fun hne => by
  obtain ⟨A', c', e, h⟩ := h
  have hl := cellsV_len ps
  have h0 : 0 < ps.length := by
    rcases Nat.eq_zero_or_pos ps.length with h0 | h0
    · exact absurd (List.eq_nil_of_length_eq_zero (by omega)) hne
    · exact h0
  obtain ⟨g, cap, hv, _, _⟩ := h.form h0
  have hA : A = some ⟨g, 0, none⟩ := by injection hv
  subst hA
  exact ⟨_, rfl, h.cells (g := g) rfl⟩
theorem OwnC.one (w : World) (q : Ce) : OwnC (w.alloc (.cells #[.int .i64 q.1, .int .i64 q.2] 42)) w.heap.size (.slice (some ⟨w.heap.size, 0, none⟩) 1 1) [q] :=
  ⟨_, _, rfl, World.ownsRow_lit w #[.int .i64 q.1, .int .i64 q.2] 1 (Nat.le_refl _) (by unfold maxLen; omega) (by simp)⟩
section
variable {ops : Array Oper} {rest : List Oper} {o : Oper} {a : Act} {Q : Exit → Act → World → Prop}
theorem app_cell (w : World) (hgd : o.guard = none) (s x : Operand) (ho : o.op = .call { callee := .builtin .append, args := #[s, x], argTypes := #[23, 23] })
    (base : Nat) (v : Value) (ps : List Ce) (hs : a.eval s = v) (hown : OwnC w base v ps) (q1 q2 : Int) (hx : a.eval x = .slice (some ⟨w.heap.size, 0, none⟩) 1 1) (hn : ps.length ≤ 1000000000000) (hbase : base ≤ w.heap.size)
    (h : ∀ (A' : Option Addr) (c' : Nat) (w' : World), OwnC w' base (.slice A' (ps.length + 1) c') (ps ++ [(q1, q2)]) → Below base (w.alloc (.cells #[.int .i64 q1, .int .i64 q2] 42)) w' → wpList Try.prog ops Q rest (a.put o.dst (.slice A' (ps.length + 1) c')) w') :
    wpList Try.prog ops Q (o :: rest) a (w.alloc (.cells #[.int .i64 q1, .int .i64 q2] 42)) := by
  obtain ⟨i0, hi, hz0, hz1, hz2⟩ := info_parts Try.infoC
  obtain ⟨A, c, e, hown⟩ := hown
  refine wpList_append_own _ hgd s x 23 ho base 42 i0 _ 2 16 Try.underlying23 hi hz0 hz1 hz2 rfl (by decide) v _ _ hs (hown.alloc _) ⟨w.heap.size, 0, none⟩ 1 1 [.int .i64 q1, .int .i64 q2] hx rfl ?_ ?_ ?_ ?_ ?_ ?_
  · intro j y hj
    rw [add_off, Nat.zero_add, cell_of_row _ _ _ _ _ _ (heap_alloc_new w _)]
    simpa using hj
  · intro y hy; simp at hy; rcases hy with rfl | rfl <;> rfl
  · unfold maxLen; omega
  · omega
  · simp; omega
  · intro v' w' h1 h2 _
    have e1 : cellsV ps ++ [.int .i64 q1, .int .i64 q2] = cellsV (ps ++ [(q1, q2)]) := by rw [cellsV_append]; rfl
    rw [e1] at h1
    obtain ⟨g, cap, rfl, _, _⟩ := h1.form (by omega)
    refine h _ _ w' ⟨_, _, by simp; exact ⟨rfl, rfl⟩, ?_⟩ ?_
    · have e2 : (ps ++ [(q1, q2)]).length = ps.length + 1 := by simp
      rw [e2]; exact h1
    · exact (Below.refl base _).grown h2 (by simp; omega) (fun k hk => (hown.lt k hk).1)
end
/-- a call that leaves the world as it was, in a region that only reads -/
theorem quietL {P : Program} {f : FuncId} {args : Array Value} {w : World} {n : Nat} {v : Value}
    (h : Calls P f args (w.drewN n) fun e w' => e = .returned v ∧ w.drewN n = w') : Calls P f args (w.drewN n) fun e w' => e = .returned v ∧ ∃ m, w' = w.drewN m :=
  h.mono fun _ _ ⟨he, hm⟩ => ⟨he, n, hm.symm⟩
/-- a part of a slice from its head -/
theorem RdC.take {w : World} {A : Option Addr} {ps : List Ce} (h : RdC w A ps) (k : Nat) : RdC w A (ps.take k) := fun hne => by
  have hne2 : cellsV ps ≠ [] := by
    intro e
    have h1 := cellsV_len ps
    have h2 := cellsV_len (ps.take k)
    rw [e] at h1
    have : (cellsV (ps.take k)).length = 0 := by rw [h2, List.length_take]; simp at h1; omega
    exact hne (List.eq_nil_of_length_eq_zero this)
  obtain ⟨ad, e, hc⟩ := h hne2
  refine ⟨ad, e, fun j u hu => hc j u ?_⟩
  have hsp : cellsV ps = cellsV (ps.take k) ++ cellsV (ps.drop k) := by rw [← cellsV_append, List.take_append_drop]
  rw [hsp]
  have hj : j < (cellsV (ps.take k)).length := by
    rcases Nat.lt_or_ge j (cellsV (ps.take k)).length with h1 | h1
    · exact h1
    · rw [List.getElem?_eq_none h1] at hu; cases hu
  rw [List.getElem?_append_left hj]; exact hu
/-- no cell of it comes before itself -/
theorem nodup_of_take {ps : List Ce} (h : ∀ j (hj : j < ps.length), ps[j] ∉ ps.take j) : ps.Nodup := by
  unfold List.Nodup
  rw [List.pairwise_iff_getElem]
  intro i j hi hj hij e
  apply h j hj
  rw [List.mem_take_iff_getElem]
  exact ⟨i, by omega, e⟩
theorem nodup_no {ps : List Ce} (h : ps.Nodup) (j : Nat) (hj : j < ps.length) : ps[j] ∉ ps.take j := by
  intro hm
  rw [List.mem_take_iff_getElem] at hm
  obtain ⟨i, hi, e⟩ := hm
  unfold List.Nodup at h
  rw [List.pairwise_iff_getElem] at h
  exact h i j (by omega) hj (by omega) e
theorem OwnC.base {w : World} {base base' : Nat} {v : Value} {ps : List Ce} (h : OwnC w base v ps) (hB : base' ≤ base) : OwnC w base' v ps := by
  obtain ⟨A, c, e, h⟩ := h; exact ⟨A, c, e, own_base h hB⟩
theorem sq_bd {d : Int} (h1 : -18 ≤ d) (h2 : d ≤ 18) : 0 ≤ d * d ∧ d * d ≤ 324 ∧ (d * d = 0 ↔ d = 0) ∧ (d * d = 1 ↔ d = 1 ∨ d = -1) ∧ (¬ (d = 0 ∨ d = 1 ∨ d = -1) → 4 ≤ d * d) := by
  rcases (show d ≤ -2 ∨ d = -1 ∨ d = 0 ∨ d = 1 ∨ 2 ≤ d from by omega) with h | h | h | h | h
  · have e1 := Int.mul_le_mul (show (2 : Int) ≤ -d by omega) (show (2 : Int) ≤ -d by omega) (by omega) (by omega)
    have e2 := Int.mul_le_mul (show -d ≤ (18 : Int) by omega) (show -d ≤ (18 : Int) by omega) (by omega) (by omega)
    rw [Int.neg_mul_neg] at e1 e2
    omega
  · subst h; omega
  · subst h; omega
  · subst h; omega
  · have e1 := Int.mul_le_mul h h (by omega) (by omega)
    have e2 := Int.mul_le_mul h2 h2 (by omega) (by omega)
    omega
theorem adj_sq {x y u v : Int} (h1 : -18 ≤ x - u) (h2 : x - u ≤ 18) (h3 : -18 ≤ y - v) (h4 : y - v ≤ 18) : decide (adjC (x, y) (u, v)) = ((x - u) * (x - u) + (y - v) * (y - v) == 1) := by
  obtain ⟨a1, a2, a3, a4, a5⟩ := sq_bd h1 h2
  obtain ⟨b1, b2, b3, b4, b5⟩ := sq_bd h3 h4
  by_cases h : adjC (x, y) (u, v)
  · rw [decide_eq_true h]; symm; rw [beq_iff_eq]
    unfold adjC at h; dsimp only at h
    rcases h with ⟨e1, e2⟩ | ⟨e1, e2⟩
    · have := b4.2 e2; have := a3.2 (by omega); omega
    · have := a4.2 e2; have := b3.2 (by omega); omega
  · rw [decide_eq_false h]; symm; rw [beq_eq_false_iff_ne]
    intro e
    apply h
    unfold adjC; dsimp only
    by_cases c1 : x - u = 0 ∨ x - u = 1 ∨ x - u = -1
    · by_cases c2 : y - v = 0 ∨ y - v = 1 ∨ y - v = -1
      · by_cases d0 : x - u = 0
        · have := a3.2 d0
          have := b4.1 (by omega)
          omega
        · have := a4.2 (by omega)
          have := b3.1 (by omega)
          omega
      · have := b5 c2; omega
    · have := a5 c1; omega
end Go.Proofs.Ytohbnogmeldmpaa
