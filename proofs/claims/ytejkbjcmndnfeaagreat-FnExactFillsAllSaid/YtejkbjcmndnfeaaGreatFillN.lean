
/- What fills a region with pieces, plainly; lists of cells that grow side by side. -/
import Derived.Test.YtejkbjcmndnfeaaGreatFormJ
import Derived.Test.YtejkbjcmndnfeaaGreatMoveS
namespace Go.Proofs.YtejkbjcmndnfeaaGreat
open Go.RowKit Go.Sort

/-! ### Plainly -/
/-- what a cell may be told -/
def cellOk (m : Nat) (b : Bool) (v : Int) : Prop := (b = true → 0 ≤ v ∧ v ≤ (m : Int) - 1) ∧ (b = false → v = -1)
/-- every cell is told what it may be -/
def fillD (m : Nat) (bs : List Bool) (fs : List Int) : Prop := ∀ k (h : k < bs.length) (h2 : k < fs.length), cellOk m bs[k] fs[k]
/-- the cells of a piece among the first ones -/
def cellsT (W : Int) (fs : List Int) (n : Int) (k : Nat) : List Ce := ((List.range k).filter fun j => decide (fs[j]? = some n)).map fun j : Nat => ((j : Int) % W, (j : Int) / W)
theorem cellsT_zero (W : Int) (fs : List Int) (n : Int) : cellsT W fs n 0 = [] := rfl
theorem cellsT_yes {W : Int} {fs : List Int} {n : Int} {k : Nat} (h : fs[k]? = some n) : cellsT W fs n (k + 1) = cellsT W fs n k ++ [((k : Int) % W, (k : Int) / W)] := by
  unfold cellsT; rw [List.range_succ, List.filter_append, List.map_append]; simp [h]
theorem cellsT_no {W : Int} {fs : List Int} {n : Int} {k : Nat} (h : fs[k]? ≠ some n) : cellsT W fs n (k + 1) = cellsT W fs n k := by
  unfold cellsT; rw [List.range_succ, List.filter_append, List.map_append]; simp [h]
theorem cellsT_len (W : Int) (fs : List Int) (n : Int) (k : Nat) : (cellsT W fs n k).length ≤ k := by
  unfold cellsT; rw [List.length_map]; exact Nat.le_trans (List.length_filter_le _ _) (by simp)
/-- the list tells every cell rightly, and each piece has its cells -/
noncomputable def fillB (W : Int) (bs : List Bool) (pss : List (List Ce)) (fs : List Int) : Bool :=
  @decide (fillD pss.length bs fs ∧ ∀ n (h : n < pss.length), sameV pss[n] (cellsT W fs n fs.length) = true) (Classical.propDecidable _)
theorem fillB_t {W : Int} {bs : List Bool} {pss : List (List Ce)} {fs : List Int} (h : fillD pss.length bs fs) (h2 : ∀ n (h : n < pss.length), sameV pss[n] (cellsT W fs n fs.length) = true) : fillB W bs pss fs = true := by
  unfold fillB; exact @decide_eq_true _ (Classical.propDecidable _) ⟨h, h2⟩
theorem fillB_f1 {W : Int} {bs : List Bool} {pss : List (List Ce)} {fs : List Int} (k : Nat) (h : k < bs.length) (h2 : k < fs.length) (hno : ¬ cellOk pss.length bs[k] fs[k]) : fillB W bs pss fs = false := by
  unfold fillB; exact @decide_eq_false _ (Classical.propDecidable _) (fun hh => hno (hh.1 k h h2))
theorem fillB_f2 {W : Int} {bs : List Bool} {pss : List (List Ce)} {fs : List Int} (n : Nat) (h : n < pss.length) (hno : sameV pss[n] (cellsT W fs n fs.length) = false) : fillB W bs pss fs = false := by
  unfold fillB; exact @decide_eq_false _ (Classical.propDecidable _) (fun hh => by have := hh.2 n h; rw [hno] at this; cases this)
/-- whether a list fills a region -/
noncomputable def fillOkB (W T : Int) (bs : List Bool) (pss : List (List Ce)) (fs : List Int) : Bool :=
  validB W T bs && (decide (pss.length ≤ 6) && piecesB pss) && decide (fs.length = bs.length) && fillB W bs pss fs

/-! ### An append of one cell that tells what has become of the blocks -/
section
variable {ops : Array Oper} {rest : List Oper} {o : Oper} {a : Act} {Q : Exit → Act → World → Prop}
theorem wpList_cell1 (W : World) (hgd : o.guard = none) (s x : Operand) (ho : o.op = .call { callee := .builtin .append, args := #[s, x], argTypes := #[32, 32] })
    (base : Nat) (v : Value) (ps : List Ce) (hs : a.eval s = v) (hown : OwnC W base v ps) (q1 q2 : Int) (H : Nat) (hx : a.eval x = .slice (some ⟨H, 0, none⟩) 1 1) (hc : W.cell? ⟨H, 0, none⟩ = some (.int .i64 q1)) (hd : W.cell? ⟨H, 1, none⟩ = some (.int .i64 q2)) (hn : ps.length ≤ 1000000) (hbase : base ≤ W.heap.size)
    (h : ∀ (A' : Option Addr) (c' : Nat) (w' : World), OwnC w' base (.slice A' (ps.length + 1) c') (ps ++ [(q1, q2)]) → W.grownBy w' v.ownBlock → ((Value.slice A' (ps.length + 1) c').ownBlock = v.ownBlock ∨ (Value.slice A' (ps.length + 1) c').ownBlock = some W.heap.size) → wpList Tryz.prog ops Q rest (a.put o.dst (.slice A' (ps.length + 1) c')) w') : wpList Tryz.prog ops Q (o :: rest) a W := by
  refine wpList_plain hgd fun K hK => ?_
  obtain ⟨i0, hi, hz0, hz1, hz2⟩ := info_parts Tryz.infoC
  obtain ⟨A, c, e, hown⟩ := hown
  obtain ⟨v', w', hr, h2, h3, _, h5⟩ := run_append_own_at (P := Tryz.prog) W base 32 o.type 89 i0 _ 2 16 Tryz.underlying32 hi hz0 hz1 hz2 rfl (by decide) v ps.length (cellsV ps) hown ⟨H, 0, none⟩ 1 1 [.int .i64 q1, .int .i64 q2] rfl
    (fun j y hj => by
      match j, hj with
      | 0, hj => simp at hj; subst hj; rw [add_off]; exact hc
      | 1, hj => simp at hj; subst hj; rw [add_off]; exact hd)
    (fun y hy => by simp at hy; rcases hy with rfl | rfl <;> rfl) (by unfold maxLen; omega) (by omega) hbase
  have e1 : cellsV ps ++ [.int .i64 q1, .int .i64 q2] = cellsV (ps ++ [(q1, q2)]) := by rw [cellsV_append]; rfl
  rw [e1] at h2
  obtain ⟨g, cap, rfl, _, _⟩ := h2.form (by omega)
  unfold Oper.wp execOp
  simp only [ho, resolve, invoke, builtin, Sem.run_bind, Sem.run_pure, Result.andThen_ok, List.map_toArray, List.map_cons, List.map_nil, hs, hx, hr]
  refine hK _ _ (h _ _ w' ⟨_, _, by simp; exact ⟨rfl, rfl⟩, ?_⟩ h3 h5)
  have e2 : (ps ++ [(q1, q2)]).length = ps.length + 1 := by simp
  rw [e2]; exact h2
end

/-! ### Lists that grow side by side -/
structure GotS (w : World) (G m : Nat) (L : List Value) (cs : Nat → List Ce) : Prop where
  row : w.ownsRow G 32 1 (.slice (some ⟨G, 0, none⟩) m m) m L
  each : ∀ n, n < m → ∃ v, L[n]? = some v ∧ OwnC w (G + 1) v (cs n)
  apart : ∀ (i j : Nat) (u v : Value) (b : Nat), i ≠ j → L[i]? = some u → L[j]? = some v → u.ownBlock = some b → v.ownBlock ≠ some b
theorem GotS.len {w : World} {G m : Nat} {L : List Value} {cs : Nat → List Ce} (h : GotS w G m L cs) : L.length = m := by have := h.row.1; omega
theorem GotS.belo {w w' : World} {G m : Nat} {L : List Value} {cs : Nat → List Ce} (h : GotS w G m L cs) (hb : Below w.heap.size w w') : GotS w' G m L cs :=
  ⟨own_below h.row hb (Nat.le_refl _), fun n hn => by obtain ⟨v, h1, h2⟩ := h.each n hn; exact ⟨v, h1, h2.belo hb⟩, h.apart⟩
theorem GotS.at_ {w : World} {G m : Nat} {L : List Value} {cs : Nat → List Ce} (h : GotS w G m L cs) {n : Nat} (hn : n < m) :
    ∃ (A : Option Addr) (c : Nat), L[n]? = some (.slice A (cs n).length c) ∧ OwnC w (G + 1) (.slice A (cs n).length c) (cs n) ∧ w.cell? ⟨G, n, none⟩ = some (.slice A (cs n).length c) ∧ w.frozen? ⟨G, n, none⟩ = false ∧ (cs n).length ≤ c ∧ G < w.heap.size := by
  obtain ⟨v, h1, h2⟩ := h.each n hn
  obtain ⟨A, c, rfl, h3⟩ := id h2
  have hc := (h.row.cellAt n (by omega)).trans h1
  refine ⟨A, c, h1, h2, hc, h.row.frozenAt n, OwnC.cap h2, ?_⟩
  have := World.block_lt_of_cell? w _ hc
  simpa using this
theorem GotS.cast {w : World} {G m : Nat} {L : List Value} {cs ds : Nat → List Ce} (h : GotS w G m L cs) (e : ∀ n, n < m → cs n = ds n) : GotS w G m L ds :=
  ⟨h.row, fun n hn => by obtain ⟨v, h1, h2⟩ := h.each n hn; exact ⟨v, h1, e n hn ▸ h2⟩, h.apart⟩
theorem GotS.put {w w1 w2 : World} {G m f : Nat} {L : List Value} {cs : Nat → List Ce} (h : GotS w G m L cs) (hb : Below w.heap.size w w1) (hf : f < m) {v v' : Value} (hv : L[f]? = some v) {ds : List Ce} (o2 : OwnC w2 (G + 1) v' ds)
    (hg : w1.grownBy w2 v.ownBlock) (hbl : v'.ownBlock = v.ownBlock ∨ v'.ownBlock = some w1.heap.size) :
    GotS (w2.setCell ⟨G, f, none⟩ v') G m (L.set f v') (fun n => if n = f then ds else cs n) := by
  have h1 := h.belo hb
  have hl := h.len
  obtain ⟨v0, e0, o0⟩ := h1.each f hf
  rw [hv] at e0
  injection e0 with e0
  subst e0
  have kr : w2.ownsRow G 32 1 (.slice (some ⟨G, 0, none⟩) m m) m L := h1.row.kept hg (.inr (fun e => by have := own_base_lt o0 G e.symm; omega))
  have inb : ∀ (j : Nat) (u : Value) (b : Nat), L[j]? = some u → u.ownBlock = some b → b < w1.heap.size := fun j u b hj hb => by
    have hjl : j < m := by rw [← hl]; exact (List.getElem?_eq_some_iff.1 hj).1
    obtain ⟨u', e, ou⟩ := h1.each j hjl
    rw [hj] at e
    injection e with e
    subst e
    obtain ⟨A, c, -, ou⟩ := ou
    exact (ou.lt b hb).2
  refine ⟨(kr.stored f _).1, fun n hn => ?_, fun i j u v2 b hij hi hj hu => ?_⟩
  · have keep : ∀ {v : Value} {qs : List Ce}, OwnC w2 (G + 1) v qs → OwnC (w2.setCell ⟨G, f, none⟩ v') (G + 1) v qs := fun ⟨A5, c5, e5, h5⟩ => ⟨A5, c5, e5, ownsRow_setCell_below h5 (by simp) _⟩
    by_cases hnf : n = f
    · subst hnf
      simp only [if_pos]
      exact ⟨v', List.getElem?_set_self (by omega), keep o2⟩
    · simp only [if_neg hnf]
      obtain ⟨u, eu, ou⟩ := h1.each n hn
      refine ⟨u, by rw [List.getElem?_set_ne (by omega)]; exact eu, keep ?_⟩
      obtain ⟨A5, c5, e5, h5⟩ := ou
      refine ⟨A5, c5, e5, h5.kept hg ?_⟩
      cases hub : u.ownBlock with
      | none => exact .inl rfl
      | some b => exact .inr (fun e => h1.apart n f u v b hnf eu hv hub e.symm)
  · by_cases h2 : i = f
    · subst h2
      rw [List.getElem?_set_self (by omega)] at hi
      injection hi with hi
      subst hi
      rw [List.getElem?_set_ne (by omega)] at hj
      rcases hbl with h3 | h3
      · exact h1.apart i j v v2 b hij hv hj (by rw [← h3]; exact hu)
      · intro e
        rw [h3] at hu
        injection hu with hu
        have := inb j v2 b hj e
        omega
    · rw [List.getElem?_set_ne (by omega)] at hi
      by_cases h4 : j = f
      · subst h4
        rw [List.getElem?_set_self (by omega)] at hj
        injection hj with hj
        subst hj
        rcases hbl with h3 | h3
        · rw [h3]; exact h1.apart i j u v b hij hi hv hu
        · rw [h3]
          intro e
          injection e with e
          have := inb i u b hi hu
          omega
      · rw [List.getElem?_set_ne (by omega)] at hj
        exact h1.apart i j u v2 b hij hi hj hu
theorem GotS.row2 {w w1 w2 : World} {G m f : Nat} {L : List Value} {cs : Nat → List Ce} (h : GotS w G m L cs) (hb : Below w.heap.size w w1) (hf : f < m) {v : Value} (hv : L[f]? = some v) (hg : w1.grownBy w2 v.ownBlock) :
    w2.cell? ⟨G, f, none⟩ = some v ∧ w2.frozen? ⟨G, f, none⟩ = false := by
  have h1 := h.belo hb
  obtain ⟨v0, e0, o0⟩ := h1.each f hf
  rw [hv] at e0
  injection e0 with e0
  subst e0
  have kr : w2.ownsRow G 32 1 (.slice (some ⟨G, 0, none⟩) m m) m L := h1.row.kept hg (.inr (fun e => by have := own_base_lt o0 G e.symm; omega))
  exact ⟨(kr.cellAt f (by omega)).trans hv, kr.frozenAt f⟩
theorem GotS.start {w : World} {G m : Nat} {L : List Value} (h : w.ownsRow G 32 1 (.slice (some ⟨G, 0, none⟩) m m) m L) (hL : ∀ n, n < m → L[n]? = some (.slice none 0 0)) : GotS w G m L (fun _ => []) := by
  have hl : L.length = m := by have := h.1; omega
  refine ⟨h, fun n hn => ⟨_, hL n hn, none, 0, rfl, World.ownsRow_nil _ _ _ _⟩, fun i j u v b hij hi hj hu => ?_⟩
  have hi2 : i < m := by rw [← hl]; exact (List.getElem?_eq_some_iff.1 hi).1
  rw [hL i hi2] at hi
  injection hi with hi
  subst hi
  cases hu
theorem GotS.below {w0 w w1 w2 : World} {B G m f : Nat} {L : List Value} {cs : Nat → List Ce} (h : GotS w G m L cs) (hb0 : Below B w0 w) (hB : B ≤ G) (hb : Below w.heap.size w w1) (hf : f < m) {v v' : Value} (hv : L[f]? = some v)
    (hg : w1.grownBy w2 v.ownBlock) (hBw : B ≤ w.heap.size) : Below B w0 (w2.setCell ⟨G, f, none⟩ v') := by
  obtain ⟨v0, e0, o0⟩ := h.each f hf
  rw [hv] at e0
  injection e0 with e0
  subst e0
  exact ((hb0.trans (hb.mono hBw)).grown hg (Nat.le_trans hBw hb.size) (fun k hk => by have := own_base_lt o0 k hk; omega)).setCell hB _
end Go.Proofs.YtejkbjcmndnfeaaGreat
