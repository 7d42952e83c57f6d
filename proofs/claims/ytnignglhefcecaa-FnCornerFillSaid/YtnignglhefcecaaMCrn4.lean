
/- FnCornerFill: joined from FillN, PiecesN, CornP, FillI, LCornerFill. -/
import Derived.Test.YtnignglhefcecaaFormJ
import Derived.Test.YtnignglhefcecaaMoveS
import Derived.Test.YtnignglhefcecaaFormL
import Derived.Test.YtnignglhefcecaaMCrn2
import Derived.Test.YtnignglhefcecaaCellss
import Derived.Test.YtnignglhefcecaaColour
import Derived.Test.YtnignglhefcecaaMemE
import Derived.Test.YtnignglhefcecaaMCrn3
import Derived.Test.YtnignglhefcecaaSet
import Derived.Test.YtnignglhefcecaaDraw
import Derived.Test.YtnignglhefcecaaAlive
/- What fills a region with pieces, plainly; lists of cells that grow side by side. -/
namespace Go.Proofs.Ytnignglhefcecaa
open Go.RowKit Go.Sort

/-! ### Plainly -/
/-- what a cell may be told -/
def cellOk (m : Nat) (b : Bool) (v : Int) : Prop := (b = true → 0 ≤ v ∧ v ≤ (m : Int) - 1) ∧ (b = false → v = -1)
/-- every cell is told what it may be -/
def fillD (m : Nat) (bs : List Bool) (fs : List Int) : Prop := ∀ k (h : k < bs.length) (h2 : k < fs.length), cellOk m bs[k] fs[k]
/-- the cells of a piece among the first ones -/
def cellsT (W : Int) (fs : List Int) (n : Int) (k : Nat) : List Ce := ((List.range k).filter fun j => decide (fs[j]? = some n)).map fun j : Nat => ((j : Int) % W, (j : Int) / W)
theorem cellsT_zero (W : Int) (fs : List Int) (n : Int) : cellsT W fs n 0 = [] := rfl
theorem cellsT_yes {W : Int} {fs : List Int} {n : Int} {k : Nat} (h : fs[k]? = some n) : cellsT W fs n (k + 1) = cellsT W fs n k ++ [((k : Int) % W, (k : Int) / W)] := by
  unfold cellsT; rw [List.range_succ, List.filter_append, List.map_append]; simp [h]
theorem cellsT_no {W : Int} {fs : List Int} {n : Int} {k : Nat} (h : fs[k]? ≠ some n) : cellsT W fs n (k + 1) = cellsT W fs n k := by
  unfold cellsT; rw [List.range_succ, List.filter_append, List.map_append]; simp [h]
theorem cellsT_len (W : Int) (fs : List Int) (n : Int) (k : Nat) : (cellsT W fs n k).length ≤ k := by
  unfold cellsT; rw [List.length_map]; exact Nat.le_trans (List.length_filter_le _ _) (by simp)
/-- the list tells every cell rightly, and each piece has its cells -/
noncomputable def fillB (W : Int) (bs : List Bool) (pss : List (List Ce)) (fs : List Int) : Bool :=
  @decide (fillD pss.length bs fs ∧ ∀ n (h : n < pss.length), sameV pss[n] (cellsT W fs n fs.length) = true) (Classical.propDecidable _)
theorem fillB_t {W : Int} {bs : List Bool} {pss : List (List Ce)} {fs : List Int} (h : fillD pss.length bs fs) (h2 : ∀ n (h : n < pss.length), sameV pss[n] (cellsT W fs n fs.length) = true) : fillB W bs pss fs = true := by
  unfold fillB; exact @decide_eq_true _ (Classical.propDecidable _) ⟨h, h2⟩
theorem fillB_f1 {W : Int} {bs : List Bool} {pss : List (List Ce)} {fs : List Int} (k : Nat) (h : k < bs.length) (h2 : k < fs.length) (hno : ¬ cellOk pss.length bs[k] fs[k]) : fillB W bs pss fs = false := by
  unfold fillB; exact @decide_eq_false _ (Classical.propDecidable _) (fun hh => hno (hh.1 k h h2))
theorem fillB_f2 {W : Int} {bs : List Bool} {pss : List (List Ce)} {fs : List Int} (n : Nat) (h : n < pss.length) (hno : sameV pss[n] (cellsT W fs n fs.length) = false) : fillB W bs pss fs = false := by
  unfold fillB; exact @decide_eq_false _ (Classical.propDecidable _) (fun hh => by have := hh.2 n h; rw [hno] at this; cases this)
/-- whether a list fills a region -/
noncomputable def fillOkB (W T : Int) (bs : List Bool) (pss : List (List Ce)) (fs : List Int) : Bool :=
  validB W T bs && (decide (pss.length ≤ 6) && piecesB pss) && decide (fs.length = bs.length) && fillB W bs pss fs

/-! ### An append of one cell that tells what has become of the blocks -/
section
variable {ops : Array Oper} {rest : List Oper} {o : Oper} {a : Act} {Q : Exit → Act → World → Prop}
theorem wpList_cell1 (W : World) (hgd : o.guard = none) (s x : Operand) (ho : o.op = .call { callee := .builtin .append, args := #[s, x], argTypes := #[23, 23] })
    (base : Nat) (v : Value) (ps : List Ce) (hs : a.eval s = v) (hown : OwnC W base v ps) (q1 q2 : Int) (H : Nat) (hx : a.eval x = .slice (some ⟨H, 0, none⟩) 1 1) (hc : W.cell? ⟨H, 0, none⟩ = some (.int .i64 q1)) (hd : W.cell? ⟨H, 1, none⟩ = some (.int .i64 q2)) (hn : ps.length ≤ 1000000) (hbase : base ≤ W.heap.size)
    (h : ∀ (A' : Option Addr) (c' : Nat) (w' : World), OwnC w' base (.slice A' (ps.length + 1) c') (ps ++ [(q1, q2)]) → W.grownBy w' v.ownBlock → ((Value.slice A' (ps.length + 1) c').ownBlock = v.ownBlock ∨ (Value.slice A' (ps.length + 1) c').ownBlock = some W.heap.size) → wpList Try.prog ops Q rest (a.put o.dst (.slice A' (ps.length + 1) c')) w') : wpList Try.prog ops Q (o :: rest) a W := by
  refine wpList_plain hgd fun K hK => ?_
  obtain ⟨i0, hi, hz0, hz1, hz2⟩ := info_parts Try.infoC
  obtain ⟨A, c, e, hown⟩ := hown
  obtain ⟨v', w', hr, h2, h3, _, h5⟩ := run_append_own_at (P := Try.prog) W base 23 o.type 44 i0 _ 2 16 Try.underlying23 hi hz0 hz1 hz2 rfl (by decide) v ps.length (cellsV ps) hown ⟨H, 0, none⟩ 1 1 [.int .i64 q1, .int .i64 q2] rfl
    (fun j y hj => by
      match j, hj with
      | 0, hj => simp at hj; subst hj; rw [add_off]; exact hc
      | 1, hj => simp at hj; subst hj; rw [add_off]; exact hd)
    (fun y hy => by simp at hy; rcases hy with rfl | rfl <;> rfl) (by unfold maxLen; omega) (by omega) hbase
  have e1 : cellsV ps ++ [.int .i64 q1, .int .i64 q2] = cellsV (ps ++ [(q1, q2)]) := by rw [cellsV_append]; rfl
  rw [e1] at h2
  obtain ⟨g, cap, rfl, _, _⟩ := h2.form (by omega)
  unfold Oper.wp execOp
  simp only [ho, resolve, invoke, builtin, Sem.run_bind, Sem.run_pure, Result.andThen_ok, List.map_toArray, List.map_cons, List.map_nil, hs, hx, hr]
  refine hK _ _ (h _ _ w' ⟨_, _, by simp; exact ⟨rfl, rfl⟩, ?_⟩ h3 h5)
  have e2 : (ps ++ [(q1, q2)]).length = ps.length + 1 := by simp
  rw [e2]; exact h2
end

/-! ### Lists that grow side by side -/
structure GotS (w : World) (G m : Nat) (L : List Value) (cs : Nat → List Ce) : Prop where
  row : w.ownsRow G 23 1 (.slice (some ⟨G, 0, none⟩) m m) m L
  each : ∀ n, n < m → ∃ v, L[n]? = some v ∧ OwnC w (G + 1) v (cs n)
  apart : ∀ (i j : Nat) (u v : Value) (b : Nat), i ≠ j → L[i]? = some u → L[j]? = some v → u.ownBlock = some b → v.ownBlock ≠ some b
theorem GotS.len {w : World} {G m : Nat} {L : List Value} {cs : Nat → List Ce} (h : GotS w G m L cs) : L.length = m := by have := h.row.1; omega
theorem GotS.belo {w w' : World} {G m : Nat} {L : List Value} {cs : Nat → List Ce} (h : GotS w G m L cs) (hb : Below w.heap.size w w') : GotS w' G m L cs :=
  ⟨own_below h.row hb (Nat.le_refl _), fun n hn => by obtain ⟨v, h1, h2⟩ := h.each n hn; exact ⟨v, h1, h2.belo hb⟩, h.apart⟩
theorem GotS.at_ {w : World} {G m : Nat} {L : List Value} {cs : Nat → List Ce} (h : GotS w G m L cs) {n : Nat} (hn : n < m) :
    ∃ (A : Option Addr) (c : Nat), L[n]? = some (.slice A (cs n).length c) ∧ OwnC w (G + 1) (.slice A (cs n).length c) (cs n) ∧ w.cell? ⟨G, n, none⟩ = some (.slice A (cs n).length c) ∧ w.frozen? ⟨G, n, none⟩ = false ∧ (cs n).length ≤ c ∧ G < w.heap.size := by
  obtain ⟨v, h1, h2⟩ := h.each n hn
  obtain ⟨A, c, rfl, h3⟩ := id h2
  have hc := (h.row.cellAt n (by omega)).trans h1
  refine ⟨A, c, h1, h2, hc, h.row.frozenAt n, OwnC.cap h2, ?_⟩
  have := World.block_lt_of_cell? w _ hc
  simpa using this
theorem GotS.cast {w : World} {G m : Nat} {L : List Value} {cs ds : Nat → List Ce} (h : GotS w G m L cs) (e : ∀ n, n < m → cs n = ds n) : GotS w G m L ds :=
  ⟨h.row, fun n hn => by obtain ⟨v, h1, h2⟩ := h.each n hn; exact ⟨v, h1, e n hn ▸ h2⟩, h.apart⟩
theorem GotS.put {w w1 w2 : World} {G m f : Nat} {L : List Value} {cs : Nat → List Ce} (h : GotS w G m L cs) (hb : Below w.heap.size w w1) (hf : f < m) {v v' : Value} (hv : L[f]? = some v) {ds : List Ce} (o2 : OwnC w2 (G + 1) v' ds)
    (hg : w1.grownBy w2 v.ownBlock) (hbl : v'.ownBlock = v.ownBlock ∨ v'.ownBlock = some w1.heap.size) :
    GotS (w2.setCell ⟨G, f, none⟩ v') G m (L.set f v') (fun n => if n = f then ds else cs n) := by
  have h1 := h.belo hb
  have hl := h.len
  obtain ⟨v0, e0, o0⟩ := h1.each f hf
  rw [hv] at e0
  injection e0 with e0
  subst e0
  have kr : w2.ownsRow G 23 1 (.slice (some ⟨G, 0, none⟩) m m) m L := h1.row.kept hg (.inr (fun e => by have := own_base_lt o0 G e.symm; omega))
  have inb : ∀ (j : Nat) (u : Value) (b : Nat), L[j]? = some u → u.ownBlock = some b → b < w1.heap.size := fun j u b hj hb => by
    have hjl : j < m := by rw [← hl]; exact (List.getElem?_eq_some_iff.1 hj).1
    obtain ⟨u', e, ou⟩ := h1.each j hjl
    rw [hj] at e
    injection e with e
    subst e
    obtain ⟨A, c, -, ou⟩ := ou
    exact (ou.lt b hb).2
  refine ⟨(kr.stored f _).1, fun n hn => ?_, fun i j u v2 b hij hi hj hu => ?_⟩
  · have keep : ∀ {v : Value} {qs : List Ce}, OwnC w2 (G + 1) v qs → OwnC (w2.setCell ⟨G, f, none⟩ v') (G + 1) v qs := fun ⟨A5, c5, e5, h5⟩ => ⟨A5, c5, e5, ownsRow_setCell_below h5 (by simp) _⟩
    by_cases hnf : n = f
    · subst hnf
      simp only [if_pos]
      exact ⟨v', List.getElem?_set_self (by omega), keep o2⟩
    · simp only [if_neg hnf]
      obtain ⟨u, eu, ou⟩ := h1.each n hn
      refine ⟨u, by rw [List.getElem?_set_ne (by omega)]; exact eu, keep ?_⟩
      obtain ⟨A5, c5, e5, h5⟩ := ou
      refine ⟨A5, c5, e5, h5.kept hg ?_⟩
      cases hub : u.ownBlock with
      | none => exact .inl rfl
      | some b => exact .inr (fun e => h1.apart n f u v b hnf eu hv hub e.symm)
  · by_cases h2 : i = f
    · subst h2
      rw [List.getElem?_set_self (by omega)] at hi
      injection hi with hi
      subst hi
      rw [List.getElem?_set_ne (by omega)] at hj
      rcases hbl with h3 | h3
      · exact h1.apart i j v v2 b hij hv hj (by rw [← h3]; exact hu)
      · intro e
        rw [h3] at hu
        injection hu with hu
        have := inb j v2 b hj e
        omega
    · rw [List.getElem?_set_ne (by omega)] at hi
      by_cases h4 : j = f
      · subst h4
        rw [List.getElem?_set_self (by omega)] at hj
        injection hj with hj
        subst hj
        rcases hbl with h3 | h3
        · rw [h3]; exact h1.apart i j u v b hij hi hv hu
        · rw [h3]
          intro e
          injection e with e
          have := inb i u b hi hu
          omega
      · rw [List.getElem?_set_ne (by omega)] at hj
        exact h1.apart i j u v2 b hij hi hj hu
theorem GotS.row2 {w w1 w2 : World} {G m f : Nat} {L : List Value} {cs : Nat → List Ce} (h : GotS w G m L cs) (hb : Below w.heap.size w w1) (hf : f < m) {v : Value} (hv : L[f]? = some v) (hg : w1.grownBy w2 v.ownBlock) :
    w2.cell? ⟨G, f, none⟩ = some v ∧ w2.frozen? ⟨G, f, none⟩ = false := by
  have h1 := h.belo hb
  obtain ⟨v0, e0, o0⟩ := h1.each f hf
  rw [hv] at e0
  injection e0 with e0
  subst e0
  have kr : w2.ownsRow G 23 1 (.slice (some ⟨G, 0, none⟩) m m) m L := h1.row.kept hg (.inr (fun e => by have := own_base_lt o0 G e.symm; omega))
  exact ⟨(kr.cellAt f (by omega)).trans hv, kr.frozenAt f⟩
theorem GotS.start {w : World} {G m : Nat} {L : List Value} (h : w.ownsRow G 23 1 (.slice (some ⟨G, 0, none⟩) m m) m L) (hL : ∀ n, n < m → L[n]? = some (.slice none 0 0)) : GotS w G m L (fun _ => []) := by
  have hl : L.length = m := by have := h.1; omega
  refine ⟨h, fun n hn => ⟨_, hL n hn, none, 0, rfl, World.ownsRow_nil _ _ _ _⟩, fun i j u v b hij hi hj hu => ?_⟩
  have hi2 : i < m := by rw [← hl]; exact (List.getElem?_eq_some_iff.1 hi).1
  rw [hL i hi2] at hi
  injection hi with hi
  subst hi
  cases hu
theorem GotS.below {w0 w w1 w2 : World} {B G m f : Nat} {L : List Value} {cs : Nat → List Ce} (h : GotS w G m L cs) (hb0 : Below B w0 w) (hB : B ≤ G) (hb : Below w.heap.size w w1) (hf : f < m) {v v' : Value} (hv : L[f]? = some v)
    (hg : w1.grownBy w2 v.ownBlock) (hBw : B ≤ w.heap.size) : Below B w0 (w2.setCell ⟨G, f, none⟩ v') := by
  obtain ⟨v0, e0, o0⟩ := h.each f hf
  rw [hv] at e0
  injection e0 with e0
  subst e0
  exact ((hb0.trans (hb.mono hBw)).grown hg (Nat.le_trans hBw hb.size) (fun k hk => by have := own_base_lt o0 k hk; omega)).setCell hB _
end Go.Proofs.Ytnignglhefcecaa

/- All pieces of so many cells, plainly. -/
namespace Go.Proofs.Ytnignglhefcecaa

/-! ### Sorting that the kernel can run -/
def insC (c : Ce) : List Ce → List Ce
  | [] => [c]
  | d :: l => if ltC c d = true then c :: d :: l else d :: insC c l
def isortC : List Ce → List Ce
  | [] => []
  | c :: l => insC c (isortC l)
theorem insC_perm (c : Ce) (l : List Ce) : (insC c l).Perm (c :: l) := by
  induction l with
  | nil => exact List.Perm.refl _
  | cons d l ih =>
    unfold insC
    split
    · exact List.Perm.refl _
    · exact (ih.cons d).trans (List.Perm.swap c d l)
theorem isortC_perm (l : List Ce) : (isortC l).Perm l := by
  induction l with
  | nil => exact List.Perm.refl _
  | cons c l ih => exact (insC_perm c _).trans (ih.cons c)
theorem ltC_asymm {a b : Ce} (h : ltC a b = true) : ltC b a = false := by
  unfold ltC at *
  simp only [decide_eq_true_eq, decide_eq_false_iff_not] at *
  omega
theorem ltC_ntrans {a b c : Ce} (h1 : ltC b a = false) (h2 : ltC c b = false) : ltC c a = false := by
  unfold ltC at *
  simp only [decide_eq_false_iff_not] at *
  omega
theorem insC_pw {c : Ce} {l : List Ce} (h : l.Pairwise fun x y => ltC y x = false) : (insC c l).Pairwise fun x y => ltC y x = false := by
  induction l with
  | nil => simp [insC]
  | cons d l ih =>
    obtain ⟨h1, h2⟩ := List.pairwise_cons.1 h
    unfold insC
    split
    · rename_i hcd
      refine List.pairwise_cons.2 ⟨fun z hz => ?_, h⟩
      rcases List.mem_cons.1 hz with rfl | hz
      · exact ltC_asymm hcd
      · exact ltC_ntrans (ltC_asymm hcd) (h1 z hz)
    · rename_i hcd
      refine List.pairwise_cons.2 ⟨fun z hz => ?_, ih h2⟩
      rcases List.mem_cons.1 ((insC_perm c l).mem_iff.1 hz) with rfl | hz
      · simpa using hcd
      · exact h1 z hz
theorem isortC_pw (l : List Ce) : (isortC l).Pairwise fun x y => ltC y x = false := by
  induction l with
  | nil => simp [isortC]
  | cons c l ih => exact insC_pw ih
theorem isort_eq (l : List Ce) : isortC l = sortC l := sortC_unique (isortC_perm l) (isortC_pw l)
def mvdK (ps : List Ce) : List Ce := isortC (ps.map (subC (loP ps)))
theorem mvdK_eq (ps : List Ce) : mvdK ps = mvd ps := isort_eq _
def formsK (ps : List Ce) : List (List Ce) := [mvdK (ps.map (turnN 0)), mvdK (ps.map (turnN 1)), mvdK (ps.map (turnN 2)), mvdK (ps.map (turnN 3)), mvdK (ps.map (turnFlip 0)), mvdK (ps.map (turnFlip 1)), mvdK (ps.map (turnFlip 2)), mvdK (ps.map (turnFlip 3))]
theorem formsK_eq (ps : List Ce) : formsK ps = formsF ps := by
  unfold formsK
  simp only [mvdK_eq]
  rfl
def firstK (ps : List Ce) : List Ce := (incOf (formsK ps)).headD []
theorem firstK_eq {ps : List Ce} (h : PieceOk ps) : firstV ps = firstK ps := by
  unfold firstV firstK
  rw [formsV_ok h, formsK_eq]

/-! ### Grown by a cell -/
def nearC (c : Ce) : List Ce := [(c.1 + 1, c.2), (c.1, c.2 + 1), (c.1 - 1, c.2), (c.1, c.2 - 1)]
theorem near_adj {c x : Ce} (h : x ∈ nearC c) : adjC x c := by
  obtain ⟨x1, x2⟩ := x
  obtain ⟨c1, c2⟩ := c
  unfold nearC at h
  simp only [List.mem_cons, Prod.mk.injEq, List.not_mem_nil, or_false] at h
  unfold adjC
  simp only
  omega
theorem adj_near {c x : Ce} (h : adjC x c) : x ∈ nearC c := by
  obtain ⟨x1, x2⟩ := x
  obtain ⟨c1, c2⟩ := c
  unfold adjC at h
  simp only at h
  unfold nearC
  simp only [List.mem_cons, Prod.mk.injEq, List.not_mem_nil, or_false]
  omega
/-- the new cells at one cell, those that the piece has left out -/
def newsC (p : List Ce) (c : Ce) : List Ce := (nearC c).filter fun x => !decide (x ∈ p)
/-- all pieces with a cell more, and their first forms -/
noncomputable def growV (p : List Ce) : List (List Ce) := p.flatMap fun c => (newsC p c).map fun x => firstV (p ++ [x])
noncomputable def growL (L : List (List Ce)) : List (List Ce) := L.flatMap growV
noncomputable def allP : Nat → List (List Ce)
  | 0 => []
  | 1 => [[(0, 0)]]
  | n + 2 => incOf (growL (allP (n + 1)))
def growK (p : List Ce) : List (List Ce) := p.flatMap fun c => (newsC p c).map fun x => firstK (p ++ [x])
def allK : Nat → List (List Ce)
  | 0 => []
  | 1 => [[(0, 0)]]
  | n + 2 => incOf ((allK (n + 1)).flatMap growK)
theorem ok_snoc {p : List Ce} (h : PieceOk p) (hl : p.length < 5) {c x : Ce} (hc : c ∈ p) (hx : adjC x c) (hn : x ∉ p) (hb : ∀ d ∈ p, -8 ≤ d.1 ∧ d.1 ≤ 8 ∧ -8 ≤ d.2 ∧ d.2 ≤ 8) : PieceOk (p ++ [x]) := by
  obtain ⟨⟨l1, l2⟩, h2, h3, h4⟩ := h
  have hh : (p ++ [x]).headD (0, 0) = p.headD (0, 0) := by
    cases p with
    | nil => simp at l1
    | cons a l => rfl
  refine ⟨⟨by simp, by simp; omega⟩, ?_, ?_, ?_⟩
  · intro d hd
    rcases List.mem_append.1 hd with hd | hd
    · exact h2 d hd
    · simp at hd
      subst hd
      have := hb c hc
      unfold adjC at hx
      omega
  · rw [List.nodup_append]
    refine ⟨h3, by simp, fun a ha b hb e => ?_⟩
    simp at hb
    subst hb; subst e
    exact hn ha
  · rw [hh]
    intro a ha
    have hr : ∀ b ∈ p, ReachC (p ++ [x]) (p.headD (0, 0)) b := fun b hb => reach_mono (h4 b hb) (fun y hy => List.mem_append_left _ hy)
    rcases List.mem_append.1 ha with ha | ha
    · exact hr a ha
    · simp at ha
      subst ha
      exact .step c _ (hr c hc) (by simp) hx
/-- moved: near the edge -/
def Edge (p : List Ce) : Prop := ∀ d ∈ p, 0 ≤ d.1 ∧ d.1 ≤ 4 ∧ 0 ≤ d.2 ∧ d.2 ≤ 4
theorem mvd_edge {p : List Ce} (h : PieceOk p) : Edge (mvd p) := by
  intro d hd
  obtain ⟨⟨l1, l2⟩, -, -, h4⟩ := h
  have hne : p ≠ [] := by rintro rfl; simp at l1
  obtain ⟨c, hc, rfl⟩ := List.mem_map.1 ((mvd_perm0 p).mem_iff.1 hd)
  obtain ⟨⟨u, hu, e1⟩, ⟨v, hv, e2⟩⟩ := lo_att hne p.length (Nat.le_refl _)
  have hsp : p.headD (0, 0) ∈ p := by cases p with | nil => simp at l1 | cons a l => simp
  have r1 := reach_w l2 (reach_trans (reach_symm (h4 u hu) hsp) (h4 c hc)) hu
  have r2 := reach_w l2 (reach_trans (reach_symm (h4 v hv) hsp) (h4 c hc)) hv
  have k := loP_le p c hc
  unfold loP at *
  unfold subC
  simp only
  omega
theorem form_edge {p x : List Ce} (hx : x ∈ formsV p) : Edge x := by
  have h := ok_of_pieceB (formsV_each hx).2
  rw [formsV_ok h, incOf_mem, walkF_mem] at hx
  obtain ⟨k, hk, rfl⟩ := hx
  unfold walkF
  split
  · exact mvd_edge (ok_turnN h k)
  · exact mvd_edge (ok_turnFlip h _)
structure AllOk (n : Nat) (p : List Ce) : Prop where
  ok : PieceOk p
  len : p.length = n
  edge : Edge p
  first : firstV p = p
theorem first_first {p : List Ce} (h : PieceOk p) : firstV (firstV p) = firstV p := by
  have := (forms_of_form (first_mem h)).1
  show (formsV (firstV p)).headD [] = _
  rw [this]; rfl
theorem first_ok {p : List Ce} (h : PieceOk p) : AllOk p.length (firstV p) :=
  ⟨(forms_of_form (first_mem h)).2, first_len h, form_edge (first_mem h), first_first h⟩
theorem one_ok : AllOk 1 [(0, 0)] := by
  have h : PieceOk [((0 : Int), (0 : Int))] := by
    refine ⟨⟨by simp, by simp⟩, ?_, by simp, ?_⟩
    · intro c hc; simp at hc; subst hc; simp
    · intro a ha; simp at ha; subst ha; exact .base
  refine ⟨h, rfl, ?_, ?_⟩
  · intro c hc; simp at hc; subst hc; simp
  · rw [firstK_eq h]; decide +kernel
theorem grow_ok {n : Nat} {p : List Ce} (h : AllOk n p) (hn : n < 5) {c x : Ce} (hc : c ∈ p) (hx : x ∈ newsC p c) : PieceOk (p ++ [x]) := by
  unfold newsC at hx
  rw [List.mem_filter] at hx
  refine ok_snoc h.ok (by rw [h.len]; exact hn) hc (near_adj hx.1) (by simpa using hx.2) (fun d hd => ?_)
  have := h.edge d hd
  omega
theorem allP_ok : ∀ n, n ≤ 5 → ∀ p ∈ allP n, AllOk n p
  | 0, _, p, hp => by simp [allP] at hp
  | 1, _, p, hp => by simp [allP] at hp; subst hp; exact one_ok
  | n + 2, hn, p, hp => by
    unfold allP at hp
    rw [incOf_mem] at hp
    unfold growL growV at hp
    rw [List.mem_flatMap] at hp
    obtain ⟨q, hq, hp⟩ := hp
    rw [List.mem_flatMap] at hp
    obtain ⟨c, hc, hp⟩ := hp
    rw [List.mem_map] at hp
    obtain ⟨x, hx, rfl⟩ := hp
    have hqo := allP_ok (n + 1) (by omega) q hq
    have hok := grow_ok hqo (by omega) hc hx
    have := first_ok hok
    rw [show (q ++ [x]).length = n + 2 by rw [List.length_append, hqo.len]; rfl] at this
    exact this
theorem allP_inc : ∀ n, Inc (allP n)
  | 0 => by simp [allP, Inc]
  | 1 => by simp [allP, Inc]
  | n + 2 => by unfold allP; exact incOf_inc _
theorem growV_eq {n : Nat} {p : List Ce} (h : AllOk n p) (hn : n < 5) : growV p = growK p := by
  have hm : ∀ {α β : Type} (l : List α) (f g : α → List β), (∀ a ∈ l, f a = g a) → l.flatMap f = l.flatMap g := fun l f g hfg => by
    rw [List.flatMap_def, List.flatMap_def, List.map_congr_left hfg]
  unfold growV growK
  refine hm _ _ _ (fun c hc => List.map_congr_left (fun x hx => firstK_eq (grow_ok h hn hc hx)))
theorem allP_eq : ∀ n, n ≤ 5 → allP n = allK n
  | 0, _ => rfl
  | 1, _ => rfl
  | n + 2, hn => by
    have hm : ∀ {α β : Type} (l : List α) (f g : α → List β), (∀ a ∈ l, f a = g a) → l.flatMap f = l.flatMap g := fun l f g hfg => by
      rw [List.flatMap_def, List.flatMap_def, List.map_congr_left hfg]
    unfold allP allK growL
    rw [← allP_eq (n + 1) (by omega)]
    rw [hm _ _ _ (fun p hp => growV_eq (allP_ok (n + 1) (by omega) p hp) (by omega))]
theorem all_len : (allP 1).length = 1 ∧ (allP 2).length = 1 ∧ (allP 3).length = 2 ∧ (allP 4).length = 5 ∧ (allP 5).length = 12 := by
  rw [allP_eq 1 (by omega), allP_eq 2 (by omega), allP_eq 3 (by omega), allP_eq 4 (by omega), allP_eq 5 (by omega)]
  decide +kernel
theorem all_apart {n : Nat} (hn : n ≤ 5) {a b : List Ce} (ha : a ∈ allP n) (hb : b ∈ allP n) (h : firstV a = firstV b) : a = b := by
  rw [← (allP_ok n hn a ha).first, h, (allP_ok n hn b hb).first]
end Go.Proofs.Ytnignglhefcecaa

/- Corners fill a square without a cell, plainly: every side and cell checked by the kernel. -/
namespace Go.Proofs.Ytnignglhefcecaa
open Go.RowKit Go.Sort

/-- three cells that hang together -/
def reach3 (a b c : Ce) : Bool := (decide (adjC b a) && (decide (adjC c a) || decide (adjC c b))) || (decide (adjC c a) && decide (adjC b c))
def piece3 : List Ce → Bool
  | [a, b, c] => reach3 a b c && decide (a ≠ b) && decide (a ≠ c) && decide (b ≠ c) && [a, b, c].all fun q => decide (-9 ≤ q.1) && decide (q.1 ≤ 9) && decide (-9 ≤ q.2) && decide (q.2 ≤ 9)
  | _ => false
theorem piece3_ok {p : List Ce} (h : piece3 p = true) : PieceOk p := by
  match p, h with
  | [a, b, c], h =>
    unfold piece3 at h
    simp only [Bool.and_eq_true, decide_eq_true_eq, List.all_eq_true] at h
    obtain ⟨⟨⟨⟨h1, h2⟩, h3⟩, h4⟩, h5⟩ := h
    refine ⟨by simp, fun q hq => ?_, by simp [h2, h3, h4], ?_⟩
    · obtain ⟨⟨⟨k1, k2⟩, k3⟩, k4⟩ := h5 q hq
      exact ⟨k1, k2, k3, k4⟩
    · have ma : a ∈ [a, b, c] := by simp
      have mb : b ∈ [a, b, c] := by simp
      have mc : c ∈ [a, b, c] := by simp
      unfold reach3 at h1
      simp only [Bool.or_eq_true, Bool.and_eq_true, decide_eq_true_eq] at h1
      have ra : ReachC [a, b, c] a a := .base
      have key : ReachC [a, b, c] a b ∧ ReachC [a, b, c] a c := by
        rcases h1 with ⟨k1, k2 | k2⟩ | ⟨k1, k2⟩
        · exact ⟨.step a b ra mb k1, .step a c ra mc k2⟩
        · exact ⟨.step a b ra mb k1, .step b c (.step a b ra mb k1) mc k2⟩
        · exact ⟨.step c b (.step a c ra mc k1) mb k2, .step a c ra mc k1⟩
      intro x hx
      simp only [List.mem_cons, List.not_mem_nil, or_false] at hx
      rcases hx with rfl | rfl | rfl
      · exact ra
      · exact key.1
      · exact key.2
/-- the corner -/
def crnP : List Ce := [(0, 0), (1, 0), (0, 1)]
def same3 (p : List Ce) : Bool := piece3 p && decide (firstK crnP = firstK p)
theorem crnP_ok : PieceOk crnP := piece3_ok (by decide +kernel)
theorem same3_ok {p : List Ce} (h : same3 p = true) : sameV crnP p = true := by
  unfold same3 at h
  rw [Bool.and_eq_true, decide_eq_true_eq] at h
  have hp := piece3_ok h.1
  unfold sameV
  rw [pieceB_t crnP_ok, pieceB_t hp, firstK_eq crnP_ok, firstK_eq hp, decide_eq_true h.2]
  rfl
/-- what is asked of a list that fills the square of a side without a cell -/
def crnK (side m cell : Nat) (V : List Int) : Bool :=
  decide (V.length = side * side) && ((List.range (side * side)).all fun k => if k = cell then decide (V.getD k 0 = -1) else decide (0 ≤ V.getD k 0) && decide (V.getD k 0 ≤ (m : Int) - 1)) && (List.range m).all fun n => same3 (cellsT side V n V.length)
def crnB (side cell : Nat) : List Bool := (List.replicate (side * side) true).set cell false
theorem crnB_get {side cell k : Nat} (h : k < (crnB side cell).length) : (crnB side cell)[k] = !decide (k = cell) := by
  simp only [crnB, List.getElem_set, List.getElem_replicate]
  by_cases hc : cell = k
  · simp [hc]
  · have : ¬ k = cell := fun e => hc e.symm
    simp [hc, this]
theorem crnK_ok {side m cell : Nat} {V : List Int} (h : crnK side m cell V = true) : V.length = side * side ∧ fillB side (crnB side cell) (List.replicate m crnP) V = true := by
  unfold crnK at h
  rw [Bool.and_eq_true, Bool.and_eq_true, decide_eq_true_eq, List.all_eq_true, List.all_eq_true] at h
  obtain ⟨⟨h1, h2⟩, h3⟩ := h
  refine ⟨h1, fillB_t (fun k hk hk2 => ?_) (fun n hn => ?_)⟩
  · have hks : k < side * side := by omega
    have h4 := h2 k (List.mem_range.2 hks)
    have e1 : V.getD k 0 = V[k] := by rw [List.getD_eq_getElem?_getD, List.getElem?_eq_getElem hk2]; rfl
    rw [e1] at h4
    have e2 := crnB_get hk
    rw [e2, List.length_replicate]
    by_cases hc : k = cell
    · rw [if_pos hc, decide_eq_true_eq] at h4
      exact ⟨fun e => by simp [hc] at e, fun _ => h4⟩
    · rw [if_neg hc, Bool.and_eq_true, decide_eq_true_eq, decide_eq_true_eq] at h4
      exact ⟨fun _ => h4, fun e => by simp [hc] at e⟩
  · rw [List.length_replicate] at hn
    rw [List.getElem_replicate]
    exact same3_ok (h3 n (List.mem_range.2 hn))
set_option maxRecDepth 100000 in
theorem crnK_all1 : crnK 1 0 0 (crnV 1 0 0) = true := by decide +kernel
set_option maxRecDepth 100000 in
set_option maxHeartbeats 4000000 in
theorem crnK_all2 : ∀ k ∈ List.range 4, crnK 2 1 k (crnV 2 1 k) = true := by decide +kernel
set_option maxRecDepth 100000 in
set_option maxHeartbeats 40000000 in
theorem crnK_all4 : ∀ k ∈ List.range 16, crnK 4 5 k (crnV 4 2 k) = true := by decide +kernel
theorem crnB_valid (side cell : Nat) (hs : 1 ≤ side ∧ side ≤ 4) : validB side side (crnB side cell) = true := by
  refine validB_iff.2 ⟨⟨by omega, by omega⟩, ⟨by omega, by omega⟩, by unfold crnB; simp, ?_⟩
  have h1 := (cnt_le (crnB side cell)).2
  have h2 : (crnB side cell).length = side * side := by unfold crnB; simp
  have h3 : side * side ≤ 16 := by
    have := Nat.mul_le_mul hs.2 hs.2
    omega
  omega
theorem crn_pieces (m : Nat) (hm : m ≤ 5) : (decide ((List.replicate m crnP).length ≤ 6) && piecesB (List.replicate m crnP)) = true := by
  rw [Bool.and_eq_true, decide_eq_true_eq]
  refine ⟨by simp; omega, piecesB_t fun k hk _ => ?_⟩
  rw [List.getElem_replicate]
  exact pieceB_t crnP_ok
/-- each list of corners is right -/
theorem crn_fill (side m f cell : Nat) (h : (side = 1 ∧ m = 0 ∧ f = 0) ∨ (side = 2 ∧ m = 1 ∧ f = 1) ∨ (side = 4 ∧ m = 5 ∧ f = 2)) (hc : cell < side * side) :
    fillOkB side side (crnB side cell) (List.replicate m crnP) (crnV side f cell) = true := by
  have key : crnK side m cell (crnV side f cell) = true := by
    rcases h with ⟨rfl, rfl, rfl⟩ | ⟨rfl, rfl, rfl⟩ | ⟨rfl, rfl, rfl⟩
    · have : cell = 0 := by omega
      subst this; exact crnK_all1
    · exact crnK_all2 cell (List.mem_range.2 hc)
    · exact crnK_all4 cell (List.mem_range.2 hc)
  obtain ⟨h1, h2⟩ := crnK_ok key
  unfold fillOkB
  rw [crnB_valid side cell (by omega), crn_pieces m (by omega), decide_eq_true (show (crnV side f cell).length = (crnB side cell).length by rw [h1]; unfold crnB; simp), h2]
  rfl
end Go.Proofs.Ytnignglhefcecaa

/- Contract: the program's FillOk. -/
namespace Go.Proofs.Ytnignglhefcecaa
open Go.RowKit Go.Sort

theorem fillOkB_f {W T : Int} {bs : List Bool} {pss : List (List Ce)} {fs : List Int} (h : validB W T bs = false ∨ (decide (pss.length ≤ 6) && piecesB pss) = false ∨ fs.length ≠ bs.length) : fillOkB W T bs pss fs = false := by
  unfold fillOkB
  rcases h with h | h | h
  · rw [h]; rfl
  · rw [h]; simp
  · rw [decide_eq_false h]; simp
theorem fillOkB_t {W T : Int} {bs : List Bool} {pss : List (List Ce)} {fs : List Int} (h1 : validB W T bs = true) (h2 : (decide (pss.length ≤ 6) && piecesB pss) = true) (h3 : fs.length = bs.length) : fillOkB W T bs pss fs = fillB W bs pss fs := by
  unfold fillOkB; rw [h1, h2, decide_eq_true h3]; rfl
theorem got_zero (m : Nat) : ∀ n, n < m → ((madeCells (Value.slice none 0 0).cells (m * 1)).toList)[n]? = some (.slice none 0 0) := fun n hn => by
  rw [show (Value.slice none 0 0).cells = #[.slice none 0 0] from rfl, toList_madeCells_one]
  simp [hn]
set_option maxRecDepth 100000 in
set_option maxHeartbeats 2000000 in
theorem iFillOk_f (W T : Int) (A A' A9 : Option Addr) (c c' c9 : Nat) (bs : List Bool) (pss : List (List Ce)) (fs : List Int) (w : World) (hr : Rd w A (bs.map .bool)) (hn : bs.length ≤ maxLen) (hr' : RdSS w A' pss) (hn' : pss.length ≤ maxLen) (_hn9 : fs.length ≤ maxLen)
    (h : validB W T bs = false ∨ (decide (pss.length ≤ 6) && piecesB pss) = false ∨ fs.length ≠ bs.length) :
    Calls Try.prog 23 #[.agg #[.int .i64 W, .int .i64 T, .slice A bs.length c], .slice A' pss.length c', .slice A9 fs.length c9] w fun e w' => e = .returned (.bool (fillOkB W T bs pss fs)) ∧ Below w.heap.size w w' := by
  rw [fillOkB_f h]
  have X0 := C3.new w (.int .i64 W) (.int .i64 T) (.slice A bs.length c) 27
  have Z0 := bl_alloc (Below.refl w.heap.size w) (.cells #[.int .i64 W, .int .i64 T, .slice A bs.length c] 27)
  obtain ⟨x0, x1, x2⟩ := id X0
  cases hv : validB W T bs with
  | false =>
    have HV := Lib.hid hv
    clear hv h
    go_enter Try.func23, Try.ntmps23
    go_wp2_with fail
    refine (iRegionValid_any W T A c bs _ (hr.alloc _) hn).mono ?_
    rintro e w1 ⟨rfl, b1⟩
    rw [HV.out]
    have Z1 := bl_go Z0 b1
    clear x0 x1 x2
    obtain ⟨x0, x1, x2⟩ := X0.belo b1
    go_wp2_with fail
    go_ret
    exact ⟨rfl, Z1⟩
  | true =>
    have HV := Lib.hid hv
    clear hv
    cases hp : (decide (pss.length ≤ 6) && piecesB pss) with
    | false =>
      have HP := Lib.hid hp
      clear hp h
      go_enter Try.func23, Try.ntmps23
      go_wp2_with fail
      refine (iRegionValid_any W T A c bs _ (hr.alloc _) hn).mono ?_
      rintro e w1 ⟨rfl, b1⟩
      rw [HV.out]
      have Z1 := bl_go Z0 b1
      have R1 := hr'.belo Z1
      have X1 := X0.belo b1
      clear x0 x1 x2 X0 b1 Z0
      obtain ⟨x0, x1, x2⟩ := id X1
      go_wp2_with fail
      refine (iPiecesValid_any _ _ _ _ R1 hn').mono ?_
      rintro e w2 ⟨rfl, b2⟩
      rw [HP.out]
      have Z2 := bl_go Z1 b2
      clear x0 x1 x2
      obtain ⟨x0, x1, x2⟩ := X1.belo b2
      go_wp2_with fail
      go_ret
      exact ⟨rfl, Z2⟩
    | true =>
      have HP := Lib.hid hp
      have hne : fs.length ≠ bs.length := by
        rcases h with h | h | h
        · rw [HV.out] at h; cases h
        · rw [hp] at h; cases h
        · exact h
      have hbe : ((fs.length : Int) == (bs.length : Int)) = false := by rw [beq_eq_false_iff_ne]; omega
      clear hp h hne
      go_enter Try.func23, Try.ntmps23
      go_wp2_with fail
      refine (iRegionValid_any W T A c bs _ (hr.alloc _) hn).mono ?_
      rintro e w1 ⟨rfl, b1⟩
      rw [HV.out]
      have Z1 := bl_go Z0 b1
      have R1 := hr'.belo Z1
      have X1 := X0.belo b1
      clear x0 x1 x2 X0 b1 Z0
      obtain ⟨x0, x1, x2⟩ := id X1
      go_wp2_with fail
      refine (iPiecesValid_any _ _ _ _ R1 hn').mono ?_
      rintro e w2 ⟨rfl, b2⟩
      rw [HP.out]
      have Z2 := bl_go Z1 b2
      clear x0 x1 x2
      obtain ⟨x0, x1, x2⟩ := X1.belo b2
      go_wp2_with fail
      go_ret
      exact ⟨rfl, Z2⟩
set_option maxRecDepth 100000 in
set_option maxHeartbeats 8000000 in
theorem iFillOk_t (W T : Int) (A A' A9 : Option Addr) (c c' c9 : Nat) (bs : List Bool) (pss : List (List Ce)) (fs : List Int) (w : World) (hr : Rd w A (bs.map .bool)) (hn : bs.length ≤ maxLen) (hr' : RdSS w A' pss) (hn' : pss.length ≤ maxLen) (hr9 : Rd w A9 (fs.map (.int .i64)))
    (hv : validB W T bs = true) (hp : (decide (pss.length ≤ 6) && piecesB pss) = true) (hl : fs.length = bs.length) :
    Calls Try.prog 23 #[.agg #[.int .i64 W, .int .i64 T, .slice A bs.length c], .slice A' pss.length c', .slice A9 bs.length c9] w fun e w' => e = .returned (.bool (fillB W bs pss fs)) ∧ Below w.heap.size w w' := by
  have X0 := C3.new w (.int .i64 W) (.int .i64 T) (.slice A bs.length c) 27
  have Z0 := bl_alloc (Below.refl w.heap.size w) (.cells #[.int .i64 W, .int .i64 T, .slice A bs.length c] 27)
  obtain ⟨x0, x1, x2⟩ := id X0
  have HV := Lib.hid hv
  have HP := Lib.hid hp
  have HL := Lib.hid hl
  have m6 : pss.length ≤ 6 := by rw [Bool.and_eq_true, decide_eq_true_eq] at hp; exact hp.1
  obtain ⟨⟨q1, q6⟩, ⟨t1, t6⟩, hlen, -⟩ := validB_iff.1 hv
  have n36 : bs.length ≤ 36 := by have := mul_bd q1 q6 t1 t6; omega
  have hbe : ((bs.length : Int) == (bs.length : Int)) = true := by simp
  obtain ⟨i0, hi, hz0, hz1, hz2⟩ := info_parts Try.infoSC
  have hb1 : i0.bytes * pss.length ≤ 281474976710656 := by rw [hz2]; omega
  have HZ := Lib.hid (And.intro hz0 (And.intro hz1 hz2))
  clear hv hp hl hlen t1 t6 hz0 hz1 hz2
  go_enter Try.func23, Try.ntmps23
  go_wp2_with fail
  refine (iRegionValid_any W T A c bs _ (hr.alloc _) hn).mono ?_
  rintro e w1 ⟨rfl, b1⟩
  rw [HV.out]
  have Z1 := bl_go Z0 b1
  have R1 := hr'.belo Z1
  have X1 := X0.belo b1
  clear x0 x1 x2 X0 b1 Z0
  obtain ⟨x0, x1, x2⟩ := id X1
  go_wp2_with fail
  refine (iPiecesValid_any _ _ _ _ R1 hn').mono ?_
  rintro e w2 ⟨rfl, b2⟩
  rw [HP.out]
  have Z2 := bl_go Z1 b2
  have X2 := X1.belo b2
  clear x0 x1 x2 X1 Z1 R1 b2
  obtain ⟨x0, x1, x2⟩ := id X2
  have r2 := hr.belo Z2
  have r2' := hr'.belo Z2
  have r29 := hr9.belo Z2
  clear hr hr' hr9
  go_wp2_with (at_make; refine wpList_make_full _ rfl _ _ 42 rfl w2.heap.size 23 i0 (.slice none 0 0) 1 Try.underlying42 hi HZ.out.1 HZ.out.2.1 .i64 .i64 _ _ pss.length rfl rfl rfl rfl hb1 (by unfold maxLen; omega) (Nat.le_refl _) ?_; intro w3 hown3 hgrow3)
  have G3 := GotS.start hown3 (got_zero _)
  have Z3 : Below w2.heap.size w2 w3 := (Below.refl _ _).grown hgrow3 (Nat.le_refl _) (fun k hk => by cases hk)
  clear hown3 hgrow3 x0 x1 x2
  go_loopw [35] (fun i wr => ∃ (k : Nat) (L : List Value), k ≤ bs.length ∧ i = .int .i64 k ∧ GotS wr w2.heap.size pss.length L (fun n : Nat => cellsT W fs n k) ∧ Hid (∀ j (h : j < bs.length) (h2 : j < fs.length), j < k → cellOk pss.length bs[j] fs[j]) ∧ Below w2.heap.size w2 wr) (fun i _ => bs.length - (intOf i).toNat)
  case atStart => exact ⟨0, _, Nat.zero_le _, rfl, G3, fun j _ _ h => by omega, Z3⟩
  case round =>
    clear Z3 G3
    obtain ⟨k, L, hk, rfl, GS, HK, Z4⟩ := hrel
    obtain ⟨x0, x1, x2⟩ := X2.belo Z4
    by_cases hlt : k < bs.length
    · have kf : k < fs.length := by rw [HL.out]; exact hlt
      obtain ⟨b, off, rfl, cb⟩ := (r2.belo Z4).atEM hlt
      obtain ⟨b9, off9, rfl, cf⟩ := (r29.belo Z4).atEM kf
      obtain ⟨f, hf⟩ : ∃ f, fs[k] = f := ⟨_, rfl⟩
      rw [hf] at cf
      have HF := Lib.hid hf
      have HFQ := Lib.hid (show fs[k]? = some f by rw [List.getElem?_eq_getElem kf, hf])
      clear hf
      cases hb : bs[k] with
      | false =>
        rw [hb] at cb
        have HB := Lib.hid hb
        clear hb
        cases hv1 : (f == -1) with
        | true =>
          have hfe : f = -1 := by simpa using hv1
          have HOK := Lib.hid (show cellOk pss.length bs[k] fs[k] by rw [HB.out, HF.out]; exact ⟨fun e => (by cases e), fun _ => hfe⟩)
          have hge : decide (0 ≤ f) = false := by simp; omega
          clear hfe
          go_wp2_with fail
          go_roundw
          case rel =>
            refine ⟨k + 1, L, by omega, by go_num, GS.cast (fun n _ => (cellsT_no (by rw [HFQ.out]; intro e; injection e with e; rw [beq_iff_eq] at hv1; omega)).symm), fun j h h2 h3 => ?_, Z4⟩
            rcases Nat.lt_or_ge j k with h4 | h4
            · exact HK.out j h h2 h4
            · obtain rfl : j = k := by omega
              exact HOK.out
          case measure => simp [intOf]; omega
        | false =>
          have HNO := Lib.hid (fillB_f1 (W := W) (bs := bs) (pss := pss) (fs := fs) k hlt (by rw [HL.out]; exact hlt) (by rw [HB.out, HF.out]; intro h; have := h.2 rfl; rw [this] at hv1; simp at hv1))
          go_wp2_with fail
          go_ret
          exact ⟨ret_b HNO.out.symm, bl_go Z2 Z4⟩
      | true =>
        rw [hb] at cb
        have HB := Lib.hid hb
        clear hb
        by_cases hin : 0 ≤ f ∧ f ≤ (pss.length : Int) - 1
        · obtain ⟨fn, rfl⟩ := Int.eq_ofNat_of_zero_le hin.1
          have hfm : fn < pss.length := by omega
          have HOK := Lib.hid (show cellOk pss.length bs[k] fs[k] by rw [HB.out, HF.out]; exact ⟨fun _ => hin, fun e => by cases e⟩)
          have hge : decide (0 ≤ (fn : Int)) = true := by simp
          obtain ⟨i1, i2⟩ := hin
          go_wp2_with (go_at_call 45; refine (in_t _ _ _ _ i1 i2).mono ?_; rintro e w' ⟨rfl, rfl⟩)
          refine (xy_any W T _ k _ q1 q6 (by omega) (by omega)).mono ?_
          rintro e w5 ⟨rfl, b5⟩
          have G5 := GS.belo b5
          obtain ⟨y0, y1, y2⟩ := X2.belo (bl_go Z4 b5)
          obtain ⟨A5, c5, hL5, o5, d5, f5, cap5, lt5⟩ := G5.at_ hfm
          have hcl := cellsT_len W fs fn k
          have BA := bl_alloc (Below.refl w5.heap.size w5) (.cells #[.int .i64 ((k : Int) % W), .int .i64 ((k : Int) / W)] 44)
          go_wp2_with (at_builtin; refine wpList_cell1 _ rfl _ _ rfl (w2.heap.size + 1) (.slice A5 (cellsT W fs fn k).length c5) (cellsT W fs fn k) rfl (o5.alloc _) _ _ w5.heap.size rfl (cell_of_row _ _ _ _ _ _ (heap_alloc_new w5 _)) (cell_of_row _ _ _ _ _ _ (heap_alloc_new w5 _)) (by omega) (by simp; omega) ?_; intro A6 c6 w6 o6 g6 e6; obtain ⟨p6, s6⟩ := G5.row2 BA hfm hL5 g6)
          go_roundw
          case rel =>
            refine ⟨k + 1, _, by omega, by go_num, (G5.put BA hfm hL5 o6 g6 e6).cast (fun n _ => ?_), fun j h h2 h3 => ?_, G5.below (bl_go Z4 b5) (Nat.le_refl _) BA hfm hL5 g6 (by omega)⟩
            · by_cases hnf : n = fn
              · rw [if_pos hnf, hnf]; exact (cellsT_yes HFQ.out).symm
              · rw [if_neg hnf]; exact (cellsT_no (by rw [HFQ.out]; intro e; injection e with e; omega)).symm
            · rcases Nat.lt_or_ge j k with h4 | h4
              · exact HK.out j h h2 h4
              · obtain rfl : j = k := by omega
                exact HOK.out
          case measure => simp [intOf]; omega
        · have HNO := Lib.hid (fillB_f1 (W := W) (bs := bs) (pss := pss) (fs := fs) k hlt (by rw [HL.out]; exact hlt) (by rw [HB.out, HF.out]; intro h; exact hin (h.1 rfl)))
          have hout : f < 0 ∨ (pss.length : Int) - 1 < f := by omega
          go_wp2_with (go_at_call 45; refine (in_f _ _ _ _ hout).mono ?_; rintro e w' ⟨rfl, rfl⟩)
          go_ret
          exact ⟨ret_b HNO.out.symm, bl_go Z2 Z4⟩
    · obtain rfl : k = bs.length := by omega
      have HD := Lib.hid (show fillD pss.length bs fs from fun j h h2 => HK.out j h h2 h)
      have HCC := Lib.hid (fun n : Nat => show cellsT W fs n bs.length = cellsT W fs n fs.length by rw [HL.out])
      have r4 := r2'.belo Z4
      have Z5 := bl_go Z2 Z4
      clear x0 x1 x2 HK hk r2 r2' r29 X2 Z2 Z4
      obtain ⟨w4, hw4⟩ : ∃ w4 : World, w4 = wr := ⟨_, rfl⟩
      subst hw4
      go_wp2_with fail
      go_loopw [88] (fun i wr => ∃ k : Nat, k ≤ pss.length ∧ i = .int .i64 k ∧ Hid (∀ j (h : j < pss.length), j < k → sameV pss[j] (cellsT W fs j fs.length) = true) ∧ Below w4.heap.size w4 wr) (fun i _ => pss.length - (intOf i).toNat)
      case atStart => exact ⟨0, Nat.zero_le _, rfl, fun j _ h => by omega, Below.refl _ _⟩
      case round =>
        obtain ⟨k, hk, rfl, HK, Z6⟩ := hrel
        by_cases hlt : k < pss.length
        · obtain ⟨b, off, A', c1, rfl, h1, h2, h3, h4⟩ := (r4.belo Z6) k hlt
          obtain ⟨A5, c5, -, o5, d5, -, cap5, -⟩ := (GS.belo Z6).at_ hlt
          have hcl := cellsT_len W fs k bs.length
          obtain ⟨ps, hps⟩ : ∃ ps, pss[k] = ps := ⟨_, rfl⟩
          have HPS := Lib.hid hps
          rw [hps] at h1 h2 h3 h4
          clear hps
          have CC := Lib.hid (fun (z : World) (R : RdC z A' ps) (R' : RdC z A5 (cellsT W fs k bs.length)) => iSamePiece_any A' A5 c1 c5 ps (cellsT W fs k bs.length) z R R' h3 (by unfold maxLen; omega) h2 cap5)
          have R5 := o5.rd
          have SV := Lib.hid (show sameV ps (cellsT W fs k bs.length) = sameV pss[k] (cellsT W fs k fs.length) by rw [HPS.out, HCC.out])
          cases hs : sameV ps (cellsT W fs k bs.length) with
          | true =>
            have HS := Lib.hid hs
            clear hs h2 h3 cap5 o5
            go_wp2_with fail
            refine (CC.out _ h4 R5).mono ?_
            rintro e w7 ⟨rfl, b7⟩
            rw [HS.out]
            go_wp2_with fail
            go_roundw
            case rel =>
              refine ⟨k + 1, by omega, by go_num, fun j h h5 => ?_, bl_go Z6 b7⟩
              rcases Nat.lt_or_ge j k with h6 | h6
              · exact HK.out j h h6
              · obtain rfl : j = k := by omega
                rw [← SV.out, HS.out]
            case measure => simp [intOf]; omega
          | false =>
            have HS := Lib.hid hs
            have HNO := Lib.hid (fillB_f2 (W := W) (bs := bs) (pss := pss) (fs := fs) k hlt (by rw [← SV.out, hs]))
            clear hs h2 h3 cap5 o5
            go_wp2_with fail
            refine (CC.out _ h4 R5).mono ?_
            rintro e w7 ⟨rfl, b7⟩
            rw [HS.out]
            go_wp2_with fail
            go_ret
            exact ⟨ret_b HNO.out.symm, bl_go Z5 (bl_go Z6 b7)⟩
        · obtain rfl : k = pss.length := by omega
          have HB := Lib.hid (fillB_t (W := W) (bs := bs) (pss := pss) (fs := fs) HD.out (fun n h => HK.out n h h))
          go_wp2_with fail
          go_ret
          exact ⟨ret_b HB.out.symm, bl_go Z5 Z6⟩
/-- whether a list fills a region -/
theorem iFillOk_any (W T : Int) (A A' A9 : Option Addr) (c c' c9 : Nat) (bs : List Bool) (pss : List (List Ce)) (fs : List Int) (w : World) (hr : Rd w A (bs.map .bool)) (hn : bs.length ≤ maxLen) (hr' : RdSS w A' pss) (hn' : pss.length ≤ maxLen) (hr9 : Rd w A9 (fs.map (.int .i64))) (hn9 : fs.length ≤ maxLen) :
    Calls Try.prog 23 #[.agg #[.int .i64 W, .int .i64 T, .slice A bs.length c], .slice A' pss.length c', .slice A9 fs.length c9] w fun e w' => e = .returned (.bool (fillOkB W T bs pss fs)) ∧ Below w.heap.size w w' := by
  by_cases h : validB W T bs = false ∨ (decide (pss.length ≤ 6) && piecesB pss) = false ∨ fs.length ≠ bs.length
  · exact iFillOk_f W T A A' A9 c c' c9 bs pss fs w hr hn hr' hn' hn9 h
  · have h1 : validB W T bs = true := by simpa using fun e => h (.inl e)
    have h2 : (decide (pss.length ≤ 6) && piecesB pss) = true := by
      cases e : (decide (pss.length ≤ 6) && piecesB pss) with
      | true => rfl
      | false => exact absurd (.inr (.inl e)) h
    have h3 : fs.length = bs.length := Classical.byContradiction fun e => h (.inr (.inr e))
    rw [fillOkB_t h1 h2 h3, h3]
    exact iFillOk_t W T A A' A9 c c' c9 bs pss fs w hr hn hr' hn' hr9 h1 h2 h3
end Go.Proofs.Ytnignglhefcecaa

/- The walk of the law FnCornerFill. -/
namespace Go.Proofs.Ytnignglhefcecaa
open Go.RowKit Go.Sort

/-- two numbers are handed back -/
def TwoD (P : Int → Int → Prop) (w : World) (e : Ending) (w' : World) : Prop := ∃ a b : Int, e = .returned (.tuple #[.int .i64 a, .int .i64 b]) ∧ P a b ∧ Below w.heap.size w w'
theorem lit7 (w : World) : ∀ k : Nat, k < 7 → ∃ s : Int, (s = 0 ∨ s = 1 ∨ s = 2 ∨ s = 3 ∨ s = 4) ∧ (w.alloc (.cells #[.int .i64 1, .int .i64 2, .int .i64 4, .int .i64 4, .int .i64 4, .int .i64 3, .int .i64 0] 3)).cell? ⟨w.heap.size, k, none⟩ = some (.int .i64 s) := by
  intro k hk
  match k, hk with
  | 0, _ => exact ⟨1, by omega, cell_of_row _ _ _ _ _ _ (heap_alloc_new w _)⟩
  | 1, _ => exact ⟨2, by omega, cell_of_row _ _ _ _ _ _ (heap_alloc_new w _)⟩
  | 2, _ => exact ⟨4, by omega, cell_of_row _ _ _ _ _ _ (heap_alloc_new w _)⟩
  | 3, _ => exact ⟨4, by omega, cell_of_row _ _ _ _ _ _ (heap_alloc_new w _)⟩
  | 4, _ => exact ⟨4, by omega, cell_of_row _ _ _ _ _ _ (heap_alloc_new w _)⟩
  | 5, _ => exact ⟨3, by omega, cell_of_row _ _ _ _ _ _ (heap_alloc_new w _)⟩
  | 6, _ => exact ⟨0, by omega, cell_of_row _ _ _ _ _ _ (heap_alloc_new w _)⟩
set_option maxRecDepth 100000 in
set_option maxHeartbeats 4000000 in
theorem drawCornerFill_any (A : Option Addr) (c : Nat) (bs : List Int) (w : World) (hr : Rd w A (bs.map (.int .u8))) (hw : ∀ x ∈ bs, 0 ≤ x ∧ x ≤ 255) (hn : bs.length ≤ 1048576) (hcap : bs.length ≤ c) :
    Calls Try.prog 17 #[.slice A bs.length c] w (TwoD (fun a _ => 0 ≤ a ∧ a ≤ 4) w) := by
  have HW := Lib.hid hw
  clear hw
  go_enter Try.func17, Try.ntmps17
  go_wp2_with fail
  refine (open_any A c bs _ hr HW.out hn hcap).mono ?_
  rintro e w1 ⟨g, A1, c1, by1, rfl, O1⟩
  have O2 := O1.belo (bl_alloc (Below.refl w1.heap.size w1) (.cells #[.int .i64 1, .int .i64 2, .int .i64 4, .int .i64 4, .int .i64 4, .int .i64 3, .int .i64 0] 3))
  have L7 := lit7 w1
  have hg1 := O1.lt
  have hz : w1.heap.size < (w1.alloc (.cells #[.int .i64 1, .int .i64 2, .int .i64 4, .int .i64 4, .int .i64 4, .int .i64 3, .int .i64 0] 3)).heap.size := by simp
  go_wp2_with fail
  generalize w1.alloc (.cells #[.int .i64 1, .int .i64 2, .int .i64 4, .int .i64 4, .int .i64 4, .int .i64 3, .int .i64 0] 3) = w2 at *
  refine (pick_any 7 _ g A1 c1 by1 0 O2.1 (by omega) (by omega)).mono ?_
  rintro e w3 ⟨r1, rfl, ⟨p1, q1⟩, S3, G3⟩
  have O3 := O2.pick S3 G3
  obtain ⟨kn, rfl⟩ := Int.eq_ofNat_of_zero_le p1
  have hk7 : kn < 7 := by omega
  obtain ⟨s, hs, hc⟩ := L7 kn hk7
  have c3 : w3.cell? ⟨w1.heap.size, kn, none⟩ = some (.int .i64 s) := (G3.cell_far ⟨w1.heap.size, kn, none⟩ hz (fun e => by injection e with e; simp at e; omega)).trans hc
  have hkI : (kn : Int) < 7 := by omega
  clear L7 hc O1 O2 S3 G3 q1 hg1 hz HW hr hcap hn
  go_wp2_with fail
  rcases hs with rfl | rfl | rfl | rfl | rfl
  · go_wp2_with fail
    have hw9 : wrap64 (max (wrap64 (0 * 0)) 1 + 1) ≤ 17 := by decide +kernel
    refine (pick_any (wrap64 (max (wrap64 (0 * 0)) 1 + 1)) _ g A1 c1 by1 _ O3.1 (by omega) (by omega)).mono ?_
    rintro e w4 ⟨r2, rfl, ⟨p2, q2⟩, S4, G4⟩
    have r2b : r2 ≤ 16 := by omega
    clear q2 hw9
    have O4 := O3.pick S4 G4
    clear S4 G4 O3
    go_wp2_with fail
    refine (pick_any 20 _ g A1 c1 by1 _ O4.1 (by omega) (by omega)).mono ?_
    rintro e w5 ⟨r3, rfl, ⟨p3, q3⟩, S5, G5⟩
    have O5 := O4.pick S5 G5
    have r3b : r3 ≤ 19 := by omega
    clear S5 G5 O4 q3
    go_wp2
    refine bodyPost_ret (v := .tuple #[_, _]) (by simp [results, Try.results17, go_sem]; exact ⟨rfl, rfl⟩) rfl ⟨_, _, rfl, by omega, O5.2.2⟩
  · go_wp2_with fail
    have hw9 : wrap64 (max (wrap64 (1 * 1)) 1 + 1) ≤ 17 := by decide +kernel
    refine (pick_any (wrap64 (max (wrap64 (1 * 1)) 1 + 1)) _ g A1 c1 by1 _ O3.1 (by omega) (by omega)).mono ?_
    rintro e w4 ⟨r2, rfl, ⟨p2, q2⟩, S4, G4⟩
    have r2b : r2 ≤ 16 := by omega
    clear q2 hw9
    have O4 := O3.pick S4 G4
    clear S4 G4 O3
    go_wp2_with fail
    refine (pick_any 20 _ g A1 c1 by1 _ O4.1 (by omega) (by omega)).mono ?_
    rintro e w5 ⟨r3, rfl, ⟨p3, q3⟩, S5, G5⟩
    have O5 := O4.pick S5 G5
    have r3b : r3 ≤ 19 := by omega
    clear S5 G5 O4 q3
    go_wp2
    refine bodyPost_ret (v := .tuple #[_, _]) (by simp [results, Try.results17, go_sem]; exact ⟨rfl, rfl⟩) rfl ⟨_, _, rfl, by omega, O5.2.2⟩
  · go_wp2_with fail
    have hw9 : wrap64 (max (wrap64 (2 * 2)) 1 + 1) ≤ 17 := by decide +kernel
    refine (pick_any (wrap64 (max (wrap64 (2 * 2)) 1 + 1)) _ g A1 c1 by1 _ O3.1 (by omega) (by omega)).mono ?_
    rintro e w4 ⟨r2, rfl, ⟨p2, q2⟩, S4, G4⟩
    have r2b : r2 ≤ 16 := by omega
    clear q2 hw9
    have O4 := O3.pick S4 G4
    clear S4 G4 O3
    go_wp2_with fail
    refine (pick_any 20 _ g A1 c1 by1 _ O4.1 (by omega) (by omega)).mono ?_
    rintro e w5 ⟨r3, rfl, ⟨p3, q3⟩, S5, G5⟩
    have O5 := O4.pick S5 G5
    have r3b : r3 ≤ 19 := by omega
    clear S5 G5 O4 q3
    go_wp2
    refine bodyPost_ret (v := .tuple #[_, _]) (by simp [results, Try.results17, go_sem]; exact ⟨rfl, rfl⟩) rfl ⟨_, _, rfl, by omega, O5.2.2⟩
  · go_wp2_with fail
    have hw9 : wrap64 (max (wrap64 (3 * 3)) 1 + 1) ≤ 17 := by decide +kernel
    refine (pick_any (wrap64 (max (wrap64 (3 * 3)) 1 + 1)) _ g A1 c1 by1 _ O3.1 (by omega) (by omega)).mono ?_
    rintro e w4 ⟨r2, rfl, ⟨p2, q2⟩, S4, G4⟩
    have r2b : r2 ≤ 16 := by omega
    clear q2 hw9
    have O4 := O3.pick S4 G4
    clear S4 G4 O3
    go_wp2_with fail
    refine (pick_any 20 _ g A1 c1 by1 _ O4.1 (by omega) (by omega)).mono ?_
    rintro e w5 ⟨r3, rfl, ⟨p3, q3⟩, S5, G5⟩
    have O5 := O4.pick S5 G5
    have r3b : r3 ≤ 19 := by omega
    clear S5 G5 O4 q3
    go_wp2
    refine bodyPost_ret (v := .tuple #[_, _]) (by simp [results, Try.results17, go_sem]; exact ⟨rfl, rfl⟩) rfl ⟨_, _, rfl, by omega, O5.2.2⟩
  · go_wp2_with fail
    have hw9 : wrap64 (max (wrap64 (4 * 4)) 1 + 1) ≤ 17 := by decide +kernel
    refine (pick_any (wrap64 (max (wrap64 (4 * 4)) 1 + 1)) _ g A1 c1 by1 _ O3.1 (by omega) (by omega)).mono ?_
    rintro e w4 ⟨r2, rfl, ⟨p2, q2⟩, S4, G4⟩
    have r2b : r2 ≤ 16 := by omega
    clear q2 hw9
    have O4 := O3.pick S4 G4
    clear S4 G4 O3
    go_wp2_with fail
    refine (pick_any 20 _ g A1 c1 by1 _ O4.1 (by omega) (by omega)).mono ?_
    rintro e w5 ⟨r3, rfl, ⟨p3, q3⟩, S5, G5⟩
    have O5 := O4.pick S5 G5
    have r3b : r3 ≤ 19 := by omega
    clear S5 G5 O4 q3
    go_wp2
    refine bodyPost_ret (v := .tuple #[_, _]) (by simp [results, Try.results17, go_sem]; exact ⟨rfl, rfl⟩) rfl ⟨_, _, rfl, by omega, O5.2.2⟩
theorem crn_spec (side cell : Int) (hs1 : -9223372036854775808 ≤ side) (hs2 : side ≤ 9223372036854775807) : ∃ (V : List Int) (ok : Bool), V.length ≤ 16 ∧
    (∀ w, Calls Try.prog 18 #[.int .i64 side, .int .i64 cell] w (NewW2 V ok w)) ∧ (∀ w, Calls Try.prog 19 #[.int .i64 side, .int .i64 cell] w (NewR2 V ok w)) ∧
    ((ok = false ∧ V = []) ∨ (ok = true ∧ ∃ s m f k N : Nat, side = s ∧ cell = k ∧ k < N ∧ s * s = N ∧ V.length = N ∧ ((s = 1 ∧ m = 0 ∧ f = 0) ∨ (s = 2 ∧ m = 1 ∧ f = 1) ∨ (s = 4 ∧ m = 5 ∧ f = 2)) ∧ V = crnV s f k)) := by
  by_cases h : (side = 1 ∨ side = 2 ∨ side = 4) ∧ 0 ≤ cell ∧ cell < side * side
  · obtain ⟨hs, h0, h1⟩ := h
    obtain ⟨k, rfl⟩ := Int.eq_ofNat_of_zero_le h0
    rcases hs with rfl | rfl | rfl
    · have hk : k < 1 := by omega
      have e : crsV 1 0 k = crnV 1 0 k := (crn_eq 0 (by decide) k (List.mem_range.2 hk)).symm
      have hl : (crnV 1 0 k).length = 1 := crn_len _ _ _ _ _ _ _ _
      exact ⟨crnV 1 0 k, true, by rw [hl]; omega, fun w => iCorner_1 k hk w, fun w => by rw [← e]; exact sCorner_1 k hk w, .inr ⟨rfl, 1, 0, 0, k, 1, rfl, rfl, hk, rfl, hl, .inl ⟨rfl, rfl, rfl⟩, rfl⟩⟩
    · have hk : k < 4 := by omega
      have e : crsV 2 1 k = crnV 2 1 k := (crn_eq 1 (by decide) k (List.mem_range.2 hk)).symm
      have hl : (crnV 2 1 k).length = 4 := crn_len _ _ _ _ _ _ _ _
      exact ⟨crnV 2 1 k, true, by rw [hl]; omega, fun w => iCorner_2 k hk w, fun w => by rw [← e]; exact sCorner_2 k hk w, .inr ⟨rfl, 2, 1, 1, k, 4, rfl, rfl, hk, rfl, hl, .inr (.inl ⟨rfl, rfl, rfl⟩), rfl⟩⟩
    · have hk : k < 16 := by omega
      have e : crsV 4 2 k = crnV 4 2 k := (crn_eq 2 (by decide) k (List.mem_range.2 hk)).symm
      have hl : (crnV 4 2 k).length = 16 := crn_len _ _ _ _ _ _ _ _
      exact ⟨crnV 4 2 k, true, by rw [hl]; omega, fun w => iCorner_4 k hk w, fun w => by rw [← e]; exact sCorner_4 k hk w, .inr ⟨rfl, 4, 5, 2, k, 16, rfl, rfl, hk, rfl, hl, .inr (.inr ⟨rfl, rfl, rfl⟩), rfl⟩⟩
  · exact ⟨[], false, by simp, fun w => iCorner_no side cell h hs1 hs2 w, fun w => sCorner_no side cell h w, .inl ⟨rfl, rfl⟩⟩
theorem RdSS.ofR {w : World} {A : Option Addr} {xs : List Value} {pss : List (List Ce)} (hr : Rd w A xs) (h : HeadsR w xs pss) : RdSS w A pss := fun k hk => by
  have hx : k < xs.length := by rw [h.1]; exact hk
  obtain ⟨B, c', h1, h2, h3, h4⟩ := h.at_ hk hx
  obtain ⟨b, off, e, hc⟩ := hr.atE hx
  exact ⟨b, off, B, c', e, by rw [hc, h1], h2, by unfold maxLen; omega, h4⟩
theorem OwnH.rdR {w : World} {base n c : Nat} {A : Option Addr} {xs : List Value} (h : OwnH w base (.slice A n c) xs) : Rd w A xs := by
  obtain ⟨A', c', e, h⟩ := h
  injection e with e1 e2 e3
  subst e1 e2 e3
  exact Rd.own h
theorem crnP_v : cellsV crnP = [.int .i64 0, .int .i64 0, .int .i64 1, .int .i64 0, .int .i64 0, .int .i64 1] := rfl
theorem new_crn (w : World) : RdC (w.alloc (.cells #[.int .i64 0, .int .i64 0, .int .i64 1, .int .i64 0, .int .i64 0, .int .i64 1] 44)) (some ⟨w.heap.size, 0, none⟩) crnP := fun _ => by
  refine ⟨_, rfl, fun j u hj => ?_⟩
  rw [crnP_v] at hj
  rw [add_off, Nat.zero_add, cell_of_row _ _ _ _ _ _ (heap_alloc_new w _)]
  simpa using hj
theorem repl_one {k : Nat} {x : List Ce} : List.replicate k x ++ [x] = List.replicate (k + 1) x := by rw [List.replicate_succ']
set_option maxRecDepth 100000 in
set_option maxHeartbeats 8000000 in
theorem fnCornerFill_walk {w0 : World} (A : Option Addr) (c : Nat) (bs : List Int) (hcap : bs.length ≤ c) (hm : bs.length ≤ maxLen) (hr : Rd w0 A (bs.map (.int .u8))) (hw : ∀ n ∈ bs, 0 ≤ n ∧ n ≤ 255) :
    Calls Try.prog 4 #[.slice A bs.length c] w0 fun e w' => e = .returned (.bool true) ∧ Below w0.heap.size w0 w' := by
  have HW := Lib.hid hw
  clear hw
  unfold maxLen at hm
  by_cases hn : bs.length ≤ 1048576
  · have hg : decide ((1048576 : Int) < (bs.length : Int)) = false := by simp; omega
    go_enter Try.func4, Try.ntmps4
    go_wp2_with fail
    refine (drawCornerFill_any A c bs _ hr HW.out hn hcap).mono ?_
    rintro e w1 ⟨a, b, rfl, ⟨ha0, ha4⟩, B1⟩
    clear hg hn hm hr HW hcap
    obtain ⟨V, ok, hV, cI, cS, cases_⟩ := crn_spec a b (by omega) (by omega)
    have CI := Lib.hid cI
    have CS := Lib.hid cS
    have HC := Lib.hid cases_
    clear cI cS cases_
    have hVm : V.length ≤ maxLen := by unfold maxLen; omega
    have hok : (ok != ok) = false := by cases ok <;> rfl
    go_wp2_with fail
    refine (CI.out _).mono ?_
    rintro e w2 ⟨A2, rfl, W2, b2⟩
    have B2 := bl_go B1 b2
    go_wp2_with fail
    refine (CS.out _).mono ?_
    rintro e w3 ⟨A3, c3, rfl, R3, b3⟩
    have B3 := bl_go B2 b3
    have R2 := W2.rd.belo b3
    clear B1 B2 b2 b3 W2 CI CS
    go_wp2_with fail
    refine (sameInts_t _ _ _ _ V _ R2 R3 hVm).mono ?_
    rintro e w4 ⟨rfl, b4⟩
    have B4 := bl_go B3 b4
    have R4 := R2.belo b4
    clear R2 R3 B3 b4
    rcases HC.out with ⟨rfl, rfl⟩ | ⟨rfl, s, m, f, k, N, rfl, rfl, hk, hsN, hVN, hcase, hVe⟩
    · go_wp2_with fail
      refine (alive_any _).mono ?_
      rintro e w5 ⟨rfl, b5⟩
      go_wp2
      go_ret
      exact ⟨rfl, bl_go B4 b5⟩
    · have hs4 : 1 ≤ s ∧ s ≤ 4 := by omega
      have hN : 1 ≤ N ∧ N ≤ 16 ∧ N = 3 * m + 1 := by rcases hcase with ⟨rfl, rfl, rfl⟩ | ⟨rfl, rfl, rfl⟩ | ⟨rfl, rfl, rfl⟩ <;> omega
      have m5 : m ≤ 5 := by omega
      have HSN := Lib.hid hsN
      have HF := Lib.hid (crn_fill s m f k hcase (by rw [hsN]; exact hk))
      have HVE := Lib.hid hVe
      have hval2 : validB s s (List.replicate N true) = true := by
        refine validB_iff.2 ⟨⟨by omega, by omega⟩, ⟨by omega, by omega⟩, by rw [List.length_replicate, ← hsN]; simp, ?_⟩
        have := (cnt_le (List.replicate N true)).2
        rw [List.length_replicate] at this
        omega
      have hcb : crnB s k = (List.replicate N true).set k false := by unfold crnB; rw [hsN]
      have hss : (s : Int) * s = (N : Int) := by rw [← hsN]; simp
      have cB := fun w => iRegionBox_ok s s N w (by omega) (by omega) (by omega) (by omega) hss (by omega)
      have cS2 := fun (B : Option Addr) (kk : Nat) (w : World) (R : Rd w B ((List.replicate N true).map .bool)) => iRegionSet_ok s s B kk k (List.replicate N true) false w R hval2 (by rw [List.length_replicate]; exact hk) (by rw [← hcb]; exact crnB_valid s k hs4)
      have cF := fun (B P : Option Addr) (kb kp : Nat) (w : World) (R : Rd w B (((List.replicate N true).set k false).map .bool)) (Rp : RdSS w P (List.replicate m crnP)) (Rv : Rd w A2 (V.map (.int .i64))) => by
        have := iFillOk_any s s B P A2 kb kp V.length ((List.replicate N true).set k false) (List.replicate m crnP) V w R (by unfold maxLen; simp; omega) Rp (by unfold maxLen; simp; omega) Rv hVm
        rw [show fillOkB s s ((List.replicate N true).set k false) (List.replicate m crnP) V = true by rw [← hcb, hVe]; exact HF.out] at this
        exact this
      simp only [List.length_replicate, List.length_set] at cS2 cF
      have hx1 : (List.replicate N true).length = N := List.length_replicate
      have hx2 : ((List.replicate N true).set k false).length = N := by rw [List.length_set]; exact hx1
      generalize (List.replicate N true).set k false = xs2 at cS2 cF hx2
      generalize List.replicate N true = xs1 at cB cS2 hx1
      have CB := Lib.hid cB
      have CS := Lib.hid cS2
      have CF := Lib.hid cF
      have X1 := Lib.hid hx1
      have X2 := Lib.hid hx2
      have hq : ((N : Int) - 1).tdiv 3 = m := by rw [Int.tdiv_eq_ediv_of_nonneg (by omega)]; omega
      have hq2 : ((N : Int) - 1) / 3 = m := by omega
      have O0 : OwnH (w4.alloc (.cells #[] 23)) w4.heap.size (.slice (some ⟨w4.heap.size, 0, none⟩) 0 0) [] := ⟨_, _, rfl, World.ownsRow_lit w4 #[] 0 (Nat.le_refl _) (by simp) (by simp)⟩
      have Z0 := bl_alloc (Below.refl w4.heap.size w4) (.cells #[] 23)
      obtain ⟨hN1, hN16, -⟩ := hN
      clear cB cS2 cF hx1 hx2 hcb hval2 hcase hVN hVe hsN hV
      go_wp2_with fail
      go_loopw [9, 10] (fun out i wr => ∃ (j : Nat) (xs : List Value), j ≤ m ∧ i = .int .i64 j ∧ Hid (xs.length = j) ∧ OwnH wr w4.heap.size out xs ∧ HeadsR wr xs (List.replicate j crnP) ∧ Parts wr w4.heap.size out xs ∧ Below w4.heap.size w4 wr) (fun _ i _ => m - (intOf i).toNat)
      case atStart => exact ⟨0, [], Nat.zero_le _, rfl, rfl, O0, ⟨rfl, fun k hk => by simp at hk⟩, fun k ad n c e => by simp at e, Z0⟩
      case round =>
        clear O0 Z0
        obtain ⟨j, xs, hj, rfl, HXL, O5, H5, P5, Z5⟩ := hrel
        have hz5 := Z5.size
        by_cases hlt : j < m
        · obtain ⟨A5, c5, rfl, -⟩ := id O5
          have O6 := OwnH.alloc2 O5 (bl_alloc (Below.refl wr.heap.size wr) (.cells #[.int .i64 0, .int .i64 0, .int .i64 1, .int .i64 0, .int .i64 0, .int .i64 1] 44)) (.cells #[.slice (some ⟨wr.heap.size, 0, none⟩) 3 3] 23)
          have BA := bl_alloc (bl_alloc (Below.refl wr.heap.size wr) (.cells #[.int .i64 0, .int .i64 0, .int .i64 1, .int .i64 0, .int .i64 0, .int .i64 1] 44)) (.cells #[.slice (some ⟨wr.heap.size, 0, none⟩) 3 3] 23)
          have R6 := (new_crn wr).alloc (.cells #[.slice (some ⟨wr.heap.size, 0, none⟩) 3 3] 23)
          have H6 : HeadsR ((wr.alloc (.cells #[.int .i64 0, .int .i64 0, .int .i64 1, .int .i64 0, .int .i64 0, .int .i64 1] 44)).alloc (.cells #[.slice (some ⟨wr.heap.size, 0, none⟩) 3 3] 23)) [.slice (some ⟨wr.heap.size, 0, none⟩) 3 3] [crnP] :=
            ⟨rfl, fun i hi => by
              match i, hi with
              | 0, _ => exact ⟨_, 3, rfl, Nat.le_refl _, (by show 3 ≤ 7; omega), R6⟩⟩
          have hown := own_outA O5
          have P6 : Parts ((wr.alloc (.cells #[.int .i64 0, .int .i64 0, .int .i64 1, .int .i64 0, .int .i64 0, .int .i64 1] 44)).alloc (.cells #[.slice (some ⟨wr.heap.size, 0, none⟩) 3 3] 23)) w4.heap.size (.slice A5 xs.length c5) [.slice (some ⟨wr.heap.size, 0, none⟩) 3 3] := fun i ad n c e => by
            match i, e with
            | 0, e =>
              injection e with e
              injection e with e1 e2 e3
              injection e1 with e1
              subst e1
              exact ⟨hz5, by simp; omega, fun e2 => by have h9 := (hown _ e2).2; exact Nat.lt_irrefl _ h9⟩
          have hxl : xs.length ≤ 5 := by rw [HXL.out]; omega
          have P5a := P5.grown (bl_alloc (bl_alloc (Below.refl wr.heap.size wr) (.cells #[.int .i64 0, .int .i64 0, .int .i64 1, .int .i64 0, .int .i64 0, .int .i64 1] 44)) (.cells #[.slice (some ⟨wr.heap.size, 0, none⟩) 3 3] 23)).size
          have H5a := (H5.belo BA).app H6
          have B6 := Z5.trans (BA.mono hz5)
          have hz6 := B6.size
          have HQ6 : ∀ (i : Nat) (u : Value), ([.slice (some ⟨wr.heap.size, 0, none⟩) 3 3] : List Value)[i]? = some u → ((wr.alloc (.cells #[.int .i64 0, .int .i64 0, .int .i64 1, .int .i64 0, .int .i64 0, .int .i64 1] 44)).alloc (.cells #[.slice (some ⟨wr.heap.size, 0, none⟩) 3 3] 23)).cell? ((⟨wr.heap.size + 1, 0, none⟩ : Addr).add i) = some u := fun i u hu => by
            match i, hu with
            | 0, hu =>
              have hs1 : (wr.alloc (.cells #[.int .i64 0, .int .i64 0, .int .i64 1, .int .i64 0, .int .i64 0, .int .i64 1] 44)).heap.size = wr.heap.size + 1 := by simp
              injection hu with hu
              subst hu
              rw [add_off, ← hs1]
              exact cell_of_row _ _ _ _ _ _ (heap_alloc_new _ _)
          have HQ7 : ∀ u ∈ ([.slice (some ⟨wr.heap.size, 0, none⟩) 3 3] : List Value), u.oneCell' = true := fun u hu => by simp at hu; subst hu; rfl
          go_wp2_with (at_builtin; refine wpList_headsA _ rfl _ _ rfl w4.heap.size (.slice A5 xs.length c5) xs rfl O6 ⟨wr.heap.size + 1, 0, none⟩ 1 1 [.slice (some ⟨wr.heap.size, 0, none⟩) 3 3] rfl rfl HQ6 HQ7 (by simp; omega) hz6 ?_; intro v7 w7 o7 g7 e7)
          go_roundw
          case rel =>
            have P7 : Parts _ w4.heap.size (.slice A5 xs.length c5) (xs ++ [.slice (some ⟨wr.heap.size, 0, none⟩) 3 3]) := P5a.app P6 (Nat.le_refl _) (.inl rfl)
            exact ⟨j + 1, _, by omega, by go_num, by show _ = _; rw [List.length_append, HXL.out]; rfl, o7, by rw [← repl_one]; exact H5a.keepA P7 g7, P5a.app P6 g7.size e7, B6.grown g7 hz6 (fun k hk => (own_outA O6 k hk).1)⟩
          case measure => simp [intOf]; omega
        · obtain rfl : j = m := by omega
          obtain ⟨A5, c5, rfl, -⟩ := id O5
          have R5 := RdSS.ofR O5.rdR H5
          have R5v := R4.belo Z5
          have Z6 := bl_go B4 Z5
          clear O5 H5 P5 Z5 R4 B4
          go_wp2_with fail
          refine (CB.out _).mono ?_
          rintro e w6 ⟨B6, k6, rfl, W6, b6⟩
          rw [X1.out]
          have Z7 := bl_go Z6 b6
          have R7 := W6.rd
          have P7 := R5.belo b6
          have V7 := R5v.belo b6
          clear W6 b6 Z6 R5 R5v
          go_wp2_with fail
          have T7 := CS.out B6 k6 _ R7
          refine T7.mono ?_
          rintro e w7 ⟨B7, k7, rfl, W7, b7⟩
          rw [X2.out]
          have Z8 := bl_go Z7 b7
          have BL := bl_alloc (Below.refl w7.heap.size w7) (.cells #[.int .i64 s, .int .i64 s, .slice B7 N k7] 27)
          have R8 := W7.rd.belo BL
          have P8 := (P7.belo b7).belo BL
          have V8 := (V7.belo b7).belo BL
          have Y8 := C3.new w7 (.int .i64 s) (.int .i64 s) (.slice B7 N k7) 27
          clear W7 b7 P7 V7 R7 Z7
          obtain ⟨y0, y1, y2⟩ := id Y8
          have CF8 := Lib.hid (CF.out B7 A5 k7 c5 _ R8 P8 V8)
          clear CF CS CB HF HSN HVE HC
          go_wp2_with fail
          rw [HXL.out]
          refine CF8.out.mono ?_
          rintro e w9 ⟨rfl, b9⟩
          have Z9 := bl_go (bl_alloc Z8 (.cells #[.int .i64 s, .int .i64 s, .slice B7 N k7] 27)) b9
          clear CF8 R8 P8 V8 Y8 y0 y1 y2 Z8 BL b9
          go_wp2
          go_ret
          exact ⟨rfl, Z9⟩
  · have hg : decide ((1048576 : Int) < (bs.length : Int)) = true := by simp; omega
    go_enter Try.func4, Try.ntmps4
    go_wp2
    go_ret
    exact ⟨rfl, Below.refl _ _⟩
end Go.Proofs.Ytnignglhefcecaa
