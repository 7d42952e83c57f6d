
/- FnFillOk: joined from FillN, FillsN, TilN, FillsP, ListI, RowI, AtI, FillsQ, AtS, PutS, FlsN, SameI, FillI, PiecesN, FillsI, RepI, FillsJ. -/
import Derived.Test.YtejkbjcmndnfeaaGreatFormJ
import Derived.Test.YtejkbjcmndnfeaaGreatMoveS
import Derived.Test.YtejkbjcmndnfeaaGreatFormL
import Derived.Test.YtejkbjcmndnfeaaGreatBarsN
import Derived.Test.YtejkbjcmndnfeaaGreatCellss
import Derived.Test.YtejkbjcmndnfeaaGreatApp
import Derived.Test.YtejkbjcmndnfeaaGreatMemE
import Derived.Deep.AppendLies
import Derived.Maps.AppendAt
import Derived.Test.YtejkbjcmndnfeaaGreatColour
import Derived.StillTailTactics
import Derived.Test.YtejkbjcmndnfeaaGreatCells
import Derived.RegionTactic
import Derived.ChangeAlike
import Derived.Laws.OwnMore
import Derived.IntWalk
import Derived.Test.YtejkbjcmndnfeaaGreatBw
import Derived.Deep.RegionLaw
import Derived.Laws.CopyOwn
import Derived.Test.YtejkbjcmndnfeaaGreatSet
import Derived.Deep.RegionHeld3
import Derived.Laws.EntriesVeiled
/- What fills a region with pieces, plainly; lists of cells that grow side by side. -/
namespace Go.Proofs.YtejkbjcmndnfeaaGreat
open Go.RowKit Go.Sort

/-! ### Plainly -/
/-- what a cell may be told -/
def cellOk (m : Nat) (b : Bool) (v : Int) : Prop := (b = true → 0 ≤ v ∧ v ≤ (m : Int) - 1) ∧ (b = false → v = -1)
/-- every cell is told what it may be -/
def fillD (m : Nat) (bs : List Bool) (fs : List Int) : Prop := ∀ k (h : k < bs.length) (h2 : k < fs.length), cellOk m bs[k] fs[k]
/-- the cells of a piece among the first ones -/
def cellsT (W : Int) (fs : List Int) (n : Int) (k : Nat) : List Ce := ((List.range k).filter fun j => decide (fs[j]? = some n)).map fun j : Nat => ((j : Int) % W, (j : Int) / W)
theorem cellsT_zero (W : Int) (fs : List Int) (n : Int) : cellsT W fs n 0 = [] := rfl
theorem cellsT_yes {W : Int} {fs : List Int} {n : Int} {k : Nat} (h : fs[k]? = some n) : cellsT W fs n (k + 1) = cellsT W fs n k ++ [((k : Int) % W, (k : Int) / W)] := by
  unfold cellsT; rw [List.range_succ, List.filter_append, List.map_append]; simp [h]
theorem cellsT_no {W : Int} {fs : List Int} {n : Int} {k : Nat} (h : fs[k]? ≠ some n) : cellsT W fs n (k + 1) = cellsT W fs n k := by
  unfold cellsT; rw [List.range_succ, List.filter_append, List.map_append]; simp [h]
theorem cellsT_len (W : Int) (fs : List Int) (n : Int) (k : Nat) : (cellsT W fs n k).length ≤ k := by
  unfold cellsT; rw [List.length_map]; exact Nat.le_trans (List.length_filter_le _ _) (by simp)
/-- the list tells every cell rightly, and each piece has its cells -/
noncomputable def fillB (W : Int) (bs : List Bool) (pss : List (List Ce)) (fs : List Int) : Bool :=
  @decide (fillD pss.length bs fs ∧ ∀ n (h : n < pss.length), sameV pss[n] (cellsT W fs n fs.length) = true) (Classical.propDecidable _)
theorem fillB_t {W : Int} {bs : List Bool} {pss : List (List Ce)} {fs : List Int} (h : fillD pss.length bs fs) (h2 : ∀ n (h : n < pss.length), sameV pss[n] (cellsT W fs n fs.length) = true) : fillB W bs pss fs = true := by
  unfold fillB; exact @decide_eq_true _ (Classical.propDecidable _) ⟨h, h2⟩
theorem fillB_f1 {W : Int} {bs : List Bool} {pss : List (List Ce)} {fs : List Int} (k : Nat) (h : k < bs.length) (h2 : k < fs.length) (hno : ¬ cellOk pss.length bs[k] fs[k]) : fillB W bs pss fs = false := by
  unfold fillB; exact @decide_eq_false _ (Classical.propDecidable _) (fun hh => hno (hh.1 k h h2))
theorem fillB_f2 {W : Int} {bs : List Bool} {pss : List (List Ce)} {fs : List Int} (n : Nat) (h : n < pss.length) (hno : sameV pss[n] (cellsT W fs n fs.length) = false) : fillB W bs pss fs = false := by
  unfold fillB; exact @decide_eq_false _ (Classical.propDecidable _) (fun hh => by have := hh.2 n h; rw [hno] at this; cases this)
/-- whether a list fills a region -/
noncomputable def fillOkB (W T : Int) (bs : List Bool) (pss : List (List Ce)) (fs : List Int) : Bool :=
  validB W T bs && (decide (pss.length ≤ 6) && piecesB pss) && decide (fs.length = bs.length) && fillB W bs pss fs

/-! ### An append of one cell that tells what has become of the blocks -/
section
variable {ops : Array Oper} {rest : List Oper} {o : Oper} {a : Act} {Q : Exit → Act → World → Prop}
theorem wpList_cell1 (W : World) (hgd : o.guard = none) (s x : Operand) (ho : o.op = .call { callee := .builtin .append, args := #[s, x], argTypes := #[32, 32] })
    (base : Nat) (v : Value) (ps : List Ce) (hs : a.eval s = v) (hown : OwnC W base v ps) (q1 q2 : Int) (H : Nat) (hx : a.eval x = .slice (some ⟨H, 0, none⟩) 1 1) (hc : W.cell? ⟨H, 0, none⟩ = some (.int .i64 q1)) (hd : W.cell? ⟨H, 1, none⟩ = some (.int .i64 q2)) (hn : ps.length ≤ 1000000) (hbase : base ≤ W.heap.size)
    (h : ∀ (A' : Option Addr) (c' : Nat) (w' : World), OwnC w' base (.slice A' (ps.length + 1) c') (ps ++ [(q1, q2)]) → W.grownBy w' v.ownBlock → ((Value.slice A' (ps.length + 1) c').ownBlock = v.ownBlock ∨ (Value.slice A' (ps.length + 1) c').ownBlock = some W.heap.size) → wpList Tryz.prog ops Q rest (a.put o.dst (.slice A' (ps.length + 1) c')) w') : wpList Tryz.prog ops Q (o :: rest) a W := by
  refine wpList_plain hgd fun K hK => ?_
  obtain ⟨i0, hi, hz0, hz1, hz2⟩ := info_parts Tryz.infoC
  obtain ⟨A, c, e, hown⟩ := hown
  obtain ⟨v', w', hr, h2, h3, _, h5⟩ := run_append_own_at (P := Tryz.prog) W base 32 o.type 89 i0 _ 2 16 Tryz.underlying32 hi hz0 hz1 hz2 rfl (by decide) v ps.length (cellsV ps) hown ⟨H, 0, none⟩ 1 1 [.int .i64 q1, .int .i64 q2] rfl
    (fun j y hj => by
      match j, hj with
      | 0, hj => simp at hj; subst hj; rw [add_off]; exact hc
      | 1, hj => simp at hj; subst hj; rw [add_off]; exact hd)
    (fun y hy => by simp at hy; rcases hy with rfl | rfl <;> rfl) (by unfold maxLen; omega) (by omega) hbase
  have e1 : cellsV ps ++ [.int .i64 q1, .int .i64 q2] = cellsV (ps ++ [(q1, q2)]) := by rw [cellsV_append]; rfl
  rw [e1] at h2
  obtain ⟨g, cap, rfl, _, _⟩ := h2.form (by omega)
  unfold Oper.wp execOp
  simp only [ho, resolve, invoke, builtin, Sem.run_bind, Sem.run_pure, Result.andThen_ok, List.map_toArray, List.map_cons, List.map_nil, hs, hx, hr]
  refine hK _ _ (h _ _ w' ⟨_, _, by simp; exact ⟨rfl, rfl⟩, ?_⟩ h3 h5)
  have e2 : (ps ++ [(q1, q2)]).length = ps.length + 1 := by simp
  rw [e2]; exact h2
end

/-! ### Lists that grow side by side -/
structure GotS (w : World) (G m : Nat) (L : List Value) (cs : Nat → List Ce) : Prop where
  row : w.ownsRow G 32 1 (.slice (some ⟨G, 0, none⟩) m m) m L
  each : ∀ n, n < m → ∃ v, L[n]? = some v ∧ OwnC w (G + 1) v (cs n)
  apart : ∀ (i j : Nat) (u v : Value) (b : Nat), i ≠ j → L[i]? = some u → L[j]? = some v → u.ownBlock = some b → v.ownBlock ≠ some b
theorem GotS.len {w : World} {G m : Nat} {L : List Value} {cs : Nat → List Ce} (h : GotS w G m L cs) : L.length = m := by have := h.row.1; omega
theorem GotS.belo {w w' : World} {G m : Nat} {L : List Value} {cs : Nat → List Ce} (h : GotS w G m L cs) (hb : Below w.heap.size w w') : GotS w' G m L cs :=
  ⟨own_below h.row hb (Nat.le_refl _), fun n hn => by obtain ⟨v, h1, h2⟩ := h.each n hn; exact ⟨v, h1, h2.belo hb⟩, h.apart⟩
theorem GotS.at_ {w : World} {G m : Nat} {L : List Value} {cs : Nat → List Ce} (h : GotS w G m L cs) {n : Nat} (hn : n < m) :
    ∃ (A : Option Addr) (c : Nat), L[n]? = some (.slice A (cs n).length c) ∧ OwnC w (G + 1) (.slice A (cs n).length c) (cs n) ∧ w.cell? ⟨G, n, none⟩ = some (.slice A (cs n).length c) ∧ w.frozen? ⟨G, n, none⟩ = false ∧ (cs n).length ≤ c ∧ G < w.heap.size := by
  obtain ⟨v, h1, h2⟩ := h.each n hn
  obtain ⟨A, c, rfl, h3⟩ := id h2
  have hc := (h.row.cellAt n (by omega)).trans h1
  refine ⟨A, c, h1, h2, hc, h.row.frozenAt n, OwnC.cap h2, ?_⟩
  have := World.block_lt_of_cell? w _ hc
  simpa using this
theorem GotS.cast {w : World} {G m : Nat} {L : List Value} {cs ds : Nat → List Ce} (h : GotS w G m L cs) (e : ∀ n, n < m → cs n = ds n) : GotS w G m L ds :=
  ⟨h.row, fun n hn => by obtain ⟨v, h1, h2⟩ := h.each n hn; exact ⟨v, h1, e n hn ▸ h2⟩, h.apart⟩
theorem GotS.put {w w1 w2 : World} {G m f : Nat} {L : List Value} {cs : Nat → List Ce} (h : GotS w G m L cs) (hb : Below w.heap.size w w1) (hf : f < m) {v v' : Value} (hv : L[f]? = some v) {ds : List Ce} (o2 : OwnC w2 (G + 1) v' ds)
    (hg : w1.grownBy w2 v.ownBlock) (hbl : v'.ownBlock = v.ownBlock ∨ v'.ownBlock = some w1.heap.size) :
    GotS (w2.setCell ⟨G, f, none⟩ v') G m (L.set f v') (fun n => if n = f then ds else cs n) := by
  have h1 := h.belo hb
  have hl := h.len
  obtain ⟨v0, e0, o0⟩ := h1.each f hf
  rw [hv] at e0
  injection e0 with e0
  subst e0
  have kr : w2.ownsRow G 32 1 (.slice (some ⟨G, 0, none⟩) m m) m L := h1.row.kept hg (.inr (fun e => by have := own_base_lt o0 G e.symm; omega))
  have inb : ∀ (j : Nat) (u : Value) (b : Nat), L[j]? = some u → u.ownBlock = some b → b < w1.heap.size := fun j u b hj hb => by
    have hjl : j < m := by rw [← hl]; exact (List.getElem?_eq_some_iff.1 hj).1
    obtain ⟨u', e, ou⟩ := h1.each j hjl
    rw [hj] at e
    injection e with e
    subst e
    obtain ⟨A, c, -, ou⟩ := ou
    exact (ou.lt b hb).2
  refine ⟨(kr.stored f _).1, fun n hn => ?_, fun i j u v2 b hij hi hj hu => ?_⟩
  · have keep : ∀ {v : Value} {qs : List Ce}, OwnC w2 (G + 1) v qs → OwnC (w2.setCell ⟨G, f, none⟩ v') (G + 1) v qs := fun ⟨A5, c5, e5, h5⟩ => ⟨A5, c5, e5, ownsRow_setCell_below h5 (by simp) _⟩
    by_cases hnf : n = f
    · subst hnf
      simp only [if_pos]
      exact ⟨v', List.getElem?_set_self (by omega), keep o2⟩
    · simp only [if_neg hnf]
      obtain ⟨u, eu, ou⟩ := h1.each n hn
      refine ⟨u, by rw [List.getElem?_set_ne (by omega)]; exact eu, keep ?_⟩
      obtain ⟨A5, c5, e5, h5⟩ := ou
      refine ⟨A5, c5, e5, h5.kept hg ?_⟩
      cases hub : u.ownBlock with
      | none => exact .inl rfl
      | some b => exact .inr (fun e => h1.apart n f u v b hnf eu hv hub e.symm)
  · by_cases h2 : i = f
    · subst h2
      rw [List.getElem?_set_self (by omega)] at hi
      injection hi with hi
      subst hi
      rw [List.getElem?_set_ne (by omega)] at hj
      rcases hbl with h3 | h3
      · exact h1.apart i j v v2 b hij hv hj (by rw [← h3]; exact hu)
      · intro e
        rw [h3] at hu
        injection hu with hu
        have := inb j v2 b hj e
        omega
    · rw [List.getElem?_set_ne (by omega)] at hi
      by_cases h4 : j = f
      · subst h4
        rw [List.getElem?_set_self (by omega)] at hj
        injection hj with hj
        subst hj
        rcases hbl with h3 | h3
        · rw [h3]; exact h1.apart i j u v b hij hi hv hu
        · rw [h3]
          intro e
          injection e with e
          have := inb i u b hi hu
          omega
      · rw [List.getElem?_set_ne (by omega)] at hj
        exact h1.apart i j u v2 b hij hi hj hu
theorem GotS.row2 {w w1 w2 : World} {G m f : Nat} {L : List Value} {cs : Nat → List Ce} (h : GotS w G m L cs) (hb : Below w.heap.size w w1) (hf : f < m) {v : Value} (hv : L[f]? = some v) (hg : w1.grownBy w2 v.ownBlock) :
    w2.cell? ⟨G, f, none⟩ = some v ∧ w2.frozen? ⟨G, f, none⟩ = false := by
  have h1 := h.belo hb
  obtain ⟨v0, e0, o0⟩ := h1.each f hf
  rw [hv] at e0
  injection e0 with e0
  subst e0
  have kr : w2.ownsRow G 32 1 (.slice (some ⟨G, 0, none⟩) m m) m L := h1.row.kept hg (.inr (fun e => by have := own_base_lt o0 G e.symm; omega))
  exact ⟨(kr.cellAt f (by omega)).trans hv, kr.frozenAt f⟩
theorem GotS.start {w : World} {G m : Nat} {L : List Value} (h : w.ownsRow G 32 1 (.slice (some ⟨G, 0, none⟩) m m) m L) (hL : ∀ n, n < m → L[n]? = some (.slice none 0 0)) : GotS w G m L (fun _ => []) := by
  have hl : L.length = m := by have := h.1; omega
  refine ⟨h, fun n hn => ⟨_, hL n hn, none, 0, rfl, World.ownsRow_nil _ _ _ _⟩, fun i j u v b hij hi hj hu => ?_⟩
  have hi2 : i < m := by rw [← hl]; exact (List.getElem?_eq_some_iff.1 hi).1
  rw [hL i hi2] at hi
  injection hi with hi
  subst hi
  cases hu
theorem GotS.below {w0 w w1 w2 : World} {B G m f : Nat} {L : List Value} {cs : Nat → List Ce} (h : GotS w G m L cs) (hb0 : Below B w0 w) (hB : B ≤ G) (hb : Below w.heap.size w w1) (hf : f < m) {v v' : Value} (hv : L[f]? = some v)
    (hg : w1.grownBy w2 v.ownBlock) (hBw : B ≤ w.heap.size) : Below B w0 (w2.setCell ⟨G, f, none⟩ v') := by
  obtain ⟨v0, e0, o0⟩ := h.each f hf
  rw [hv] at e0
  injection e0 with e0
  subst e0
  exact ((hb0.trans (hb.mono hBw)).grown hg (Nat.le_trans hBw hb.size) (fun k hk => by have := own_base_lt o0 k hk; omega)).setCell hB _
end Go.Proofs.YtejkbjcmndnfeaaGreat

/- All ways to fill a region with pieces, plainly: the lists that the search tells are just those that fill it, each once. -/
namespace Go.Proofs.YtejkbjcmndnfeaaGreat
open Go.RowKit Go.Sort

/-! ### The search -/
/-- a cell that is to be filled yet -/
def freK (bs : List Bool) (fill : List Int) (k : Nat) : Bool := bs.getD k false && decide (fill.getD k 0 < 0)
def freF (bs : List Bool) (fill : List Int) : List Bool := (List.range bs.length).map (freK bs fill)
/-- the first of them -/
def atF (bs : List Bool) (fill : List Int) : Nat := firstB (freF bs fill)
/-- where a cell of a form comes -/
def fxC (W : Int) (c : Nat) (form : List Ce) (q : Ce) : Int := (c : Int) % W + q.1 - (form.headD (0, 0)).1
def fyC (W : Int) (c : Nat) (form : List Ce) (q : Ce) : Int := (c : Int) / W + q.2 - (form.headD (0, 0)).2
def fitQ (W T : Int) (bs : List Bool) (fill : List Int) (x y : Int) : Bool := decide (0 ≤ x ∧ x ≤ W - 1 ∧ 0 ≤ y ∧ y ≤ T - 1) && freK bs fill (y * W + x).toNat
def fitF (W T : Int) (bs : List Bool) (fill : List Int) (c : Nat) (form : List Ce) : Bool := form.all fun q => fitQ W T bs fill (fxC W c form q) (fyC W c form q)
def plcL (W : Int) (c : Nat) (form : List Ce) : List Nat := form.map fun q => (fyC W c form q * W + fxC W c form q).toNat
def setF (fill : List Int) (L : List Nat) (v : Int) : List Int := L.foldl (fun f k => f.set k v) fill
noncomputable def fillsN (W T : Int) (bs : List Bool) (pss : List (List Ce)) (chk : Bool) : Nat → List Int → List Bool → List (List Int)
  | 0, fill, used => if atF bs fill = bs.length then (if chk && !used.all id then [] else [fill]) else []
  | m + 1, fill, used => if atF bs fill = bs.length then (if chk && !used.all id then [] else [fill]) else
    (List.range pss.length).flatMap fun n => if used.getD n true then [] else (formsV (pss.getD n [])).flatMap fun form =>
      if fitF W T bs fill (atF bs fill) form then fillsN W T bs pss chk m (setF fill (plcL W (atF bs fill) form) n) (used.set n true) else []

/-! ### The first free cell -/
theorem freF_len (bs : List Bool) (fill : List Int) : (freF bs fill).length = bs.length := by unfold freF; simp
theorem atF_le (bs : List Bool) (fill : List Int) : atF bs fill ≤ bs.length := by have := firstB_le (freF bs fill); rw [freF_len] at this; exact this
theorem freF_get {bs : List Bool} {fill : List Int} {k : Nat} (h : k < (freF bs fill).length) : (freF bs fill)[k] = freK bs fill k := by simp only [freF, List.getElem_map, List.getElem_range]
theorem atF_t {bs : List Bool} {fill : List Int} (h : atF bs fill < bs.length) : freK bs fill (atF bs fill) = true := by
  have h' : firstB (freF bs fill) < (freF bs fill).length := by rw [freF_len]; exact h
  have := firstB_t h'
  rw [freF_get] at this
  exact this
theorem atF_f {bs : List Bool} {fill : List Int} {k : Nat} (h : k < atF bs fill) : freK bs fill k = false := by
  have hk : k < (freF bs fill).length := by rw [freF_len]; have := atF_le bs fill; omega
  have := firstB_f (F := freF bs fill) h hk
  rw [freF_get] at this
  exact this
theorem atF_eq {bs : List Bool} {fill : List Int} {c : Nat} (hc : c ≤ bs.length) (h1 : ∀ k, k < c → freK bs fill k = false) (h2 : c < bs.length → freK bs fill c = true) : atF bs fill = c := by
  refine firstB_eq (by rw [freF_len]; exact hc) (fun k hk hkc => by rw [freF_get]; exact h1 k hkc) (fun h => by rw [freF_get]; exact h2 (by rw [freF_len] at h; exact h))
theorem freK_iff {bs : List Bool} {fill : List Int} {k : Nat} : freK bs fill k = true ↔ bs.getD k false = true ∧ fill.getD k 0 < 0 := by unfold freK; rw [Bool.and_eq_true, decide_eq_true_eq]
theorem freK_lt {bs : List Bool} {fill : List Int} {k : Nat} (h : freK bs fill k = true) : k < bs.length := by
  have h1 := (freK_iff.1 h).1
  refine Classical.byContradiction fun hk => ?_
  rw [List.getD_eq_getElem?_getD, List.getElem?_eq_none (by omega)] at h1
  cases h1

/-! ### Cells put -/
theorem setF_len (L : List Nat) (v : Int) (fill : List Int) : (setF fill L v).length = fill.length := by
  unfold setF
  induction L generalizing fill with
  | nil => rfl
  | cons a L ih => rw [List.foldl_cons, ih, List.length_set]
theorem getD_setF {α : Type} {l : List α} {k j : Nat} {v d : α} : (l.set k v).getD j d = if k = j ∧ k < l.length then v else l.getD j d := by
  rw [List.getD_eq_getElem?_getD, List.getD_eq_getElem?_getD, List.getElem?_set]
  by_cases h : k = j
  · subst h
    by_cases hk : k < l.length
    · simp [hk]
    · simp [hk]
  · simp [h]
theorem setF_mem {L : List Nat} {v : Int} {fill : List Int} {k : Nat} (hk : k < fill.length) (h : k ∈ L) : (setF fill L v).getD k 0 = v := by
  unfold setF
  induction L generalizing fill with
  | nil => cases h
  | cons a L ih =>
    rw [List.foldl_cons]
    by_cases hL : k ∈ L
    · exact ih (by rw [List.length_set]; exact hk) hL
    · have : k = a := by simpa [hL] using h
      subst this
      have key : ∀ (M : List Nat) (f : List Int), k ∉ M → (M.foldl (fun f k => f.set k v) f).getD k 0 = f.getD k 0 := fun M => by
        induction M with
        | nil => intro f _; rfl
        | cons b M ih2 =>
          intro f hM
          rw [List.mem_cons, not_or] at hM
          rw [List.foldl_cons, ih2 _ hM.2, getD_setF, if_neg (fun e => hM.1 e.1.symm)]
      rw [key L _ hL, getD_setF, if_pos ⟨rfl, hk⟩]
theorem setF_not {L : List Nat} {v : Int} {fill : List Int} {k : Nat} (h : k ∉ L) : (setF fill L v).getD k 0 = fill.getD k 0 := by
  unfold setF
  induction L generalizing fill with
  | nil => rfl
  | cons b M ih2 =>
    rw [List.mem_cons, not_or] at h
    rw [List.foldl_cons, ih2 h.2, getD_setF, if_neg (fun e => h.1 e.1.symm)]

/-! ### Columns and rows -/
/-- a field -/
structure FldF (W T : Int) (n : Nat) : Prop where
  w1 : 1 ≤ W
  w6 : W ≤ 6
  t1 : 1 ≤ T
  t6 : T ≤ 6
  len : (n : Int) = W * T
theorem FldF.bd {W T : Int} {n : Nat} (h : FldF W T n) : n ≤ 36 := by
  have := mul_bd h.w1 h.w6 h.t1 h.t6
  have := h.len
  omega
theorem FldF.at_ {W T : Int} {n : Nat} (h : FldF W T n) {x y : Int} (hx : 0 ≤ x) (hx' : x ≤ W - 1) (hy : 0 ≤ y) (hy' : y ≤ T - 1) :
    ∃ k : Nat, y * W + x = k ∧ k < n ∧ (k : Int) % W = x ∧ (k : Int) / W = y := by
  have h0 : 0 ≤ y * W := Int.mul_nonneg hy (by have := h.w1; omega)
  obtain ⟨k, hk⟩ := Int.eq_ofNat_of_zero_le (show 0 ≤ y * W + x by omega)
  have hW := h.w1
  refine ⟨k, hk, ?_, ?_, ?_⟩
  · have h1 : (y + 1) * W ≤ T * W := Int.mul_le_mul_of_nonneg_right (by omega) (by omega)
    rw [Int.add_mul, Int.one_mul] at h1
    have h2 := h.len
    rw [Int.mul_comm] at h2
    omega
  · rw [← hk, Int.add_comm, Int.add_mul_emod_self_right, Int.emod_eq_of_lt hx (by omega)]
  · rw [← hk, Int.add_comm, Int.add_mul_ediv_right _ _ (by omega), Int.ediv_eq_zero_of_lt hx (by omega)]; omega
theorem FldF.xy {W T : Int} {n : Nat} (h : FldF W T n) {k : Nat} (hk : k < n) : 0 ≤ (k : Int) % W ∧ (k : Int) % W ≤ W - 1 ∧ 0 ≤ (k : Int) / W ∧ (k : Int) / W ≤ T - 1 ∧ (k : Int) / W * W + (k : Int) % W = k := by
  have hW := h.w1
  have h1 := Int.emod_nonneg (k : Int) (show W ≠ 0 by omega)
  have h2 := Int.emod_lt_of_pos (k : Int) (show 0 < W by omega)
  have h3 := Int.ediv_nonneg (show 0 ≤ (k : Int) by omega) (show 0 ≤ W by omega)
  have h4 : (k : Int) / W * W + (k : Int) % W = k := by rw [Int.mul_comm]; exact Int.mul_ediv_add_emod _ _
  have h5 : (k : Int) / W < T := by
    refine Int.ediv_lt_of_lt_mul (by omega) ?_
    have := h.len
    rw [Int.mul_comm T W]
    omega
  omega
theorem FldF.inj {W T : Int} {n : Nat} (h : FldF W T n) {j k : Nat} (hj : j < n) (hk : k < n) (e1 : (j : Int) % W = (k : Int) % W) (e2 : (j : Int) / W = (k : Int) / W) : j = k := by
  have a := (h.xy hj).2.2.2.2
  have b := (h.xy hk).2.2.2.2
  rw [e1, e2] at a
  omega
/-- cells that come later are in a later row, or in a later column of the same row -/
theorem FldF.lt {W T : Int} {n : Nat} (h : FldF W T n) {j k : Nat} (hj : j < n) (hk : k < n) (hjk : j < k) : (j : Int) / W < (k : Int) / W ∨ ((j : Int) / W = (k : Int) / W ∧ (j : Int) % W < (k : Int) % W) := by
  obtain ⟨a1, a2, a3, a4, a5⟩ := h.xy hj
  obtain ⟨b1, b2, b3, b4, b5⟩ := h.xy hk
  rcases Int.lt_trichotomy ((j : Int) / W) ((k : Int) / W) with h1 | h1 | h1
  · exact .inl h1
  · rw [h1] at a5
    exact .inr ⟨h1, by omega⟩
  · exfalso
    have h2 : ((k : Int) / W + 1) * W ≤ (j : Int) / W * W := Int.mul_le_mul_of_nonneg_right (by omega) (by have := h.w1; omega)
    rw [Int.add_mul, Int.one_mul] at h2
    omega

/-! ### The cells of a piece -/
theorem getQ_iff {F : List Int} {j : Nat} {v : Int} : F[j]? = some v ↔ j < F.length ∧ F.getD j 0 = v := by
  rw [List.getD_eq_getElem?_getD]
  constructor
  · intro h
    exact ⟨(List.getElem?_eq_some_iff.1 h).1, by rw [h]; rfl⟩
  · rintro ⟨h1, h2⟩
    rw [List.getElem?_eq_getElem h1] at h2 ⊢
    exact congrArg some h2
def idxT (F : List Int) (n : Int) : List Nat := (List.range F.length).filter fun j => decide (F[j]? = some n)
def ceW (W : Int) (j : Nat) : Ce := ((j : Int) % W, (j : Int) / W)
theorem cells_idx (W : Int) (F : List Int) (n : Int) : cellsT W F n F.length = (idxT F n).map (ceW W) := rfl
theorem idxT_mem {F : List Int} {n : Int} {j : Nat} : j ∈ idxT F n ↔ j < F.length ∧ F.getD j 0 = n := by
  unfold idxT
  rw [List.mem_filter, List.mem_range, decide_eq_true_eq, getQ_iff]
  exact ⟨fun h => h.2, fun h => ⟨h.1, h⟩⟩
theorem idxT_pw (F : List Int) (n : Int) : (idxT F n).Pairwise (· < ·) := List.Pairwise.filter _ List.pairwise_lt_range
theorem cells_pw {W T : Int} {F : List Int} {n : Int} (hf : FldF W T F.length) : (cellsT W F n F.length).Pairwise fun x y => ltC x y = true := by
  rw [cells_idx, List.pairwise_map]
  refine List.Pairwise.imp_of_mem (fun {a b} ha hb hab => ?_) (idxT_pw F n)
  have := hf.lt (idxT_mem.1 ha).1 (idxT_mem.1 hb).1 hab
  unfold ltC ceW
  simp only [decide_eq_true_eq]
  exact this
theorem cells_nodup {W T : Int} {F : List Int} {n : Int} (hf : FldF W T F.length) : (cellsT W F n F.length).Nodup :=
  (cells_pw hf).imp fun {a b} h e => by subst e; unfold ltC at h; simp only [decide_eq_true_eq] at h; omega
theorem cells_sorted {W T : Int} {F : List Int} {n : Int} (hf : FldF W T F.length) (m : Ce) : ((cellsT W F n F.length).map (subC m)).Pairwise fun x y => ltC y x = false := by
  rw [List.pairwise_map]
  refine (cells_pw hf).imp fun {a b} h => ?_
  rw [subC_lt]
  unfold ltC at h ⊢
  simp only [decide_eq_true_eq, decide_eq_false_iff_not] at h ⊢
  omega
theorem cells_in {W T : Int} {F : List Int} {n : Int} (hf : FldF W T F.length) {q : Ce} (h : q ∈ cellsT W F n F.length) : 0 ≤ q.1 ∧ q.1 ≤ 5 ∧ 0 ≤ q.2 ∧ q.2 ≤ 5 := by
  rw [cells_idx, List.mem_map] at h
  obtain ⟨j, hj, rfl⟩ := h
  have := hf.xy (idxT_mem.1 hj).1
  have := hf.w6
  have := hf.t6
  unfold ceW
  simp only
  omega
/-- a piece moved elsewhere is a piece -/
theorem ok_sub {p q : List Ce} {m : Ce} (h : PieceOk p) (hq : q.Perm (p.map (subC m))) (hb : ∀ c ∈ q, -9 ≤ c.1 ∧ c.1 ≤ 9 ∧ -9 ≤ c.2 ∧ c.2 ≤ 9) : PieceOk q := by
  have hne := h.ne
  obtain ⟨⟨l1, l2⟩, -, hn, hr⟩ := h
  obtain ⟨s, hs⟩ : ∃ s, p.headD (0, 0) = s := ⟨_, rfl⟩
  have hsp : s ∈ p := by
    cases p with
    | nil => exact absurd rfl hne
    | cons a l => rw [← hs]; simp
  rw [hs] at hr
  have hmem : ∀ x, x ∈ q ↔ ∃ c ∈ p, subC m c = x := fun x => by rw [hq.mem_iff, List.mem_map]
  have hl : q.length = p.length := by rw [hq.length_eq, List.length_map]
  refine ⟨by omega, hb, ?_, fun a ha => ?_⟩
  · rw [List.Perm.nodup_iff hq]
    unfold List.Nodup at *
    rw [List.pairwise_map]
    exact hn.imp (fun {a b} hab e => hab (subC_inj e))
  · obtain ⟨c, hc, rfl⟩ := (hmem a).1 ha
    obtain ⟨t, ht⟩ : ∃ t, q.headD (0, 0) = t := ⟨_, rfl⟩
    have htm : t ∈ q := by
      cases hq : q with
      | nil => rw [hq] at ha; cases ha
      | cons a l => rw [hq] at ht; rw [← ht]; simp
    rw [ht]
    obtain ⟨d, hd, rfl⟩ := (hmem t).1 htm
    have e1 := reach_trans (reach_symm (hr d hd) hsp) (hr c hc)
    have e2 := reach_map (f := subC m) (fun a b hab => by unfold adjC subC at *; simp only; omega) e1
    exact reach_mono e2 (fun x hx => hq.mem_iff.2 hx)
theorem mvd_mvd {p : List Ce} (hne : p ≠ []) : mvd (mvd p) = mvd p := by
  have := mvd_map hne stayC lin_stay
  rw [map_stay, map_stay] at this
  exact this
theorem form_mvd {p x : List Ce} (h : PieceOk p) (hx : x ∈ formsV p) : mvd x = x := by
  rw [formsV_ok h, incOf_mem, ← walkF_list, List.mem_map] at hx
  obtain ⟨i, -, rfl⟩ := hx
  unfold walkF
  split
  · exact mvd_mvd (ok_turnN h i).ne
  · exact mvd_mvd (ok_turnFlip h _).ne
/-- cells that are a form moved are the piece -/
theorem same_of_form {p form q : List Ce} {m : Ce} (h : PieceOk p) (hx : form ∈ formsV p) (hq : q.Perm (form.map (subC m))) (hb : ∀ c ∈ q, -9 ≤ c.1 ∧ c.1 ≤ 9 ∧ -9 ≤ c.2 ∧ c.2 ≤ 9) : sameV p q = true ∧ mvd q = form := by
  obtain ⟨e1, hf⟩ := forms_of_form hx
  have hqo := ok_sub hf hq hb
  have hm : mvd q = form := by rw [mvd_perm (by simpa using hf.ne) hq, mvd_sub hf.ne, form_mvd h hx]
  refine ⟨?_, hm⟩
  have hin := moved_mem hqo
  rw [mvdV_ok stayC hqo, map_stay, hm] at hin
  have e2 := (forms_of_form hin).1
  unfold sameV
  rw [pieceB_t h, pieceB_t hqo]
  simp only [Bool.true_and, decide_eq_true_eq]
  unfold firstV
  rw [← e1, e2]
/-- the cells of a piece, moved, are a form of it -/
theorem form_of_same {W T : Int} {F : List Int} {n : Int} {p : List Ce} (hf : FldF W T F.length) (h : sameV p (cellsT W F n F.length) = true) :
    PieceOk p ∧ PieceOk (cellsT W F n F.length) ∧ (cellsT W F n F.length).map (subC (loP (cellsT W F n F.length))) ∈ formsV p := by
  unfold sameV at h
  simp only [Bool.and_eq_true, decide_eq_true_eq] at h
  obtain ⟨⟨h1, h2⟩, h3⟩ := h
  have hp := ok_of_pieceB h1
  have hq := ok_of_pieceB h2
  refine ⟨hp, hq, ?_⟩
  have hin := moved_mem hq
  rw [mvdV_ok stayC hq, map_stay] at hin
  rw [(same_forms hp hq h3).1]
  have e : (cellsT W F n F.length).map (subC (loP (cellsT W F n F.length))) = mvd (cellsT W F n F.length) := sortC_unique (List.Perm.refl _) (cells_sorted hf _)
  rw [e]
  exact hin

/-! ### What the search keeps, and what it is to find -/
structure StF (bs : List Bool) (P : Nat) (fill : List Int) (used : List Bool) : Prop where
  len : fill.length = bs.length
  ulen : used.length = P
  each : ∀ k, k < bs.length → fill.getD k 0 = -1 ∨ (bs.getD k false = true ∧ ∃ n : Nat, n < P ∧ used.getD n true = true ∧ fill.getD k 0 = n)
structure ExF (W : Int) (bs : List Bool) (pss : List (List Ce)) (fill : List Int) (used : List Bool) (F : List Int) : Prop where
  len : F.length = bs.length
  old : ∀ k, k < bs.length → 0 ≤ fill.getD k 0 → F.getD k 0 = fill.getD k 0
  new : ∀ k, k < bs.length → bs.getD k false = true → fill.getD k 0 < 0 → ∃ n : Nat, n < pss.length ∧ used.getD n true = false ∧ F.getD k 0 = n
  out : ∀ k, k < bs.length → bs.getD k false = false → F.getD k 0 = -1
  all : ∀ n, n < pss.length → used.getD n true = false → sameV (pss.getD n []) (cellsT W F n F.length) = true
def unN (used : List Bool) : Nat := (used.filter fun b => !b).length
theorem unN_set {used : List Bool} {n : Nat} (h : used.getD n true = false) : unN (used.set n true) + 1 = unN used := by
  unfold unN
  induction used generalizing n with
  | nil => simp at h
  | cons a l ih =>
    cases n with
    | zero =>
      rw [List.getD_cons_zero] at h
      subst h
      simp
    | succ n =>
      rw [List.getD_cons_succ] at h
      have := ih h
      cases a <;> simp at this ⊢ <;> omega
theorem unN_pos {used : List Bool} {n : Nat} (h : used.getD n true = false) : 0 < unN used := by have := unN_set h; omega
theorem all_used {used : List Bool} : used.all id = true ↔ ∀ n, used.getD n true = true := by
  rw [List.all_eq_true]
  constructor
  · intro h n
    rw [List.getD_eq_getElem?_getD]
    by_cases hn : n < used.length
    · rw [List.getElem?_eq_getElem hn]; exact h _ (List.getElem_mem hn)
    · rw [List.getElem?_eq_none (by omega)]; rfl
  · intro h b hb
    obtain ⟨n, hn, rfl⟩ := List.getElem_of_mem hb
    have := h n
    rw [List.getD_eq_getElem?_getD, List.getElem?_eq_getElem hn] at this
    exact this
theorem fit_get {W T : Int} {bs : List Bool} {fill : List Int} {c : Nat} {form : List Ce} (h : fitF W T bs fill c form = true) {q : Ce} (hq : q ∈ form) :
    (0 ≤ fxC W c form q ∧ fxC W c form q ≤ W - 1 ∧ 0 ≤ fyC W c form q ∧ fyC W c form q ≤ T - 1) ∧ freK bs fill (fyC W c form q * W + fxC W c form q).toNat = true := by
  unfold fitF at h
  rw [List.all_eq_true] at h
  have := h q hq
  unfold fitQ at this
  rw [Bool.and_eq_true, decide_eq_true_eq] at this
  exact this
theorem plc_free {W T : Int} {bs : List Bool} {fill : List Int} {c : Nat} {form : List Ce} (h : fitF W T bs fill c form = true) {k : Nat} (hk : k ∈ plcL W c form) : freK bs fill k = true := by
  unfold plcL at hk
  rw [List.mem_map] at hk
  obtain ⟨q, hq, rfl⟩ := hk
  exact (fit_get h hq).2
def byM (W : Int) (c : Nat) (form : List Ce) : Ce := ((form.headD (0, 0)).1 - (c : Int) % W, (form.headD (0, 0)).2 - (c : Int) / W)
theorem plc_cells {W T : Int} {bs : List Bool} {fill : List Int} {c : Nat} {form : List Ce} (hf : FldF W T bs.length) (h : fitF W T bs fill c form = true) : (plcL W c form).map (ceW W) = form.map (subC (byM W c form)) := by
  unfold plcL
  rw [List.map_map]
  refine List.map_congr_left fun q hq => ?_
  obtain ⟨⟨h1, h2, h3, h4⟩, -⟩ := fit_get h hq
  obtain ⟨k, e, -, e1, e2⟩ := hf.at_ h1 h2 h3 h4
  show ceW W (fyC W c form q * W + fxC W c form q).toNat = _
  rw [e, Int.toNat_natCast]
  unfold ceW
  rw [e1, e2]
  unfold fxC fyC subC byM
  exact Prod.ext (by simp only; omega) (by simp only; omega)
theorem plc_nodup {W T : Int} {bs : List Bool} {fill : List Int} {c : Nat} {form : List Ce} (hf : FldF W T bs.length) (h : fitF W T bs fill c form = true) (hn : form.Nodup) : (plcL W c form).Nodup := by
  have h1 : ((plcL W c form).map (ceW W)).Nodup := by
    rw [plc_cells hf h]
    unfold List.Nodup at *
    rw [List.pairwise_map]
    exact hn.imp (fun {a b} hab e => hab (subC_inj e))
  unfold List.Nodup at *
  rw [List.pairwise_map] at h1
  exact h1.imp (fun {a b} hab e => hab (by rw [e]))
theorem StF.next {W T : Int} {bs : List Bool} {P c n : Nat} {fill : List Int} {used : List Bool} {form : List Ce} (h : StF bs P fill used) (hfit : fitF W T bs fill c form = true) (hn : n < P) :
    StF bs P (setF fill (plcL W c form) n) (used.set n true) := by
  refine ⟨by rw [setF_len]; exact h.len, by rw [List.length_set]; exact h.ulen, fun k hk => ?_⟩
  by_cases hL : k ∈ plcL W c form
  · rw [setF_mem (by rw [h.len]; exact hk) hL]
    exact .inr ⟨(freK_iff.1 (plc_free hfit hL)).1, n, hn, by rw [getD_setF, if_pos ⟨rfl, by rw [h.ulen]; exact hn⟩], rfl⟩
  · rw [setF_not hL]
    rcases h.each k hk with h1 | ⟨h1, n', h2, h3, h4⟩
    · exact .inl h1
    · refine .inr ⟨h1, n', h2, ?_, h4⟩
      rw [getD_setF]
      split
      · rfl
      · exact h3
/-- behind a form that is put, its places and no others are told its number -/
theorem branch_idx {W T : Int} {bs : List Bool} {pss : List (List Ce)} {c n : Nat} {fill : List Int} {used : List Bool} {form : List Ce} {F : List Int} (h : StF bs pss.length fill used) (hfit : fitF W T bs fill c form = true) (hn : n < pss.length) (hu : used.getD n true = false)
    (hE : ExF W bs pss (setF fill (plcL W c form) n) (used.set n true) F) (k : Nat) : k ∈ idxT F n ↔ k ∈ plcL W c form := by
  rw [idxT_mem]
  constructor
  · rintro ⟨h1, h2⟩
    have hk : k < bs.length := by rw [← hE.len]; exact h1
    refine Classical.byContradiction fun hL => ?_
    have e := setF_not (v := (n : Int)) (fill := fill) hL
    rcases h.each k hk with h3 | ⟨h3, n', h4, h5, h6⟩
    · cases hb : bs.getD k false with
      | false => have := hE.out k hk hb; omega
      | true =>
        obtain ⟨n', h4, h5, h6⟩ := hE.new k hk hb (by rw [e]; omega)
        obtain rfl : n' = n := by omega
        rw [getD_setF, if_pos ⟨rfl, by rw [h.ulen]; exact hn⟩] at h5
        cases h5
    · have := hE.old k hk (by rw [e]; omega)
      rw [e] at this
      obtain rfl : n' = n := by omega
      rw [hu] at h5
      cases h5
  · intro hL
    have hk := freK_lt (plc_free hfit hL)
    have e := setF_mem (v := (n : Int)) (fill := fill) (by rw [h.len]; exact hk) hL
    refine ⟨by rw [hE.len]; exact hk, ?_⟩
    rw [hE.old k hk (by rw [e]; omega), e]
theorem branch_cells {W T : Int} {bs : List Bool} {pss : List (List Ce)} {c n : Nat} {fill : List Int} {used : List Bool} {form : List Ce} {F : List Int} (hf : FldF W T bs.length) (h : StF bs pss.length fill used) (hfit : fitF W T bs fill c form = true) (hn : n < pss.length) (hu : used.getD n true = false) (hnd : form.Nodup)
    (hE : ExF W bs pss (setF fill (plcL W c form) n) (used.set n true) F) : (cellsT W F n F.length).Perm (form.map (subC (byM W c form))) := by
  rw [cells_idx, ← plc_cells hf hfit]
  refine List.Perm.map _ ?_
  have h1 : (idxT F n).Nodup := (idxT_pw F n).imp fun {a b} h e => by omega
  exact (List.perm_ext_iff_of_nodup h1 (plc_nodup hf hfit hnd)).2 (branch_idx h hfit hn hu hE)
/-- behind a form that is put -/
theorem branch_ex {W T : Int} {bs : List Bool} {pss : List (List Ce)} {c n : Nat} {fill : List Int} {used : List Bool} {form : List Ce} {F : List Int} (hf : FldF W T bs.length) (hp : PieceOk (pss.getD n [])) (h : StF bs pss.length fill used) (hfit : fitF W T bs fill c form = true) (hn : n < pss.length) (hu : used.getD n true = false) (hx : form ∈ formsV (pss.getD n []))
    (hE : ExF W bs pss (setF fill (plcL W c form) n) (used.set n true) F) : ExF W bs pss fill used F ∧ mvd (cellsT W F n F.length) = form := by
  have hnd := (forms_of_form hx).2.2.2.1
  have hfF : FldF W T F.length := by rw [hE.len]; exact hf
  obtain ⟨hsame, hm⟩ := same_of_form hp hx (branch_cells hf h hfit hn hu hnd hE) (fun q hq => by have := cells_in hfF hq; omega)
  refine ⟨⟨hE.len, fun k hk h0 => ?_, fun k hk hb h0 => ?_, hE.out, fun n' hn' hu' => ?_⟩, hm⟩
  · have hL : k ∉ plcL W c form := fun hL => by have := (freK_iff.1 (plc_free hfit hL)).2; omega
    have e := setF_not (v := (n : Int)) (fill := fill) hL
    rw [hE.old k hk (by rw [e]; exact h0), e]
  · by_cases hL : k ∈ plcL W c form
    · have := (idxT_mem.1 ((branch_idx h hfit hn hu hE k).2 hL)).2
      exact ⟨n, hn, hu, this⟩
    · have e := setF_not (v := (n : Int)) (fill := fill) hL
      obtain ⟨n', h1, h2, h3⟩ := hE.new k hk hb (by rw [e]; exact h0)
      refine ⟨n', h1, ?_, h3⟩
      rw [getD_setF] at h2
      split at h2
      · cases h2
      · exact h2
  · by_cases hnn : n' = n
    · subst hnn; exact hsame
    · exact hE.all n' hn' (by rw [getD_setF, if_neg (fun e => hnn e.1.symm)]; exact hu')
/-- a list that is looked for lies behind a form of the piece of the first free cell -/
theorem ex_branch {W T : Int} {bs : List Bool} {pss : List (List Ce)} {fill : List Int} {used : List Bool} {F : List Int} (hf : FldF W T bs.length) (h : StF bs pss.length fill used) (hc : atF bs fill < bs.length) (hE : ExF W bs pss fill used F) :
    ∃ n form, n < pss.length ∧ used.getD n true = false ∧ form ∈ formsV (pss.getD n []) ∧ fitF W T bs fill (atF bs fill) form = true ∧ ExF W bs pss (setF fill (plcL W (atF bs fill) form) n) (used.set n true) F := by
  have hfF : FldF W T F.length := by rw [hE.len]; exact hf
  obtain ⟨hb, h0⟩ := freK_iff.1 (atF_t hc)
  obtain ⟨n, hn, hu, hFc⟩ := hE.new _ hc hb h0
  obtain ⟨hp, hq, hform⟩ := form_of_same hfF (hE.all n hn hu)
  have hcm : atF bs fill ∈ idxT F n := idxT_mem.2 ⟨by rw [hE.len]; exact hc, hFc⟩
  have hfree : ∀ k ∈ idxT F n, freK bs fill k = true := fun k hk => by
    obtain ⟨h1, h2⟩ := idxT_mem.1 hk
    have hkb : k < bs.length := by rw [← hE.len]; exact h1
    rw [freK_iff]
    cases hbk : bs.getD k false with
    | false => have := hE.out k hkb hbk; omega
    | true =>
      refine ⟨rfl, ?_⟩
      refine Classical.byContradiction fun h3 => ?_
      have h4 := hE.old k hkb (by omega)
      rcases h.each k hkb with h5 | ⟨-, n', h6, h7, h8⟩
      · omega
      · obtain rfl : n' = n := by omega
        rw [hu] at h7; cases h7
  obtain ⟨lo, hlo⟩ : ∃ lo, loP (cellsT W F n F.length) = lo := ⟨_, rfl⟩
  rw [hlo] at hform
  obtain ⟨l, hl⟩ : ∃ l, idxT F n = atF bs fill :: l := by
    cases hi : idxT F n with
    | nil => rw [hi] at hcm; cases hcm
    | cons a l =>
      refine ⟨l, ?_⟩
      have hpw := idxT_pw F n
      rw [hi] at hcm hpw
      have ha := hfree a (by rw [hi]; simp)
      rcases List.mem_cons.1 hcm with e | e
      · rw [e]
      · have h1 := (List.pairwise_cons.1 hpw).1 _ e
        rw [atF_f h1] at ha
        cases ha
  obtain ⟨form, hfm⟩ : ∃ form, (cellsT W F n F.length).map (subC lo) = form := ⟨_, rfl⟩
  rw [hfm] at hform
  have hhead : form.headD (0, 0) = subC lo (ceW W (atF bs fill)) := by rw [← hfm, cells_idx, hl]; rfl
  have hxy : ∀ k, fxC W (atF bs fill) form (subC lo (ceW W k)) = (k : Int) % W ∧ fyC W (atF bs fill) form (subC lo (ceW W k)) = (k : Int) / W := fun k => by
    unfold fxC fyC
    rw [hhead]
    unfold subC ceW
    simp only
    omega
  have hfe : form = (idxT F n).map fun k => subC lo (ceW W k) := by rw [← hfm, cells_idx, List.map_map]; rfl
  have hplc : plcL W (atF bs fill) form = idxT F n := by
    unfold plcL
    conv => lhs; arg 2; rw [hfe]
    rw [List.map_map]
    have : ∀ k ∈ idxT F n, ((fun q => (fyC W (atF bs fill) form q * W + fxC W (atF bs fill) form q).toNat) ∘ fun k => subC lo (ceW W k)) k = id k := fun k hk => by
      show (fyC W (atF bs fill) form (subC lo (ceW W k)) * W + fxC W (atF bs fill) form (subC lo (ceW W k))).toNat = k
      rw [(hxy k).1, (hxy k).2, (hfF.xy (idxT_mem.1 hk).1).2.2.2.2, Int.toNat_natCast]
    rw [List.map_congr_left this, List.map_id]
  have hfit : fitF W T bs fill (atF bs fill) form = true := by
    unfold fitF
    rw [List.all_eq_true]
    intro q hq
    have hq' := hq
    rw [hfe, List.mem_map] at hq'
    obtain ⟨k, hk, rfl⟩ := hq'
    obtain ⟨a1, a2, a3, a4, a5⟩ := hfF.xy (idxT_mem.1 hk).1
    unfold fitQ
    rw [(hxy k).1, (hxy k).2, a5, Int.toNat_natCast, hfree k hk, decide_eq_true ⟨a1, a2, a3, a4⟩]
    rfl
  refine ⟨n, form, hn, hu, hform, hfit, hE.len, fun k hk h1 => ?_, fun k hk hbk h1 => ?_, hE.out, fun n' hn' hu' => ?_⟩
  · rw [hplc] at h1 ⊢
    by_cases hL : k ∈ idxT F n
    · rw [setF_mem (by rw [h.len]; exact hk) hL, (idxT_mem.1 hL).2]
    · rw [setF_not hL] at h1 ⊢
      exact hE.old k hk h1
  · rw [hplc] at h1
    have hL : k ∉ idxT F n := fun hL => by rw [setF_mem (by rw [h.len]; exact hk) hL] at h1; omega
    rw [setF_not hL] at h1
    obtain ⟨n', h2, h3, h4⟩ := hE.new k hk hbk h1
    refine ⟨n', h2, ?_, h4⟩
    rw [getD_setF, if_neg]
    · exact h3
    · rintro ⟨e, -⟩
      subst e
      exact hL (idxT_mem.2 ⟨by rw [hE.len]; exact hk, h4⟩)
  · refine hE.all n' hn' ?_
    rw [getD_setF] at hu'
    split at hu'
    · cases hu'
    · exact hu'
theorem leaf_iff {W T : Int} {bs : List Bool} {pss : List (List Ce)} {fill : List Int} {used : List Bool} (hf : FldF W T bs.length) (h : StF bs pss.length fill used) (hc : atF bs fill = bs.length) (F : List Int) :
    F ∈ (if true && !used.all id then [] else [fill]) ↔ ExF W bs pss fill used F := by
  have hno : ∀ k, k < bs.length → bs.getD k false = true → 0 ≤ fill.getD k 0 := fun k hk hb => by
    have := atF_f (bs := bs) (fill := fill) (k := k) (by omega)
    refine Classical.byContradiction fun h0 => ?_
    rw [freK_iff.2 ⟨hb, by omega⟩] at this
    cases this
  constructor
  · intro hF
    by_cases hu : used.all id = true
    · rw [hu] at hF
      simp only [Bool.not_true, Bool.and_false, Bool.false_eq_true, if_false, List.mem_singleton] at hF
      subst hF
      refine ⟨h.len, fun _ _ _ => rfl, fun k hk hb h0 => absurd (hno k hk hb) (by omega), fun k hk hb => ?_, fun n _ h1 => ?_⟩
      · rcases h.each k hk with h1 | ⟨h1, -⟩
        · exact h1
        · rw [hb] at h1; cases h1
      · rw [all_used.1 hu n] at h1; cases h1
    · rw [Bool.not_eq_true] at hu
      rw [hu] at hF
      simp at hF
  · intro hE
    have hFf : F = fill := by
      refine List.ext_getElem (by rw [hE.len, h.len]) fun k h1 h2 => ?_
      have hk : k < bs.length := by rw [← h.len]; exact h2
      have key : F.getD k 0 = fill.getD k 0 := by
        cases hb : bs.getD k false with
        | true => exact hE.old k hk (hno k hk hb)
        | false =>
          rw [hE.out k hk hb]
          rcases h.each k hk with h3 | ⟨h3, -⟩
          · exact h3.symm
          · rw [hb] at h3; cases h3
      rw [List.getD_eq_getElem?_getD, List.getD_eq_getElem?_getD, List.getElem?_eq_getElem h1, List.getElem?_eq_getElem h2] at key
      exact key
    have hall : used.all id = true := all_used.2 fun n => by
      cases hu : used.getD n true with
      | true => rfl
      | false =>
        exfalso
        have hn : n < pss.length := by
          rw [← h.ulen]
          refine Classical.byContradiction fun hn => ?_
          rw [List.getD_eq_getElem?_getD, List.getElem?_eq_none (by omega)] at hu
          cases hu
        have hfF : FldF W T F.length := by rw [hE.len]; exact hf
        obtain ⟨-, hq, -⟩ := form_of_same hfF (hE.all n hn hu)
        have hne := hq.ne
        rw [cells_idx] at hne
        cases hi : idxT F n with
        | nil => rw [hi] at hne; exact hne rfl
        | cons a l =>
          have ha : a ∈ idxT F n := by rw [hi]; simp
          obtain ⟨h1, h2⟩ := idxT_mem.1 ha
          rw [hFf] at h1 h2
          rcases h.each a (by rw [← h.len]; exact h1) with h3 | ⟨-, n', h3, h4, h5⟩
          · omega
          · obtain rfl : n' = n := by omega
            rw [hu] at h4; cases h4
    rw [hall, hFf]
    simp
/-- the search finds just what it is to find -/
theorem fills_iff {W T : Int} {bs : List Bool} {pss : List (List Ce)} (hf : FldF W T bs.length) (hp : ∀ n, n < pss.length → PieceOk (pss.getD n [])) :
    ∀ (m : Nat) (fill : List Int) (used : List Bool), StF bs pss.length fill used → unN used ≤ m → ∀ F, F ∈ fillsN W T bs pss true m fill used ↔ ExF W bs pss fill used F := by
  intro m
  induction m with
  | zero =>
    intro fill used h hu F
    unfold fillsN
    by_cases hc : atF bs fill = bs.length
    · rw [if_pos hc]; exact leaf_iff hf h hc F
    · rw [if_neg hc]
      refine ⟨fun h => (by cases h), fun hE => ?_⟩
      have hc' : atF bs fill < bs.length := by have := atF_le bs fill; omega
      obtain ⟨n, -, -, hun, -⟩ := ex_branch hf h hc' hE
      have := unN_pos hun
      omega
  | succ m ih =>
    intro fill used h hu F
    unfold fillsN
    by_cases hc : atF bs fill = bs.length
    · rw [if_pos hc]; exact leaf_iff hf h hc F
    · rw [if_neg hc]
      have hc' : atF bs fill < bs.length := by have := atF_le bs fill; omega
      constructor
      · intro hF
        rw [List.mem_flatMap] at hF
        obtain ⟨n, hn, hF⟩ := hF
        rw [List.mem_range] at hn
        cases hun : used.getD n true with
        | true => rw [hun] at hF; simp at hF
        | false =>
          rw [hun, if_neg (by simp), List.mem_flatMap] at hF
          obtain ⟨form, hform, hF⟩ := hF
          cases hfit : fitF W T bs fill (atF bs fill) form with
          | false => rw [hfit] at hF; simp at hF
          | true =>
            rw [hfit, if_pos rfl] at hF
            have hE := (ih _ _ (h.next hfit hn) (by have := unN_set hun; omega) F).1 hF
            exact (branch_ex hf (hp n hn) h hfit hn hun hform hE).1
      · intro hE
        obtain ⟨n, form, hn, hun, hform, hfit, hE'⟩ := ex_branch hf h hc' hE
        rw [List.mem_flatMap]
        refine ⟨n, List.mem_range.2 hn, ?_⟩
        rw [hun, if_neg (by simp), List.mem_flatMap]
        refine ⟨form, hform, ?_⟩
        rw [hfit, if_pos rfl]
        exact (ih _ _ (h.next hfit hn) (by have := unN_set hun; omega) F).2 hE'
/-- each once -/
theorem fills_nodup {W T : Int} {bs : List Bool} {pss : List (List Ce)} (hf : FldF W T bs.length) (hp : ∀ n, n < pss.length → PieceOk (pss.getD n [])) :
    ∀ (m : Nat) (fill : List Int) (used : List Bool), StF bs pss.length fill used → unN used ≤ m → (fillsN W T bs pss true m fill used).Nodup := by
  intro m
  induction m with
  | zero =>
    intro fill used h hu
    unfold fillsN
    split
    · split <;> simp
    · simp
  | succ m ih =>
    intro fill used h hu
    unfold fillsN
    split
    · split <;> simp
    · rename_i hc
      have hc' : atF bs fill < bs.length := by have := atF_le bs fill; omega
      obtain ⟨hb, h0⟩ := freK_iff.1 (atF_t hc')
      have inner : ∀ n form F, n < pss.length → used.getD n true = false → form ∈ formsV (pss.getD n []) → F ∈ (if fitF W T bs fill (atF bs fill) form then fillsN W T bs pss true m (setF fill (plcL W (atF bs fill) form) n) (used.set n true) else []) →
          mvd (cellsT W F n F.length) = form ∧ ∃ k, k < F.length ∧ k = atF bs fill ∧ F.getD k 0 = n := fun n form F hn hun hform hF => by
        cases hfit : fitF W T bs fill (atF bs fill) form with
        | false => rw [hfit] at hF; simp at hF
        | true =>
          rw [hfit, if_pos rfl] at hF
          have hE := (fills_iff hf hp _ _ _ (h.next hfit hn) (by have := unN_set hun; omega) F).1 hF
          obtain ⟨-, hm⟩ := branch_ex hf (hp n hn) h hfit hn hun hform hE
          refine ⟨hm, _, ?_, rfl, ?_⟩
          · rw [hE.len]; exact hc'
          · have hL : atF bs fill ∈ plcL W (atF bs fill) form := by
              have hne := (forms_of_form hform).2.ne
              cases form with
              | nil => exact absurd rfl hne
              | cons a l =>
                unfold plcL
                rw [List.map_cons]
                refine List.mem_cons.2 (.inl ?_)
                unfold fxC fyC
                simp only [List.headD_cons]
                have h5 := (hf.xy hc').2.2.2.2
                rw [show ((atF bs fill : Nat) : Int) / W + a.2 - a.2 = ((atF bs fill : Nat) : Int) / W by omega, show ((atF bs fill : Nat) : Int) % W + a.1 - a.1 = ((atF bs fill : Nat) : Int) % W by omega, h5, Int.toNat_natCast]
            exact (idxT_mem.1 ((branch_idx h hfit hn hun hE _).2 hL)).2
      unfold List.Nodup
      rw [List.pairwise_flatMap]
      refine ⟨fun n hn => ?_, ?_⟩
      · rw [List.mem_range] at hn
        cases hun : used.getD n true with
        | true => simp
        | false =>
          rw [if_neg (by simp), List.pairwise_flatMap]
          refine ⟨fun form hform => ?_, ?_⟩
          · cases hfit : fitF W T bs fill (atF bs fill) form with
            | false => simp
            | true =>
              rw [if_pos rfl]
              exact ih _ _ (h.next hfit hn) (by have := unN_set hun; omega)
          · have hnd : (formsV (pss.getD n [])).Nodup := by rw [formsV_ok (hp n hn)]; exact (incOf_inc _).nodup
            unfold List.Nodup at hnd
            refine List.Pairwise.imp_of_mem (fun {a b} ha hb hab x hx y hy e => ?_) hnd
            subst e
            exact hab ((inner n a x hn hun ha hx).1.symm.trans (inner n b x hn hun hb hy).1)
      · have hr : (List.range pss.length).Pairwise (· ≠ ·) := List.nodup_range
        refine List.Pairwise.imp_of_mem (fun {a b} ha hb hab x hx y hy e => ?_) hr
        subst e
        rw [List.mem_range] at ha hb
        have get : ∀ n, n < pss.length → x ∈ (if used.getD n true then [] else (formsV (pss.getD n [])).flatMap fun form =>
            if fitF W T bs fill (atF bs fill) form then fillsN W T bs pss true m (setF fill (plcL W (atF bs fill) form) n) (used.set n true) else []) → x.getD (atF bs fill) 0 = (n : Int) := fun n hn hx => by
          cases hun : used.getD n true with
          | true => rw [hun] at hx; simp at hx
          | false =>
            rw [hun, if_neg (by simp), List.mem_flatMap] at hx
            obtain ⟨form, hform, hx⟩ := hx
            obtain ⟨-, k, -, rfl, e⟩ := inner n form x hn hun hform hx
            exact e
        have e1 := get a ha hx
        have e2 := get b hb hy
        omega
end Go.Proofs.YtejkbjcmndnfeaaGreat

/- How many tilings, counted with what is known, plainly. -/
namespace Go.Proofs.YtejkbjcmndnfeaaGreat
open Go.RowKit

/-- what a covered list is known by -/
def bitU (b : Bool) : UInt8 := if b = true then 49 else 48
def keyB (c : Nat) (cov : List Bool) : List UInt8 := UInt8.ofNat c :: (cov.drop c).map bitU
theorem bitU_inj {a b : Bool} (h : bitU a = bitU b) : a = b := by cases a <;> cases b <;> simp_all [bitU]
theorem map_bitU : ∀ {a b : List Bool}, a.map bitU = b.map bitU → a = b
  | [], [], _ => rfl
  | [], _ :: _, h => by simp at h
  | _ :: _, [], h => by simp at h
  | x :: a, y :: b, h => by
    simp only [List.map_cons, List.cons.injEq] at h
    rw [bitU_inj h.1, map_bitU h.2]
theorem key_inj {c c' : Nat} {cov cov' : List Bool} (h1 : c < 256) (h2 : c' < 256) (h : keyB c cov = keyB c' cov') : c = c' ∧ cov.drop c = cov'.drop c' := by
  unfold keyB at h
  simp only [List.cons.injEq] at h
  obtain ⟨ha, hb⟩ := h
  refine ⟨?_, map_bitU hb⟩
  have := congrArg UInt8.toNat ha
  rw [UInt8.toNat_ofNat', UInt8.toNat_ofNat'] at this
  omega
theorem free_of_key {c : Nat} {bs cov cov' : List Bool} (l1 : cov.length = bs.length) (l2 : cov'.length = bs.length) (hd : cov.drop c = cov'.drop c)
    (f1 : ∀ k (hk : k < (freeL bs cov).length), k < c → (freeL bs cov)[k] = false) (f2 : ∀ k (hk : k < (freeL bs cov').length), k < c → (freeL bs cov')[k] = false) : freeL bs cov = freeL bs cov' := by
  have e1 := freeL_len l1
  have e2 := freeL_len l2
  apply List.ext_getElem
  · omega
  · intro i h1 h2
    rcases Nat.lt_or_ge i c with h | h
    · rw [f1 i h1 h, f2 i h2 h]
    · rw [freeL_get (by omega) (by omega), freeL_get (by omega) (by omega)]
      have : cov[i]'(by omega) = cov'[i]'(by omega) := by
        have a : (cov.drop c)[i - c]? = (cov'.drop c)[i - c]? := by rw [hd]
        rw [List.getElem?_drop, List.getElem?_drop, show c + (i - c) = i by omega, List.getElem?_eq_getElem (by omega), List.getElem?_eq_getElem (by omega)] at a
        injection a
      rw [this]
theorem firstB_pre {F : List Bool} {c : Nat} (h : firstB F = c) : ∀ k (hk : k < F.length), k < c → F[k] = false := fun k hk hkc => firstB_f (by omega) hk
theorem clear_cnt {W T : Int} {F : List Bool} {c : Nat} (d : Int) (hc : c < F.length) (h : F[c] = true) : cnt (clearL F (barL W T F d 2 c)) + 1 ≤ cnt F := cnt_bar (by omega) hc h
theorem til_full {W T : Int} {long f : Nat} {F : List Bool} (h : firstB F = F.length) : barsN W T long f F = 1 := by
  cases f with
  | zero => rfl
  | succ f => rw [barsN, if_pos h]
theorem barsN_stab {W T : Int} : ∀ (f f' : Nat) (F : List Bool), cnt F ≤ f → f ≤ f' → barsN W T 2 f' F = barsN W T 2 f F
  | 0, f', F, hc, hf => by
    have h : firstB F = F.length := by
      rcases Nat.lt_or_ge (firstB F) F.length with h | h
      · have h1 := firstB_t h
        have h2 := cnt_set_lt F (firstB F) h h1
        have h3 := (cnt_le (F.set (firstB F) false)).1
        omega
      · have := firstB_le F; omega
    rw [til_full h, til_full h]
  | f + 1, f', F, hc, hf => by
    obtain ⟨f'', rfl⟩ : ∃ f'', f' = f'' + 1 := ⟨f' - 1, by omega⟩
    rw [barsN, barsN]
    by_cases h : firstB F = F.length
    · rw [if_pos h, if_pos h]
    · rw [if_neg h, if_neg h]
      have hlt : firstB F < F.length := by have := firstB_le F; omega
      have ht := firstB_t hlt
      have hp : ∀ d, partB W T 2 (barsN W T 2 f'') F (firstB F) d = partB W T 2 (barsN W T 2 f) F (firstB F) d := fun d => by
        unfold partB
        split
        · have := clear_cnt (W := W) (T := T) d hlt ht
          exact barsN_stab f f'' _ (by omega) (by omega)
        · rfl
      have hs : ∀ k, sumB W T 2 (barsN W T 2 f'') F (firstB F) k = sumB W T 2 (barsN W T 2 f) F (firstB F) k := by
        intro k
        induction k with
        | zero => rfl
        | succ k ih => rw [sumB, sumB, ih, hp]
      exact hs 2
def tilN (W T : Int) (F : List Bool) : Int := barsN W T 2 24 F
theorem barsN_rec {W T : Int} {F : List Bool} {c f : Nat} (hc : cnt F ≤ (f : Int) + 1) (h : firstB F = c) (hlt : c < F.length) : barsN W T 2 (f + 1) F = sumB W T 2 (barsN W T 2 (f + 1)) F c 2 := by
  subst h
  have ht := firstB_t hlt
  have hp : ∀ d, partB W T 2 (barsN W T 2 f) F (firstB F) d = partB W T 2 (barsN W T 2 (f + 1)) F (firstB F) d := fun d => by
    unfold partB
    split
    · have := clear_cnt (W := W) (T := T) d hlt ht
      exact (barsN_stab f (f + 1) _ (by omega) (by omega)).symm
    · rfl
  have hs : ∀ k, sumB W T 2 (barsN W T 2 f) F (firstB F) k = sumB W T 2 (barsN W T 2 (f + 1)) F (firstB F) k := by
    intro k
    induction k with
    | zero => rfl
    | succ k ih => rw [sumB, sumB, ih, hp]
  rw [← hs 2]
  conv => lhs; rw [barsN, if_neg (show ¬ firstB F = F.length by omega)]
theorem tilN_rec {W T : Int} {F : List Bool} {c : Nat} (hc : cnt F ≤ 24) (h : firstB F = c) (hlt : c < F.length) : tilN W T F = sumB W T 2 (tilN W T) F c 2 :=
  barsN_rec (f := 23) (by omega) h hlt
theorem tilN_none {W T : Int} {F : List Bool} (h : firstB F = F.length) : tilN W T F = 1 := by
  exact til_full h
theorem part_f {W T : Int} {rec : List Bool → Int} {F : List Bool} {c : Nat} {d : Int} (hc : c < F.length) (h : F[c] = true) (hs : stepZ W T c d < 0 ∨ F.getD (stepZ W T c d).toNat false = false) : partB W T 2 rec F c d = 0 := by
  unfold partB
  rw [if_neg]
  rintro ⟨hl, -⟩
  rw [barL_head hc h] at hl
  have : barL W T F d 1 (stepZ W T c d) = [] := by
    show (if _ then _ else _) = _
    rw [if_neg]
    rintro ⟨h1, h2⟩
    rcases hs with hs | hs
    · omega
    · rw [hs] at h2; cases h2
  rw [this] at hl
  simp at hl
theorem part_t {W T : Int} {rec : List Bool → Int} {F : List Bool} {c s : Nat} {d : Int} (hc : c < F.length) (h : F[c] = true) (hs : stepZ W T c d = (s : Int)) (hF : F.getD s false = true) : partB W T 2 rec F c d = rec ((F.set c false).set s false) := by
  have e : barL W T F d 2 c = [(c : Int), (s : Int)] := by
    rw [barL_head hc h, hs]
    congr 1
    show (if _ then _ else _) = _
    rw [if_pos ⟨by omega, by simpa using hF⟩]
    rfl
  unfold partB
  rw [e, if_pos ⟨rfl, .inl (by omega)⟩]
  rfl
theorem tilN_bd {W T : Int} (F : List Bool) : 0 ≤ tilN W T F ∧ tilN W T F ≤ 16777216 := by
  have h := barsN_bd W T 2 24 F
  unfold tilN
  have e : (2 : Int) ^ 24 = 16777216 := by decide
  omega
end Go.Proofs.YtejkbjcmndnfeaaGreat

/- All ways to fill a region with pieces, plainly: how many there are; the search that does not look whether all pieces are used. -/
namespace Go.Proofs.YtejkbjcmndnfeaaGreat
open Go.RowKit Go.Sort

/-! ### Bounds -/
theorem flat_len {α β : Type} {l : List α} {f : α → List β} {b : Nat} (h : ∀ a ∈ l, (f a).length ≤ b) : (l.flatMap f).length ≤ l.length * b := by
  induction l with
  | nil => simp
  | cons a l ih =>
    have h1 := h a (by simp)
    have h2 := ih fun x hx => h x (by simp [hx])
    rw [List.flatMap_cons, List.length_append, List.length_cons, Nat.add_mul, Nat.one_mul]
    omega
theorem fills_len (W T : Int) (bs : List Bool) (pss : List (List Ce)) (chk : Bool) (h6 : pss.length ≤ 6) : ∀ (m : Nat) (fill : List Int) (used : List Bool), (fillsN W T bs pss chk m fill used).length ≤ 48 ^ m := by
  intro m
  induction m with
  | zero =>
    intro fill used
    unfold fillsN
    split
    · split <;> simp
    · simp
  | succ m ih =>
    intro fill used
    have hp : 1 ≤ 48 ^ m := Nat.one_le_pow _ _ (by omega)
    unfold fillsN
    split
    · split
      · simp
      · rw [List.length_singleton, Nat.pow_succ]; omega
    · refine Nat.le_trans (flat_len (b := 8 * 48 ^ m) fun n _ => ?_) ?_
      · split
        · simp
        · refine Nat.le_trans (flat_len (b := 48 ^ m) fun form _ => ?_) (Nat.mul_le_mul_right _ (formsV_len_le _))
          split
          · exact ih _ _
          · simp
      · rw [List.length_range, Nat.pow_succ]
        have := Nat.mul_le_mul_right (8 * 48 ^ m) h6
        omega
theorem fills_max (W T : Int) (bs : List Bool) (pss : List (List Ce)) (chk : Bool) (h6 : pss.length ≤ 6) {m : Nat} (hm : m ≤ 6) (fill : List Int) (used : List Bool) : (fillsN W T bs pss chk m fill used).length ≤ 12230590464 := by
  have h1 := fills_len W T bs pss chk h6 m fill used
  have h2 : 48 ^ m ≤ 48 ^ 6 := Nat.pow_le_pow_right (by omega) hm
  have h3 : (48 : Nat) ^ 6 = 12230590464 := by decide
  omega

/-! ### What is needed yet, and what is free -/
theorem cnt_set_eq (l : List Bool) (k : Nat) (hk : k < l.length) (h : l[k] = true) : cnt (l.set k false) + 1 = cnt l := by
  unfold cnt
  induction l generalizing k with
  | nil => simp at hk
  | cons a l ih =>
    cases k with
    | zero => simp at h; subst h; simp
    | succ k =>
      have := ih k (by simpa using hk) (by simpa using h)
      cases a <;> simp at this ⊢ <;> omega
theorem freF_set {bs : List Bool} {fill : List Int} {k : Nat} {v : Int} (hk : k < fill.length) (hv : 0 ≤ v) : freF bs (fill.set k v) = (freF bs fill).set k false := by
  refine List.ext_getElem (by rw [List.length_set, freF_len, freF_len]) fun j h1 h2 => ?_
  rw [List.getElem_set, freF_get h1]
  unfold freK
  rw [getD_setF]
  by_cases h : k = j
  · rw [if_pos ⟨h, hk⟩, if_pos h, decide_eq_false (by omega)]; simp
  · rw [if_neg (fun e => h e.1), if_neg h, freF_get]; rfl
theorem free_one {bs : List Bool} {fill : List Int} {k : Nat} {v : Int} (hk : k < fill.length) (hv : 0 ≤ v) (hf : freK bs fill k = true) : cnt (freF bs (fill.set k v)) + 1 = cnt (freF bs fill) := by
  rw [freF_set hk hv]
  have hkb := freK_lt hf
  exact cnt_set_eq _ _ (by rw [freF_len]; exact hkb) (by rw [freF_get]; exact hf)
theorem free_setF {bs : List Bool} {v : Int} (hv : 0 ≤ v) : ∀ (L : List Nat) (fill : List Int), fill.length = bs.length → L.Nodup → (∀ k ∈ L, freK bs fill k = true) → cnt (freF bs (setF fill L v)) + L.length = cnt (freF bs fill) := by
  intro L
  induction L with
  | nil => intro fill _ _ _; show cnt (freF bs fill) + ((0 : Nat) : Int) = _; omega
  | cons a L ih =>
    intro fill hl hn hf
    have hn' := List.nodup_cons.1 hn
    have hfa := hf a (by simp)
    have ha := freK_lt hfa
    have h1 := ih (fill.set a v) (by rw [List.length_set]; exact hl) hn'.2 (fun k hk => by
      have h2 := hf k (by simp [hk])
      have hne : ¬ a = k := fun e => hn'.1 (e ▸ hk)
      unfold freK at *
      rw [getD_setF, if_neg (fun e => hne e.1)]
      exact h2)
    have h2 := free_one (bs := bs) (fill := fill) (k := a) (v := v) (by omega) hv hfa
    have e : setF fill (a :: L) v = setF (fill.set a v) L v := rfl
    rw [e, List.length_cons]
    omega
theorem free_full {bs : List Bool} {fill : List Int} (hc : atF bs fill = bs.length) : cnt (freF bs fill) = 0 := by
  have h : ∀ b ∈ freF bs fill, b = false := fun b hb => by
    obtain ⟨k, hk, rfl⟩ := List.getElem_of_mem hb
    rw [freF_get]
    exact atF_f (by rw [freF_len] at hk; omega)
  unfold cnt
  have : (freF bs fill).filter id = [] := List.filter_eq_nil_iff.2 fun b hb => by rw [h b hb]; simp
  first
    | (rw [this]; rfl)
    | (simp only [List.countP_eq_length_filter]; rw [this]; rfl)
/-- cells of the pieces that are not used yet -/
def needU : List (List Ce) → List Bool → Nat
  | p :: ps, u :: us => (if u = true then 0 else p.length) + needU ps us
  | _, _ => 0
theorem need_set {pss : List (List Ce)} {used : List Bool} {n : Nat} (hn : n < pss.length) (hu : used.getD n true = false) : needU pss used = (pss.getD n []).length + needU pss (used.set n true) := by
  induction pss generalizing used n with
  | nil => simp at hn
  | cons p ps ih =>
    cases used with
    | nil => simp at hu
    | cons u us =>
      cases n with
      | zero =>
        rw [List.getD_cons_zero] at hu
        subst hu
        simp [needU]
      | succ n =>
        rw [List.getD_cons_succ] at hu
        have := ih (by simpa using hn) hu
        rw [List.set_cons_succ, List.getD_cons_succ]
        unfold needU
        omega
theorem need_used {pss : List (List Ce)} {used : List Bool} (hl : used.length = pss.length) (hp : ∀ n, n < pss.length → 0 < (pss.getD n []).length) (h : needU pss used = 0) : used.all id = true := by
  refine all_used.2 fun n => ?_
  cases hu : used.getD n true with
  | true => rfl
  | false =>
    have hn : n < pss.length := by
      rw [← hl]
      refine Classical.byContradiction fun hn => ?_
      rw [List.getD_eq_getElem?_getD, List.getElem?_eq_none (by omega)] at hu
      cases hu
    have := need_set hn hu
    have := hp n hn
    omega
theorem used_need {pss : List (List Ce)} {used : List Bool} (h : used.all id = true) : needU pss used = 0 := by
  induction pss generalizing used with
  | nil => cases used <;> rfl
  | cons p ps ih =>
    cases used with
    | nil => rfl
    | cons u us =>
      rw [List.all_cons, Bool.and_eq_true] at h
      have h1 : u = true := h.1
      subst h1
      unfold needU
      rw [ih h.2]; simp
theorem form_len {p x : List Ce} (h : x ∈ formsV p) : x.length = p.length := (formsV_each h).1
/-- where as many cells are free as are needed, a full list has used all pieces -/
theorem fills_chk {W T : Int} {bs : List Bool} {pss : List (List Ce)} (hf : FldF W T bs.length) (hp : ∀ n, n < pss.length → PieceOk (pss.getD n [])) :
    ∀ (m : Nat) (fill : List Int) (used : List Bool), StF bs pss.length fill used → (needU pss used : Int) = cnt (freF bs fill) → fillsN W T bs pss false m fill used = fillsN W T bs pss true m fill used := by
  have leaf : ∀ (fill : List Int) (used : List Bool), StF bs pss.length fill used → (needU pss used : Int) = cnt (freF bs fill) → atF bs fill = bs.length →
      (if false && !used.all id then ([] : List (List Int)) else [fill]) = (if true && !used.all id then [] else [fill]) := fun fill used h he hc => by
    have h0 := free_full hc
    rw [need_used h.ulen (fun n hn => by have := (hp n hn).1.1; omega) (show needU pss used = 0 by omega)]
    rfl
  intro m
  induction m with
  | zero =>
    intro fill used h he
    unfold fillsN
    by_cases hc : atF bs fill = bs.length
    · rw [if_pos hc, if_pos hc]; exact leaf fill used h he hc
    · rw [if_neg hc, if_neg hc]
  | succ m ih =>
    intro fill used h he
    unfold fillsN
    by_cases hc : atF bs fill = bs.length
    · rw [if_pos hc, if_pos hc]; exact leaf fill used h he hc
    · rw [if_neg hc, if_neg hc]
      have key : ∀ n ∈ List.range pss.length, (if used.getD n true then [] else (formsV (pss.getD n [])).flatMap fun form => if fitF W T bs fill (atF bs fill) form then fillsN W T bs pss false m (setF fill (plcL W (atF bs fill) form) n) (used.set n true) else []) =
          (if used.getD n true then [] else (formsV (pss.getD n [])).flatMap fun form => if fitF W T bs fill (atF bs fill) form then fillsN W T bs pss true m (setF fill (plcL W (atF bs fill) form) n) (used.set n true) else []) := fun n hn => by
        rw [List.mem_range] at hn
        cases hu : used.getD n true with
        | true => rfl
        | false =>
          rw [if_neg (by simp), if_neg (by simp)]
          have key2 : ∀ form ∈ formsV (pss.getD n []), (if fitF W T bs fill (atF bs fill) form then fillsN W T bs pss false m (setF fill (plcL W (atF bs fill) form) n) (used.set n true) else []) = (if fitF W T bs fill (atF bs fill) form then fillsN W T bs pss true m (setF fill (plcL W (atF bs fill) form) n) (used.set n true) else []) := fun form hx => by
            cases hfit : fitF W T bs fill (atF bs fill) form with
            | false => rfl
            | true =>
              rw [if_pos rfl, if_pos rfl]
              refine ih _ _ (h.next hfit hn) ?_
              have h1 := need_set hn hu
              have h2 := free_setF (bs := bs) (v := (n : Int)) (by omega) (plcL W (atF bs fill) form) fill h.len (plc_nodup hf hfit (forms_of_form hx).2.2.2.1) (fun k hk => plc_free hfit hk)
              have h3 : (plcL W (atF bs fill) form).length = (pss.getD n []).length := by unfold plcL; rw [List.length_map, form_len hx]
              omega
          rw [List.flatMap_def, List.flatMap_def, List.map_congr_left key2]
      rw [List.flatMap_def, List.flatMap_def, List.map_congr_left key]
/-- a list that is found: as many cells are free as are needed -/
theorem fills_need {W T : Int} {bs : List Bool} {pss : List (List Ce)} (hf : FldF W T bs.length) :
    ∀ (m : Nat) (fill : List Int) (used : List Bool), StF bs pss.length fill used → ∀ F, F ∈ fillsN W T bs pss true m fill used → (needU pss used : Int) = cnt (freF bs fill) := by
  have leaf : ∀ (fill : List Int) (used : List Bool) (F : List Int), atF bs fill = bs.length → F ∈ (if true && !used.all id then [] else [fill]) → (needU pss used : Int) = cnt (freF bs fill) := fun fill used F hc hF => by
    have h0 := free_full hc
    cases hu : used.all id with
    | false => rw [hu] at hF; simp at hF
    | true => rw [h0, used_need hu]; rfl
  intro m
  induction m with
  | zero =>
    intro fill used h F hF
    unfold fillsN at hF
    by_cases hc : atF bs fill = bs.length
    · rw [if_pos hc] at hF; exact leaf fill used F hc hF
    · rw [if_neg hc] at hF; cases hF
  | succ m ih =>
    intro fill used h F hF
    unfold fillsN at hF
    by_cases hc : atF bs fill = bs.length
    · rw [if_pos hc] at hF; exact leaf fill used F hc hF
    · rw [if_neg hc, List.mem_flatMap] at hF
      obtain ⟨n, hn, hF⟩ := hF
      rw [List.mem_range] at hn
      cases hu : used.getD n true with
      | true => rw [hu] at hF; simp at hF
      | false =>
        rw [hu, if_neg (by simp), List.mem_flatMap] at hF
        obtain ⟨form, hx, hF⟩ := hF
        cases hfit : fitF W T bs fill (atF bs fill) form with
        | false => rw [hfit] at hF; simp at hF
        | true =>
          rw [hfit, if_pos rfl] at hF
          have h0 := ih _ _ (h.next hfit hn) F hF
          have h1 := need_set hn hu
          have h2 := free_setF (bs := bs) (v := (n : Int)) (by omega) (plcL W (atF bs fill) form) fill h.len (plc_nodup hf hfit (forms_of_form hx).2.2.2.1) (fun k hk => plc_free hfit hk)
          have h3 : (plcL W (atF bs fill) form).length = (pss.getD n []).length := by unfold plcL; rw [List.length_map, form_len hx]
          omega

/-! ### From the start -/
def fill0 (n : Nat) : List Int := List.replicate n (-1)
def used0 (P : Nat) : List Bool := List.replicate P false
noncomputable def fillsV (W T : Int) (bs : List Bool) (pss : List (List Ce)) : List (List Int) := fillsN W T bs pss true pss.length (fill0 bs.length) (used0 pss.length)
theorem getD_rep {α : Type} {n k : Nat} {v d : α} : (List.replicate n v).getD k d = if k < n then v else d := by
  rw [List.getD_eq_getElem?_getD, List.getElem?_replicate]
  split <;> rfl
theorem st_0 (bs : List Bool) (P : Nat) : StF bs P (fill0 bs.length) (used0 P) := ⟨by unfold fill0; simp, by unfold used0; simp, fun k hk => .inl (by unfold fill0; rw [getD_rep, if_pos hk])⟩
theorem unN_0 (P : Nat) : unN (used0 P) = P := by
  unfold unN used0
  rw [List.filter_eq_self.2 (fun b hb => by rw [List.eq_of_mem_replicate hb]; rfl), List.length_replicate]
theorem fre_0 (bs : List Bool) : freF bs (fill0 bs.length) = bs := by
  refine List.ext_getElem (freF_len _ _) fun k h1 h2 => ?_
  rw [freF_get]
  unfold freK fill0
  rw [getD_rep, if_pos h2, List.getD_eq_getElem?_getD, List.getElem?_eq_getElem h2]
  simp
theorem need_0 (pss : List (List Ce)) : needU pss (used0 pss.length) = (pss.map List.length).sum := by
  induction pss with
  | nil => rfl
  | cons p ps ih =>
    have e : used0 (p :: ps).length = false :: used0 ps.length := by unfold used0; rw [List.length_cons, List.replicate_succ]
    rw [e]
    unfold needU
    rw [ih]; simp
/-- a list fills a region exactly if the search finds it -/
theorem fillsV_mem {W T : Int} {bs : List Bool} {pss : List (List Ce)} (hf : FldF W T bs.length) (hp : ∀ n, n < pss.length → PieceOk (pss.getD n [])) (F : List Int) : F ∈ fillsV W T bs pss ↔ F.length = bs.length ∧ fillB W bs pss F = true := by
  unfold fillsV
  rw [fills_iff hf hp _ _ _ (st_0 bs _) (by rw [unN_0]; exact Nat.le_refl _)]
  have hbd : ∀ k, k < bs.length → (fill0 bs.length).getD k 0 = -1 := fun k hk => by unfold fill0; rw [getD_rep, if_pos hk]
  have hud : ∀ n, n < pss.length → (used0 pss.length).getD n true = false := fun n hn => by unfold used0; rw [getD_rep, if_pos hn]
  have hg : ∀ k (h : k < bs.length), bs.getD k false = bs[k] := fun k h => by rw [List.getD_eq_getElem?_getD, List.getElem?_eq_getElem h]; rfl
  have hG : ∀ k (h : k < F.length), F.getD k 0 = F[k] := fun k h => by rw [List.getD_eq_getElem?_getD, List.getElem?_eq_getElem h]; rfl
  have hP : ∀ n (h : n < pss.length), pss.getD n [] = pss[n] := fun n h => by rw [List.getD_eq_getElem?_getD, List.getElem?_eq_getElem h]; rfl
  constructor
  · intro hE
    refine ⟨hE.len, fillB_t (fun k hk hk2 => ⟨fun hb => ?_, fun hb => ?_⟩) (fun n hn => ?_)⟩
    · obtain ⟨n, h1, h2, h3⟩ := hE.new k hk (by rw [hg k hk]; exact hb) (by rw [hbd k hk]; omega)
      rw [hG k hk2] at h3
      omega
    · have := hE.out k hk (by rw [hg k hk]; exact hb)
      rw [hG k hk2] at this
      exact this
    · have := hE.all n hn (hud n hn)
      rw [hP n hn] at this
      exact this
  · rintro ⟨hl, hB⟩
    unfold fillB at hB
    obtain ⟨h1, h2⟩ := @of_decide_eq_true _ (Classical.propDecidable _) hB
    refine ⟨hl, fun k hk h0 => ?_, fun k hk hb _ => ?_, fun k hk hb => ?_, fun n hn _ => ?_⟩
    · rw [hbd k hk] at h0; omega
    · have hk2 : k < F.length := by omega
      rw [hg k hk] at hb
      obtain ⟨a, b⟩ := (h1 k hk hk2).1 hb
      obtain ⟨n, e⟩ := Int.eq_ofNat_of_zero_le a
      exact ⟨n, by omega, hud n (by omega), by rw [hG k hk2]; exact e⟩
    · have hk2 : k < F.length := by omega
      rw [hg k hk] at hb
      rw [hG k hk2]
      exact (h1 k hk hk2).2 hb
    · rw [hP n hn]; exact h2 n hn
theorem fillsV_nodup {W T : Int} {bs : List Bool} {pss : List (List Ce)} (hf : FldF W T bs.length) (hp : ∀ n, n < pss.length → PieceOk (pss.getD n [])) : (fillsV W T bs pss).Nodup :=
  fills_nodup hf hp _ _ _ (st_0 bs _) (by rw [unN_0]; exact Nat.le_refl _)
theorem fillsV_sum {W T : Int} {bs : List Bool} {pss : List (List Ce)} (hf : FldF W T bs.length) {F : List Int} (h : F ∈ fillsV W T bs pss) : ((pss.map List.length).sum : Int) = cnt bs := by
  have := fills_need hf _ _ _ (st_0 bs _) F h
  rw [fre_0, need_0] at this
  exact this
theorem fillsV_none {W T : Int} {bs : List Bool} {pss : List (List Ce)} (hf : FldF W T bs.length) (h : ((pss.map List.length).sum : Int) ≠ cnt bs) : fillsV W T bs pss = [] := by
  cases e : fillsV W T bs pss with
  | nil => rfl
  | cons F l => exact absurd (fillsV_sum hf (F := F) (by rw [e]; simp)) h
theorem fillsV_chk {W T : Int} {bs : List Bool} {pss : List (List Ce)} (hf : FldF W T bs.length) (hp : ∀ n, n < pss.length → PieceOk (pss.getD n [])) (h : ((pss.map List.length).sum : Int) = cnt bs) : fillsN W T bs pss false pss.length (fill0 bs.length) (used0 pss.length) = fillsV W T bs pss :=
  fills_chk hf hp _ _ _ (st_0 bs _) (by rw [need_0, fre_0]; exact h)
end Go.Proofs.YtejkbjcmndnfeaaGreat

/- Lists of lists of numbers that grow: what is appended, and what stays. -/
namespace Go.Proofs.YtejkbjcmndnfeaaGreat
open Go.RowKit

theorem Tryz.infoSI : (Tryz.prog.info? 27).map (fun i => (i.zero, i.size, i.bytes)) = some (some (.slice none 0 0), 1, 24) := by kernel_rfl
theorem offI (b off n : Nat) : (⟨b, off, none⟩ : Addr).add n = ⟨b, off + n, none⟩ := by unfold Addr.add; split <;> simp_all
/-- a list of heads of the call's own -/
def OwnL (w : World) (base : Nat) (v : Value) (xs : List Value) : Prop :=
  ∃ (A : Option Addr) (c : Nat), v = .slice A xs.length c ∧ w.ownsRow base 27 1 v xs.length xs
/-- a head reads as numbers -/
def HeadI (w : World) (x : Value) (ns : List Int) : Prop := ∃ (B : Option Addr) (c : Nat), x = .slice B ns.length c ∧ ns.length ≤ c ∧ ns.length ≤ 1000000 ∧ Rd w B (ns.map (.int .i64))
def HeadsI (w : World) (xs : List Value) (fs : List (List Int)) : Prop := xs.length = fs.length ∧ ∀ k (h : k < fs.length) (hx : k < xs.length), HeadI w xs[k] fs[k]
theorem HeadsI.nil (w : World) : HeadsI w [] [] := ⟨rfl, fun k h => by simp at h⟩
theorem HeadsI.app {w : World} {xs ys : List Value} {P R : List (List Int)} (h : HeadsI w xs P) (k : HeadsI w ys R) : HeadsI w (xs ++ ys) (P ++ R) := by
  have h1 := h.1
  have k1 := k.1
  refine ⟨by rw [List.length_append, List.length_append, h1, k1], fun j hj hx => ?_⟩
  rcases Nat.lt_or_ge j P.length with h2 | h2
  · rw [List.getElem_append_left h2, List.getElem_append_left (by omega)]
    exact h.2 _ _ _
  · rw [List.getElem_append_right h2, List.getElem_append_right (by omega)]
    have := k.2 (j - P.length) (by rw [List.length_append] at hj; omega) (by rw [List.length_append] at hx; omega)
    simp only [h1]
    exact this
theorem HeadsI.one {w : World} {x : Value} {ns : List Int} (h : HeadI w x ns) : HeadsI w [x] [ns] := ⟨rfl, fun k h1 h2 => by
  match k, h1 with
  | 0, _ => exact h⟩
theorem HeadsI.cell {w : World} {xs : List Value} {fs : List (List Int)} (h : HeadsI w xs fs) : ∀ u ∈ xs, u.oneCell' = true := fun u hu => by
  obtain ⟨k, hk, rfl⟩ := List.getElem_of_mem hu
  obtain ⟨B, c, e, -⟩ := h.2 k (by rw [← h.1]; exact hk) hk
  rw [e]; rfl
/-- where the heads' lists lie -/
def AtL (xs : List Value) (b : Nat) : Prop := ∃ (k : Nat) (ad : Addr) (n c : Nat), xs[k]? = some (Value.slice (some ad) n c) ∧ ad.block = b
theorem HeadsI.keep {w w' : World} {xs : List Value} {fs : List (List Int)} (h : HeadsI w xs fs) (hk : ∀ b, AtL xs b → w'.heap[b]? = w.heap[b]?) : HeadsI w' xs fs :=
  ⟨h.1, fun k h1 h2 => by
    obtain ⟨B, c, e, a1, a2, a3⟩ := h.2 k h1 h2
    refine ⟨B, c, e, a1, a2, fun hne => ?_⟩
    obtain ⟨ad, e2, hc⟩ := a3 hne
    refine ⟨ad, e2, fun j u hu => ?_⟩
    have hb := hk ad.block ⟨k, ad, fs[k].length, c, by rw [List.getElem?_eq_getElem h2, e, e2], rfl⟩
    have hcj := hc j u hu
    have hz : (ad.add j).block = ad.block := by unfold Addr.add; split <;> rfl
    generalize ad.add j = aj at hcj hz ⊢
    obtain ⟨b9, o9, s9⟩ := aj
    have hs := World.cell?_spot hcj
    simp only at hs hz
    subst hs
    rw [← hz] at hb
    rw [World.cell?_of_block hb]; exact hcj⟩
theorem HeadsI.belo {w w' : World} {xs : List Value} {fs : List (List Int)} (h : HeadsI w xs fs) (hb : Below w.heap.size w w') : HeadsI w' xs fs :=
  ⟨h.1, fun k h1 h2 => by obtain ⟨B, c, e, a1, a2, a3⟩ := h.2 k h1 h2; exact ⟨B, c, e, a1, a2, Rd.belo a3 hb⟩⟩
/-- a slice of heads that reads as lists of numbers -/
def RdLL (w : World) (A : Option Addr) (fs : List (List Int)) : Prop := ∃ xs, Rd w A xs ∧ HeadsI w xs fs
theorem RdLL.belo {w w' : World} {A : Option Addr} {fs : List (List Int)} (h : RdLL w A fs) (hb : Below w.heap.size w w') : RdLL w' A fs := by
  obtain ⟨xs, h1, h2⟩ := h; exact ⟨xs, h1.belo hb, h2.belo hb⟩
theorem RdLL.at_ {w : World} {A : Option Addr} {fs : List (List Int)} (h : RdLL w A fs) {k : Nat} (hk : k < fs.length) :
    ∃ (b off : Nat) (B : Option Addr) (c : Nat), A = some ⟨b, off, none⟩ ∧ w.cell? ⟨b, off + k, none⟩ = some (.slice B fs[k].length c) ∧ fs[k].length ≤ c ∧ fs[k].length ≤ 1000000 ∧ Rd w B (fs[k].map (.int .i64)) := by
  obtain ⟨xs, h1, h2⟩ := h
  have hx : k < xs.length := by rw [h2.1]; exact hk
  obtain ⟨B, c, e, a1, a2, a3⟩ := h2.2 k hk hx
  obtain ⟨b, off, e2, hc⟩ := h1.atE hx
  exact ⟨b, off, B, c, e2, by rw [hc, e], a1, a2, a3⟩
section
variable {ops : Array Oper} {rest : List Oper} {o : Oper} {a : Act} {Q : Exit → Act → World → Prop}
/-- heads appended to a list of heads of its own -/
theorem opw_headsL {K : Act → World → Prop} (W : World) (s x : Operand) (ho : o.op = .call { callee := .builtin .append, args := #[s, x], argTypes := #[33, 33] })
    (base : Nat) (v : Value) (xs : List Value) (hs : a.eval s = v) (hown : OwnL W base v xs) (ad : Addr) (n c : Nat) (ys : List Value) (hx : a.eval x = .slice (some ad) n c) (hl : ys.length = n) (hq : ∀ j u, ys[j]? = some u → W.cell? (ad.add j) = some u) (h1 : ∀ u ∈ ys, u.oneCell' = true) (hm : xs.length + n ≤ 1000000000000) (hbase : base ≤ W.heap.size)
    (h : ∀ v' w', OwnL w' base v' (xs ++ ys) → W.grownBy w' v.ownBlock → (v'.ownBlock = v.ownBlock ∨ v'.ownBlock = some W.heap.size) → K (a.put o.dst v') w') : Oper.wp Tryz.prog o a W K Q := by
  obtain ⟨i0, hi, hz0, hz1, hz2⟩ := info_parts Tryz.infoSI
  obtain ⟨A, c', e, hown⟩ := hown
  obtain ⟨v', w', hr, h2, h3, _, h5⟩ := run_append_own_at (P := Tryz.prog) W base 33 o.type 27 i0 _ 1 24 Tryz.underlying33 hi hz0 hz1 hz2 rfl (by decide) v xs.length xs hown ad n c ys (by omega) hq h1 (by unfold maxLen; omega) (by omega) hbase
  unfold Oper.wp execOp
  simp only [ho, resolve, invoke, builtin, Sem.run_bind, Sem.run_pure, Result.andThen_ok, List.map_toArray, List.map_cons, List.map_nil, hs, hx, hr]
  refine h v' w' ?_ h3 h5
  have hlen : (xs ++ ys).length = xs.length + n := by rw [List.length_append, hl]
  rcases h2.2 with ⟨e1, e2⟩ | ⟨g, cap, cur, e1, _⟩
  · subst e1
    have hnil : xs ++ ys = [] := List.eq_nil_of_length_eq_zero (by omega)
    rw [hnil]
    exact ⟨none, 0, rfl, World.ownsRow_nil _ _ _ _⟩
  · subst e1
    exact ⟨_, cap, by rw [hlen], by rw [hlen]; exact h2⟩
theorem wpList_headsL (W : World) (hgd : o.guard = none) (s x : Operand) (ho : o.op = .call { callee := .builtin .append, args := #[s, x], argTypes := #[33, 33] })
    (base : Nat) (v : Value) (xs : List Value) (hs : a.eval s = v) (hown : OwnL W base v xs) (ad : Addr) (n c : Nat) (ys : List Value) (hx : a.eval x = .slice (some ad) n c) (hl : ys.length = n) (hq : ∀ j u, ys[j]? = some u → W.cell? (ad.add j) = some u) (h1 : ∀ u ∈ ys, u.oneCell' = true) (hm : xs.length + n ≤ 1000000000000) (hbase : base ≤ W.heap.size)
    (h : ∀ v' w', OwnL w' base v' (xs ++ ys) → W.grownBy w' v.ownBlock → (v'.ownBlock = v.ownBlock ∨ v'.ownBlock = some W.heap.size) → wpList Tryz.prog ops Q rest (a.put o.dst v') w') : wpList Tryz.prog ops Q (o :: rest) a W :=
  wpList_plain hgd fun _ hK => opw_headsL W s x ho base v xs hs hown ad n c ys hx hl hq h1 hm hbase fun v' w' k1 k2 k3 => hK _ _ (h v' w' k1 k2 k3)
theorem step_headsL {K : Act → World → Prop} {E : Prop} (W : World) (hgd : o.guard = none) (s x : Operand) (ho : o.op = .call { callee := .builtin .append, args := #[s, x], argTypes := #[33, 33] })
    (base : Nat) (v : Value) (xs : List Value) (hs : a.eval s = v) (hown : OwnL W base v xs) (ad : Addr) (n c : Nat) (ys : List Value) (hx : a.eval x = .slice (some ad) n c) (hl : ys.length = n) (hq : ∀ j u, ys[j]? = some u → W.cell? (ad.add j) = some u) (h1 : ∀ u ∈ ys, u.oneCell' = true) (hm : xs.length + n ≤ 1000000000000) (hbase : base ≤ W.heap.size)
    (h : ∀ v' w', OwnL w' base v' (xs ++ ys) → W.grownBy w' v.ownBlock → (v'.ownBlock = v.ownBlock ∨ v'.ownBlock = some W.heap.size) → K (a.put o.dst v') w') :
    if Region.wanted o (yielded ops a.tmps) = true then Oper.wp Tryz.prog o a W K Q else E := by
  have hw : Region.wanted o (yielded ops a.tmps) = true := by simp [Region.wanted, hgd]
  rw [if_pos hw]
  exact opw_headsL W s x ho base v xs hs hown ad n c ys hx hl hq h1 hm hbase h
end
/-! ### A list that grows -/
structure GrL (w : World) (base : Nat) (v : Value) (xs : List Value) (fs : List (List Int)) : Prop where
  own : OwnL w base v xs
  hd : HeadsI w xs fs
  pt : ∀ b, AtL xs b → b < w.heap.size ∧ v.ownBlock ≠ some b
theorem OwnL.lt {w : World} {base : Nat} {v : Value} {xs : List Value} (h : OwnL w base v xs) : ∀ k, v.ownBlock = some k → base ≤ k ∧ k < w.heap.size := by
  obtain ⟨A, c, e, o⟩ := h
  exact o.lt
theorem OwnL.keep {w w' : World} {base : Nat} {v : Value} {xs : List Value} (h : OwnL w base v xs) (hk : ∀ b, v.ownBlock = some b → w'.heap[b]? = w.heap[b]?) : OwnL w' base v xs := by
  obtain ⟨A, c, e, o⟩ := h
  refine ⟨A, c, e, o.1, ?_⟩
  rcases o.2 with h1 | ⟨g, cap, cur, hv, h1⟩
  · exact .inl h1
  · refine .inr ⟨g, cap, cur, hv, ?_⟩
    have := hk g (by rw [hv]; rfl)
    obtain ⟨a1, a2, a3⟩ := h1
    exact ⟨a1, by rw [this]; exact a2, a3⟩
theorem AtL.nil {b : Nat} : ¬ AtL [] b := fun ⟨k, ad, n, c, e, _⟩ => by simp at e
theorem AtL.app {xs ys : List Value} {b : Nat} (h : AtL (xs ++ ys) b) : AtL xs b ∨ AtL ys b := by
  obtain ⟨k, ad, n, c, e, hb⟩ := h
  rcases Nat.lt_or_ge k xs.length with h1 | h1
  · rw [List.getElem?_append_left h1] at e; exact .inl ⟨k, ad, n, c, e, hb⟩
  · rw [List.getElem?_append_right h1] at e; exact .inr ⟨_, ad, n, c, e, hb⟩
theorem AtL.one {B : Option Addr} {n c b : Nat} (h : AtL [.slice B n c] b) : ∃ ad, B = some ad ∧ ad.block = b := by
  obtain ⟨k, ad, n', c', e, hb⟩ := h
  match k, e with
  | 0, e => injection e with e; injection e with e1 _ _; exact ⟨ad, e1, hb⟩
theorem GrL.keep {w w' : World} {base : Nat} {v : Value} {xs : List Value} {fs : List (List Int)} (h : GrL w base v xs fs) (hs : w.heap.size ≤ w'.heap.size) (h1 : ∀ b, v.ownBlock = some b → w'.heap[b]? = w.heap[b]?) (h2 : ∀ b, AtL xs b → w'.heap[b]? = w.heap[b]?) : GrL w' base v xs fs :=
  ⟨h.own.keep h1, h.hd.keep h2, fun b hb => by have := h.pt b hb; exact ⟨by omega, this.2⟩⟩
theorem GrL.belo {w w' : World} {base : Nat} {v : Value} {xs : List Value} {fs : List (List Int)} (h : GrL w base v xs fs) (hb : Below w.heap.size w w') : GrL w' base v xs fs :=
  h.keep hb.size (fun b e => hb.block b (h.own.lt b e).2) (fun b e => hb.block b (h.pt b e).1)
/-- behind an append -/
theorem GrL.app {w w' : World} {base : Nat} {v v' : Value} {xs ys : List Value} {fs gs : List (List Int)} (h : GrL w base v xs fs) (hy : HeadsI w ys gs) (hp : ∀ b, AtL ys b → b < w.heap.size ∧ v.ownBlock ≠ some b)
    (ho : OwnL w' base v' (xs ++ ys)) (hg : w.grownBy w' v.ownBlock) (hv : v'.ownBlock = v.ownBlock ∨ v'.ownBlock = some w.heap.size) : GrL w' base v' (xs ++ ys) (fs ++ gs) := by
  have hpt : ∀ b, AtL (xs ++ ys) b → b < w.heap.size ∧ v.ownBlock ≠ some b := fun b hb => by
    rcases hb.app with e | e
    · exact h.pt b e
    · exact hp b e
  refine ⟨ho, (h.hd.app hy).keep fun b hb => ?_, fun b hb => ?_⟩
  · obtain ⟨a1, a2⟩ := hpt b hb
    exact hg.block b a1 (fun e => a2 e.symm)
  · obtain ⟨a1, a2⟩ := hpt b hb
    have := hg.size
    refine ⟨by omega, fun e => ?_⟩
    rcases hv with e1 | e1
    · rw [e1] at e; exact a2 e
    · rw [e1] at e; injection e with e; omega
theorem GrL.nil (w : World) (base : Nat) : GrL w base (.slice none 0 0) [] [] := ⟨⟨none, 0, rfl, World.ownsRow_nil _ _ _ _⟩, HeadsI.nil w, fun _ hb => absurd hb AtL.nil⟩
theorem GrL.form {w : World} {base : Nat} {v : Value} {xs : List Value} {fs : List (List Int)} (h : GrL w base v xs fs) : ∃ (A : Option Addr) (c : Nat), v = .slice A fs.length c ∧ fs.length ≤ c ∧ RdLL w A fs ∧ (∀ ad, A = some ad → base ≤ ad.block) := by
  have hl := h.hd.1
  obtain ⟨A, c, e, o⟩ := id h.own
  refine ⟨A, c, by rw [e, hl], ?_, ⟨xs, ?_, h.hd⟩, fun ad ha => ?_⟩
  · rcases o.2 with ⟨e1, e2⟩ | ⟨g, cap, cur, hv, _, _, h3, _⟩
    · omega
    · rw [e] at hv; injection hv with _ _ e3; omega
  · rw [e] at o; exact Rd.own o
  · have := (h.own.lt ad.block (by rw [e, ha]; rfl)).1
    exact this
/-- a new list of lists of numbers -/
def NewLL (fs : List (List Int)) (w : World) (e : Ending) (w' : World) : Prop :=
  ∃ (A : Option Addr) (c : Nat), e = .returned (.slice A fs.length c) ∧ fs.length ≤ c ∧ RdLL w' A fs ∧ Below w.heap.size w w'
end Go.Proofs.YtejkbjcmndnfeaaGreat

/- Lists of numbers, each in a block of its own. -/
namespace Go.Proofs.YtejkbjcmndnfeaaGreat
open Go.RowKit

def RowsI (w : World) (lo : Nat) (xs : List Value) (L : List (List Int)) : Prop :=
  xs.length = L.length ∧ ∀ k (h : k < L.length), ∃ gk nk, xs[k]? = some (.slice (some ⟨gk, 0, none⟩) nk nk) ∧ L[k].length = nk ∧ Wr w lo 3 (some ⟨gk, 0, none⟩) (L[k].map (.int .i64)) ∧ gk < w.heap.size ∧ ∀ j, j < k → ∀ gj n c, xs[j]? = some (.slice (some ⟨gj, 0, none⟩) n c) → gj < gk
theorem RowsI.nil (w : World) (lo : Nat) : RowsI w lo [] [] := ⟨rfl, fun k h => by simp at h⟩
theorem RowsI.keep {w w' : World} {lo : Nat} {xs : List Value} {L : List (List Int)} (h : RowsI w lo xs L) (hs : w.heap.size ≤ w'.heap.size) (hk : ∀ b, AtL xs b → w'.heap[b]? = w.heap[b]?) : RowsI w' lo xs L :=
  ⟨h.1, fun k hkl => by
    obtain ⟨gk, nk, a1, a2, a3, a4, a5⟩ := h.2 k hkl
    exact ⟨gk, nk, a1, a2, a3.keep (fun q hq _ => by injection hq with hq; injection hq with hq; subst hq; exact hk gk ⟨k, _, _, _, a1, rfl⟩), Nat.lt_of_lt_of_le a4 hs, a5⟩⟩
theorem RowsI.belo {w w' : World} {lo : Nat} {xs : List Value} {L : List (List Int)} (h : RowsI w lo xs L) (hb : Below w.heap.size w w') : RowsI w' lo xs L :=
  ⟨h.1, fun k hkl => by
    obtain ⟨gk, nk, a1, a2, a3, a4, a5⟩ := h.2 k hkl
    exact ⟨gk, nk, a1, a2, a3.belo hb, Nat.lt_of_lt_of_le a4 hb.size, a5⟩⟩
theorem RowsI.lower {w : World} {lo lo' : Nat} {xs : List Value} {L : List (List Int)} (h : RowsI w lo xs L) (hl : lo' ≤ lo) : RowsI w lo' xs L :=
  ⟨h.1, fun k hkl => by
    obtain ⟨gk, nk, a1, a2, a3, a4, a5⟩ := h.2 k hkl
    exact ⟨gk, nk, a1, a2, a3.lower hl, a4, a5⟩⟩
/-- a further row, in a newer block -/
theorem RowsI.snoc {w : World} {lo : Nat} {xs : List Value} {L : List (List Int)} (h : RowsI w lo xs L) {g n : Nat} {r : List Int} (hr : r.length = n) (hw : Wr w lo 3 (some ⟨g, 0, none⟩) (r.map (.int .i64))) (hg : g < w.heap.size) (hn : ∀ b, AtL xs b → b < g) : RowsI w lo (xs ++ [.slice (some ⟨g, 0, none⟩) n n]) (L ++ [r]) := by
  have hl := h.1
  refine ⟨by simp [hl], fun k hkl => ?_⟩
  rw [List.length_append, List.length_singleton] at hkl
  rcases Nat.lt_or_ge k L.length with h1 | h1
  · obtain ⟨gk, nk, a1, a2, a3, a4, a5⟩ := h.2 k h1
    refine ⟨gk, nk, by rw [List.getElem?_append_left (by omega)]; exact a1, by rw [List.getElem_append_left h1]; exact a2, by rw [List.getElem_append_left h1]; exact a3, a4, fun j hj gj n' c' e => ?_⟩
    rw [List.getElem?_append_left (by omega)] at e
    exact a5 j hj gj n' c' e
  · obtain rfl : k = L.length := by omega
    refine ⟨g, n, by rw [List.getElem?_append_right (by omega), hl, Nat.sub_self]; rfl, by rw [List.getElem_append_right (by omega)]; simpa using hr, by rw [List.getElem_append_right (by omega)]; simpa using hw, hg, fun j hj gj n' c' e => ?_⟩
    rw [List.getElem?_append_left (by omega)] at e
    exact hn gj ⟨j, _, _, _, e, rfl⟩
/-- a new list of lists, each in a block of its own -/
def NewRI (fs : List (List Int)) (w : World) (e : Ending) (w' : World) : Prop :=
  ∃ (A : Option Addr) (c : Nat) (xs : List Value), e = .returned (.slice A fs.length c) ∧ fs.length ≤ c ∧ Rd w' A xs ∧ HeadsI w' xs fs ∧ RowsI w' w.heap.size xs fs ∧ (∀ ad, A = some ad → w.heap.size ≤ ad.block ∧ ad.block < w'.heap.size ∧ ¬ AtL xs ad.block) ∧ Below w.heap.size w w'
theorem NewRI.rd {fs : List (List Int)} {w w' : World} {e : Ending} (h : NewRI fs w e w') : NewLL fs w e w' := by
  obtain ⟨A, c, xs, h1, h2, h3, h4, -, -, h7⟩ := h
  exact ⟨A, c, h1, h2, ⟨xs, h3, h4⟩, h7⟩
end Go.Proofs.YtejkbjcmndnfeaaGreat

/- Contracts: whether a place belongs to a region; copies of lists of numbers. -/
namespace Go.Proofs.YtejkbjcmndnfeaaGreat
open Go.RowKit

def atQ (W T : Int) (bs : List Bool) (x y : Int) : Bool := decide (0 ≤ x ∧ x ≤ W - 1 ∧ 0 ≤ y ∧ y ≤ T - 1) && bs.getD (y * W + x).toNat false
theorem atQ_f {W T : Int} {bs : List Bool} {x y : Int} (h : ¬ (0 ≤ x ∧ x ≤ W - 1 ∧ 0 ≤ y ∧ y ≤ T - 1)) : atQ W T bs x y = false := by unfold atQ; rw [decide_eq_false h]; rfl
theorem atQ_t {W T : Int} {bs : List Bool} {x y : Int} {k : Nat} (h : 0 ≤ x ∧ x ≤ W - 1 ∧ 0 ≤ y ∧ y ≤ T - 1) (hk : y * W + x = k) (hkn : k < bs.length) : atQ W T bs x y = bs[k] := by
  unfold atQ; rw [decide_eq_true h, hk, Int.toNat_natCast, List.getD_eq_getElem?_getD, List.getElem?_eq_getElem hkn]; rfl
theorem at_idx {W T x y : Int} {n : Nat} (hw : 1 ≤ W) (hn : (n : Int) = W * T) (h : 0 ≤ x ∧ x ≤ W - 1 ∧ 0 ≤ y ∧ y ≤ T - 1) : ∃ k : Nat, y * W + x = k ∧ k < n := by
  obtain ⟨hx, hx', hy, hy'⟩ := h
  have h0 : 0 ≤ y * W := Int.mul_nonneg hy (by omega)
  obtain ⟨k, hk⟩ := Int.eq_ofNat_of_zero_le (show 0 ≤ y * W + x by omega)
  refine ⟨k, hk, ?_⟩
  have h1 : (y + 1) * W ≤ T * W := Int.mul_le_mul_of_nonneg_right (by omega) (by omega)
  rw [Int.add_mul, Int.one_mul] at h1
  rw [Int.mul_comm] at hn
  omega
set_option maxRecDepth 100000 in
set_option maxHeartbeats 1000000 in
theorem iAt_any (W T : Int) (A : Option Addr) (c : Nat) (bs : List Bool) (x y : Int) (w : World) (hr : Rd w A (bs.map .bool)) (h1 : 1 ≤ W) (h2 : W ≤ 6) (h3 : 1 ≤ T) (h4 : T ≤ 6) (hn : (bs.length : Int) = W * T) (hx : -1000 ≤ x ∧ x ≤ 1000) (hy : -1000 ≤ y ∧ y ≤ 1000) :
    Calls Tryz.prog 78 #[.agg #[.int .i64 W, .int .i64 T, .slice A bs.length c], .int .i64 x, .int .i64 y] w fun e w' => e = .returned (.bool (atQ W T bs x y)) ∧ Below w.heap.size w w' := by
  have X0 := C3.new w (.int .i64 W) (.int .i64 T) (.slice A bs.length c) 25
  have B0 := bl_alloc (Below.refl w.heap.size w) (.cells #[.int .i64 W, .int .i64 T, .slice A bs.length c] 25)
  obtain ⟨x0, x1, x2⟩ := id X0
  obtain ⟨hx1, hx2⟩ := hx
  obtain ⟨hy1, hy2⟩ := hy
  have HN := Lib.hid hn
  have h36 : bs.length ≤ 36 := by have := mul_bd h1 h2 h3 h4; omega
  clear hn
  by_cases hxin : 0 ≤ x ∧ x ≤ W - 1
  · by_cases hyin : 0 ≤ y ∧ y ≤ T - 1
    · obtain ⟨k, hk, hkn⟩ := at_idx h1 HN.out ⟨hxin.1, hxin.2, hyin.1, hyin.2⟩
      have HV := Lib.hid (atQ_t ⟨hxin.1, hxin.2, hyin.1, hyin.2⟩ hk hkn)
      obtain ⟨b, off, rfl, cb⟩ := (hr.alloc (.cells #[.int .i64 W, .int .i64 T, .slice A bs.length c] 25)).atEM hkn
      obtain ⟨v, hv⟩ : ∃ v, bs[k] = v := ⟨_, rfl⟩
      rw [hv] at cb HV
      clear hv
      have m0 : 0 ≤ y * W := Int.mul_nonneg hyin.1 (by omega)
      have wm : IntKind.i64.wrap (y * W) = y * W := IntWalk.i64_in _ (by omega)
      have wa : IntKind.i64.wrap (y * W + x) = (k : Int) := by rw [hk]; exact IntWalk.i64_in _ (by omega)
      have kI : (k : Int) < (bs.length : Int) := by omega
      obtain ⟨p1, p2⟩ := hxin
      obtain ⟨p3, p4⟩ := hyin
      clear hk
      go_enter Tryz.func78, Tryz.ntmps78
      go_wp2_with (go_at_call 67; first | ((with_reducible refine (in_t x _ _ _ p1 p2).mono ?_); rintro e w' ⟨rfl, rfl⟩) | ((with_reducible refine (in_t y _ _ _ p3 p4).mono ?_); rintro e w' ⟨rfl, rfl⟩))
      go_ret
      exact ⟨ret_b HV.out.symm, B0⟩
    · have HV := Lib.hid (atQ_f (W := W) (T := T) (bs := bs) (x := x) (y := y) (fun h => hyin ⟨h.2.2.1, h.2.2.2⟩))
      have hyo : y < 0 ∨ T - 1 < y := by omega
      obtain ⟨p1, p2⟩ := hxin
      go_enter Tryz.func78, Tryz.ntmps78
      go_wp2_with (go_at_call 67; first | ((with_reducible refine (in_t x _ _ _ p1 p2).mono ?_); rintro e w' ⟨rfl, rfl⟩) | ((with_reducible refine (in_f y _ _ _ hyo).mono ?_); rintro e w' ⟨rfl, rfl⟩))
      go_ret
      exact ⟨ret_b HV.out.symm, B0⟩
  · have HV := Lib.hid (atQ_f (W := W) (T := T) (bs := bs) (x := x) (y := y) (fun h => hxin ⟨h.1, h.2.1⟩))
    have hxo : x < 0 ∨ W - 1 < x := by omega
    go_enter Tryz.func78, Tryz.ntmps78
    go_wp2_with (go_at_call 67; refine (in_f x _ _ _ hxo).mono ?_; rintro e w' ⟨rfl, rfl⟩)
    go_ret
    exact ⟨ret_b HV.out.symm, B0⟩
set_option maxRecDepth 100000 in
set_option maxHeartbeats 1000000 in
theorem cloneI0_any (ad : Addr) (n c : Nat) (ns : List Int) (w : World) (hr : Rd w (some ad) (ns.map (.int .i64))) (hl : ns.length = n) (h0 : 0 < n) (hn : n ≤ 1000000) :
    Calls Tryz.prog 154 #[.slice (some ad) n c] w fun e w' => ∃ (A' : Option Addr) (c' : Nat), e = .returned (.slice A' n c') ∧ OwnI w' w.heap.size (.slice A' n c') ns ∧ n ≤ c' ∧ Below w.heap.size w w' := by
  obtain ⟨i0, hi, hz0, hz1, hz2⟩ := info_parts Tryz.infoI
  have HZ := Lib.hid (And.intro hz0 (And.intro hz1 hz2))
  have HL := Lib.hid hl
  have hnil : ∀ w, (binOp .eql 27 (.slice (some ad) n c) (.slice none 0 0)).run Tryz.prog w = .ok (.bool false) w := fun w => Lib.run_eql_slice_nil w 27 3 _ _ _ _ _ Tryz.underlying27
  have hown0 : (w.alloc (.cells #[] 3)).ownsRow w.heap.size 3 1 (.slice (some ⟨w.heap.size, 0, none⟩) 0 0) 0 [] := World.ownsRow_lit w #[] 0 (Nat.le_refl _) (by simp) (by simp)
  obtain ⟨ad', e', hcell⟩ := (hr.alloc (.cells #[] 3)) (by intro e; have := congrArg List.length e; simp at this; rw [this] at hl; simp at hl; omega)
  have HC := Lib.hid (show ∀ j y, (ns.map (Value.int .i64))[j]? = some y → (w.alloc (.cells #[] 3)).cell? (ad.add j) = some y from fun j y hy => by injection e' with e'; rw [e']; exact hcell j y hy)
  clear hcell e' hr hz0 hz1 hz2 hl
  go_enter Tryz.func154, Tryz.ntmps154
  go_wp2_with (at_builtin; refine wpList_append_own _ rfl _ _ 27 rfl w.heap.size 3 i0 (.int .i64 0) 1 8 Tryz.underlying27 hi HZ.out.1 HZ.out.2.1 HZ.out.2.2 rfl (by decide) _ _ _ rfl hown0 ad n c (ns.map (.int .i64)) rfl (by simp; exact HL.out) HC.out (by intro y hy; obtain ⟨b, _, rfl⟩ := List.mem_map.1 hy; rfl) (by unfold maxLen; omega) (by omega) (by simp) ?_; intro v3 w3 hown3 hg3 _)
  simp only [Nat.zero_add, List.nil_append] at hown3
  obtain ⟨g, cap, rfl, hg, hlt⟩ := hown3.form h0
  go_ret
  refine ⟨_, _, rfl, ⟨_, _, by rw [HL.out], by rw [HL.out]; exact hown3⟩, ?_, ?_⟩
  · rcases hown3.2 with ⟨e, e2⟩ | ⟨g, cap, cur, e, _, _, h3, _⟩
    · omega
    · injection e with _ _ e3; omega
  · exact ((Below.refl w.heap.size w).alloc (Nat.le_refl _) _).grown hg3 (by simp) (fun k hk => by have h2 : some w.heap.size = some k := hk; injection h2 with h2; omega)
set_option maxHeartbeats 1000000 in
theorem clipI_any (A : Option Addr) (n c : Nat) (w : World) (h : n ≤ c) :
    Calls Tryz.prog 153 #[.slice A n c] w fun e w' => e = .returned (.slice A n n) ∧ w = w' := by
  go_enter Tryz.func153, Tryz.ntmps153
  go_wp2
  go_ret
  exact ⟨rfl, rfl⟩
/-- a copy of a list of numbers, that may be written -/
def NewWI (ns : List Int) (n : Nat) (w : World) (e : Ending) (w' : World) : Prop := ∃ g : Nat, e = .returned (.slice (some ⟨g, 0, none⟩) n n) ∧ Wr w' w.heap.size 3 (some ⟨g, 0, none⟩) (ns.map (.int .i64)) ∧ w.heap.size ≤ g ∧ g < w'.heap.size ∧ Below w.heap.size w w'
set_option maxHeartbeats 1000000 in
theorem cloneI_any (ad : Addr) (n c : Nat) (ns : List Int) (w : World) (hr : Rd w (some ad) (ns.map (.int .i64))) (hl : ns.length = n) (h0 : 0 < n) (hn : n ≤ 1000000) :
    Calls Tryz.prog 77 #[.slice (some ad) n c] w (NewWI ns n w) := by
  have HC := Lib.hid (cloneI0_any ad n c ns w hr hl h0 hn)
  have HL := Lib.hid hl
  clear hl
  go_enter Tryz.func77, Tryz.ntmps77
  go_wp2_with fail
  refine HC.out.mono ?_
  rintro e w1 ⟨A', c', rfl, hown, hc, hb⟩
  go_wp2_with (go_at_call 153; refine (clipI_any _ _ _ _ hc).mono ?_; rintro e w' ⟨rfl, rfl⟩)
  go_ret
  obtain ⟨A2, c2, e2, hw⟩ := hown
  injection e2 with e3 e4 e5
  subst e3
  rw [← e4] at hw
  have hw' := Wr.of_own hw
  obtain ⟨g, rfl, h5, h6, -⟩ := hw'.form (by intro e; have := congrArg List.length e; simp at this; rw [this] at e4; simp at e4; omega)
  exact ⟨g, rfl, hw', h5, h6, hb⟩
end Go.Proofs.YtejkbjcmndnfeaaGreat

/- The search for fills, step by step, plainly; what the closure that searches finds in memory. -/
namespace Go.Proofs.YtejkbjcmndnfeaaGreat
open Go.RowKit

/-! ### Plainly -/
/-- what one form brings -/
noncomputable def brF (W T : Int) (bs : List Bool) (pss : List (List Ce)) (chk : Bool) (m : Nat) (fill : List Int) (used : List Bool) (n : Nat) (form : List Ce) : List (List Int) :=
  match m with
  | 0 => []
  | m + 1 => if fitF W T bs fill (atF bs fill) form then fillsN W T bs pss chk m (setF fill (plcL W (atF bs fill) form) n) (used.set n true) else []
/-- what one piece brings -/
noncomputable def pcF (W T : Int) (bs : List Bool) (pss : List (List Ce)) (chk : Bool) (m : Nat) (fill : List Int) (used : List Bool) (n : Nat) : List (List Int) :=
  if used.getD n true then [] else (formsV (pss.getD n [])).flatMap (brF W T bs pss chk m fill used n)
theorem fills_leaf {W T : Int} {bs : List Bool} {pss : List (List Ce)} {m : Nat} {fill : List Int} {used : List Bool} (hc : atF bs fill = bs.length) : fillsN W T bs pss false m fill used = [fill] := by
  cases m <;> (unfold fillsN; rw [if_pos hc]; rfl)
theorem fills_leafT {W T : Int} {bs : List Bool} {pss : List (List Ce)} {m : Nat} {fill : List Int} {used : List Bool} (hc : atF bs fill = bs.length) : fillsN W T bs pss true m fill used = if used.all id then [fill] else [] := by
  cases m <;> (unfold fillsN; rw [if_pos hc]; cases used.all id <;> rfl)
theorem fills_branch {W T : Int} {bs : List Bool} {pss : List (List Ce)} {chk : Bool} {m : Nat} {fill : List Int} {used : List Bool} (hc : atF bs fill < bs.length) (hu : unN used ≤ m) : fillsN W T bs pss chk m fill used = (List.range pss.length).flatMap (pcF W T bs pss chk m fill used) := by
  cases m with
  | zero =>
    have h0 : ∀ n, used.getD n true = true := all_used.1 (all_used.2 fun n => by
      cases e : used.getD n true with
      | true => rfl
      | false => have := unN_pos e; omega)
    unfold fillsN
    rw [if_neg (by omega), eq_comm, List.flatMap_eq_nil_iff]
    intro n _
    unfold pcF
    rw [h0 n]; rfl
  | succ m =>
    unfold fillsN
    rw [if_neg (by omega)]
    rfl
theorem flat_take {α β : Type} (l : List α) (f : α → List β) {k : Nat} (hk : k < l.length) : (l.take (k + 1)).flatMap f = (l.take k).flatMap f ++ f l[k] := by
  rw [take_one_more l k hk, List.flatMap_append]; simp
theorem flat_take_le {α β : Type} (l : List α) (f : α → List β) (k : Nat) : ((l.take k).flatMap f).length ≤ (l.flatMap f).length := by
  conv => rhs; rw [← List.take_append_drop k l]
  rw [List.flatMap_append, List.length_append]; omega
theorem flat_range {β : Type} (f : Nat → List β) (k : Nat) : (List.range (k + 1)).flatMap f = (List.range k).flatMap f ++ f k := by
  rw [List.range_succ, List.flatMap_append]; simp
theorem flat_range_le {β : Type} (f : Nat → List β) {k n : Nat} (h : k ≤ n) : ((List.range k).flatMap f).length ≤ ((List.range n).flatMap f).length := by
  induction n with
  | zero => obtain rfl : k = 0 := by omega
            exact Nat.le_refl _
  | succ n ih =>
    rcases Nat.lt_or_ge k (n + 1) with h1 | h1
    · rw [flat_range, List.length_append]
      have := ih (by omega)
      omega
    · obtain rfl : k = n + 1 := by omega
      exact Nat.le_refl _
/-- how many there are behind one more form -/
theorem pre_le {W T : Int} {bs : List Bool} {pss : List (List Ce)} {chk : Bool} {m : Nat} {fill : List Int} {used : List Bool} {k j : Nat} (hk : k < pss.length) (hu : used.getD k true = false) (hj : j < (formsV (pss.getD k [])).length) :
    ((List.range k).flatMap (pcF W T bs pss chk m fill used)).length + (((formsV (pss.getD k [])).take j).flatMap (brF W T bs pss chk m fill used k)).length + (brF W T bs pss chk m fill used k (formsV (pss.getD k []))[j]).length ≤ ((List.range pss.length).flatMap (pcF W T bs pss chk m fill used)).length := by
  have h1 := flat_range_le (pcF W T bs pss chk m fill used) (show k + 1 ≤ pss.length by omega)
  rw [flat_range, List.length_append] at h1
  have h2 : pcF W T bs pss chk m fill used k = (formsV (pss.getD k [])).flatMap (brF W T bs pss chk m fill used k) := by unfold pcF; rw [hu]; rfl
  have h3 := flat_take_le (formsV (pss.getD k [])) (brF W T bs pss chk m fill used k) (j + 1)
  rw [flat_take _ _ hj, List.length_append] at h3
  rw [h2] at h1
  omega
theorem setF_take (fill : List Int) (L : List Nat) (v : Int) {q : Nat} (hq : q < L.length) : setF fill (L.take (q + 1)) v = (setF fill (L.take q) v).set L[q] v := by
  unfold setF; rw [take_one_more L q hq, List.foldl_append]; rfl
theorem set_back {bs : List Bool} {fill : List Int} {L : List Nat} {v : Int} (hl : fill.length = bs.length) (h : ∀ k ∈ L, fill.getD k 0 = -1) (hk : ∀ k ∈ L, k < bs.length) : setF (setF fill L v) L (-1) = fill := by
  refine List.ext_getElem (by rw [setF_len, setF_len]) fun k h1 h2 => ?_
  have e : (setF (setF fill L v) L (-1)).getD k 0 = fill.getD k 0 := by
    by_cases hL : k ∈ L
    · rw [setF_mem (by rw [setF_len, hl]; exact hk k hL) hL, h k hL]
    · rw [setF_not hL, setF_not hL]
  rw [List.getD_eq_getElem?_getD, List.getD_eq_getElem?_getD, List.getElem?_eq_getElem h1, List.getElem?_eq_getElem h2] at e
  exact e
theorem set_backB {used : List Bool} {n : Nat} (h : used.getD n true = false) : (used.set n true).set n false = used := by
  rw [List.set_set]
  refine List.ext_getElem (by rw [List.length_set]) fun k h1 h2 => ?_
  rw [List.getElem_set]
  split
  · rename_i e
    subst e
    rw [List.getD_eq_getElem?_getD, List.getElem?_eq_getElem h2] at h
    exact h.symm
  · rfl
theorem fit_no {W T : Int} {bs : List Bool} {fill : List Int} {c : Nat} {form : List Ce} {q : Ce} (hq : q ∈ form) (h : fitQ W T bs fill (fxC W c form q) (fyC W c form q) = false) : fitF W T bs fill c form = false := by
  unfold fitF
  rw [List.all_eq_false]
  exact ⟨q, hq, by rw [h]; simp⟩
theorem fit_all {W T : Int} {bs : List Bool} {fill : List Int} {c : Nat} {form : List Ce} (h : ∀ q (hq : q < form.length), fitQ W T bs fill (fxC W c form form[q]) (fyC W c form form[q]) = true) : fitF W T bs fill c form = true := by
  unfold fitF
  rw [List.all_eq_true]
  intro x hx
  obtain ⟨q, hq, rfl⟩ := List.getElem_of_mem hx
  exact h q hq
theorem plc_len (W : Int) (c : Nat) (form : List Ce) : (plcL W c form).length = form.length := by unfold plcL; rw [List.length_map]
theorem plc_get {W : Int} {c : Nat} {form : List Ce} {q : Nat} (hq : q < form.length) (h : q < (plcL W c form).length) : (plcL W c form)[q] = (fyC W c form form[q] * W + fxC W c form form[q]).toNat := by
  simp only [plcL, List.getElem_map]
theorem fitQ_eq {W T : Int} {bs : List Bool} {fill : List Int} {x y : Int} : fitQ W T bs fill x y = (atQ W T bs x y && decide (fill.getD (y * W + x).toNat 0 < 0)) := by
  unfold fitQ atQ freK
  rw [Bool.and_assoc]

/-! ### In memory -/
def LpF (R : Nat → Prop) (i : Value) : Prop := ∃ k : Nat, i = .int .i64 k ∧ R k
theorem heap_ltF {w : World} {b : Nat} {o : Obj} (h : w.heap[b]? = some o) : b < w.heap.size := by
  rcases Nat.lt_or_ge b w.heap.size with h1 | h1
  · exact h1
  · rw [Array.getElem?_eq_none h1] at h; cases h
theorem cellB {w w' : World} {b o : Nat} {v : Value} (hb : Below w.heap.size w w') (h : w.cell? ⟨b, o, none⟩ = some v) : w'.cell? ⟨b, o, none⟩ = some v := (hb.cell (p := ⟨b, o, none⟩) (World.block_lt_of_cell? w _ h)).trans h
theorem cellH {w w' : World} {b o : Nat} {v : Value} (hb : w'.heap[b]? = w.heap[b]?) (h : w.cell? ⟨b, o, none⟩ = some v) : w'.cell? ⟨b, o, none⟩ = some v := by rw [World.cell?_of_block hb]; exact h
theorem cellS {w : World} {b o g m : Nat} {u v : Value} (hg : b ≠ g) (h : w.cell? ⟨b, o, none⟩ = some v) : (w.setCell ⟨g, m, none⟩ u).cell? ⟨b, o, none⟩ = some v :=
  cellH (Below.heap_setCell _ _ _ _ hg) h
/-- what stays as it is: the region, the pieces, their forms -/
structure FlC (W T : Int) (n c0 : Nat) (bs : List Bool) (A : Option Addr) (pss : List (List Ce)) (A' : Option Addr) (c' : Nat) (AA : Option Addr) (cA bR bP bA : Nat) (w : World) : Prop where
  box : C3 w bR (.int .i64 W) (.int .i64 T) (.slice A n c0)
  rd : Rd w A (bs.map .bool)
  pc : w.cell? ⟨bP, 0, none⟩ = some (.slice A' pss.length c')
  al : w.cell? ⟨bA, 0, none⟩ = some (.slice AA pss.length cA)
  fm : ∀ k, k < pss.length → ∃ (b off : Nat) (Bk : Option Addr) (ck : Nat), AA = some ⟨b, off, none⟩ ∧ w.cell? ⟨b, off + k, none⟩ = some (.slice Bk (formsV (pss.getD k [])).length ck) ∧ RdSS w Bk (formsV (pss.getD k []))
theorem FlC.belo {W T : Int} {n c0 : Nat} {bs : List Bool} {A : Option Addr} {pss : List (List Ce)} {A' : Option Addr} {c' : Nat} {AA : Option Addr} {cA bR bP bA : Nat} {w w' : World} (h : FlC W T n c0 bs A pss A' c' AA cA bR bP bA w) (hb : Below w.heap.size w w') : FlC W T n c0 bs A pss A' c' AA cA bR bP bA w' :=
  ⟨h.box.belo hb, h.rd.belo hb, cellB hb h.pc, cellB hb h.al, fun k hk => by
    obtain ⟨b, off, Bk, ck, e, h1, h2⟩ := h.fm k hk
    exact ⟨b, off, Bk, ck, e, cellB hb h1, h2.belo hb⟩⟩
/-- where the search keeps its lists -/
def FlD (S B F U bF bO bU bK : Nat) : Prop := (S ≤ F ∧ F < B) ∧ (S ≤ U ∧ U < B) ∧ (S ≤ bO ∧ bO < B) ∧ (bF < B ∧ bU < B ∧ bK < B) ∧ (F ≠ U ∧ F ≠ bO ∧ U ≠ bO) ∧ (bF ≠ F ∧ bF ≠ U ∧ bF ≠ bO) ∧ (bU ≠ F ∧ bU ≠ U ∧ bU ≠ bO) ∧ (bK ≠ F ∧ bK ≠ U ∧ bK ≠ bO)
structure FlSt (w0 : World) (B F U bF bO bU bK n P cF cU : Nat) (Kv : Value) (fill : List Int) (used : List Bool) (v : Value) (xs : List Value) (L : List (List Int)) (w : World) : Prop where
  ok : Below w0.heap.size w0 w
  fl : w.cell? ⟨bF, 0, none⟩ = some (.slice (some ⟨F, 0, none⟩) n cF)
  us : w.cell? ⟨bU, 0, none⟩ = some (.slice (some ⟨U, 0, none⟩) P cU)
  wk : w.cell? ⟨bK, 0, none⟩ = some Kv
  fil : Wr w w0.heap.size 3 (some ⟨F, 0, none⟩) (fill.map (.int .i64))
  use : Wr w w0.heap.size 4 (some ⟨U, 0, none⟩) (used.map .bool)
  out : w.heap[bO]? = some (.cells #[v] 33 (0, 0))
  gr : GrL w B v xs L
  at1 : ∀ b, AtL xs b → B ≤ b
  row : RowsI w B xs L
  big : B ≤ w.heap.size
  d : FlD w0.heap.size B F U bF bO bU bK
section
variable {w0 : World} {B F U bF bO bU bK n P cF cU : Nat} {Kv : Value} {fill : List Int} {used : List Bool} {v : Value} {xs : List Value} {L : List (List Int)} {w w' : World}
theorem FlSt.belo (h : FlSt w0 B F U bF bO bU bK n P cF cU Kv fill used v xs L w) (hb : Below w.heap.size w w') : FlSt w0 B F U bF bO bU bK n P cF cU Kv fill used v xs L w' :=
  ⟨bl_go h.ok hb, cellB hb h.fl, cellB hb h.us, cellB hb h.wk, h.fil.belo hb, h.use.belo hb, (hb.block _ (heap_ltF h.out)).trans h.out, h.gr.belo hb, h.at1, h.row.belo hb, Nat.le_trans h.big hb.size, h.d⟩
theorem FlSt.setF_ (h : FlSt w0 B F U bF bO bU bK n P cF cU Kv fill used v xs L w) (j : Nat) (u : Int) : FlSt w0 B F U bF bO bU bK n P cF cU Kv (fill.set j u) used v xs L (w.setCell ⟨F, j, none⟩ (.int .i64 u)) := by
  obtain ⟨⟨d1, d2⟩, ⟨d3, d4⟩, ⟨d5, d6⟩, -, ⟨d7, d8, d9⟩, ⟨e1, e2, e3⟩, ⟨e4, e5, e6⟩, ⟨e7, e8, e9⟩⟩ := h.d
  refine ⟨h.ok.setCell (by exact d1) _, cellS e1 h.fl, cellS e4 h.us, cellS e7 h.wk, by rw [List.map_set]; exact h.fil.store j _, h.use.keep fun q hq _ => ?_, (Below.heap_setCell _ _ _ _ (by show bO ≠ F; omega)).trans h.out, ?_, h.at1, h.row.keep (by simp) (fun b e => Below.heap_setCell _ _ _ _ (by have := h.at1 b e; show b ≠ F; omega)), by simpa using h.big, h.d⟩
  · injection hq with hq; injection hq with hq
    exact Below.heap_setCell _ _ _ _ (by show q ≠ F; omega)
  · exact h.gr.keep (by simp) (fun b e => Below.heap_setCell _ _ _ _ (by have := (h.gr.own.lt b e).1; show b ≠ F; omega)) (fun b e => Below.heap_setCell _ _ _ _ (by have := h.at1 b e; show b ≠ F; omega))
theorem FlSt.setU_ (h : FlSt w0 B F U bF bO bU bK n P cF cU Kv fill used v xs L w) (j : Nat) (u : Bool) : FlSt w0 B F U bF bO bU bK n P cF cU Kv fill (used.set j u) v xs L (w.setCell ⟨U, j, none⟩ (.bool u)) := by
  obtain ⟨⟨d1, d2⟩, ⟨d3, d4⟩, ⟨d5, d6⟩, -, ⟨d7, d8, d9⟩, ⟨e1, e2, e3⟩, ⟨e4, e5, e6⟩, ⟨e7, e8, e9⟩⟩ := h.d
  refine ⟨h.ok.setCell (by exact d3) _, cellS e2 h.fl, cellS e5 h.us, cellS e8 h.wk, h.fil.keep fun q hq _ => ?_, by rw [List.map_set]; exact h.use.store j _, (Below.heap_setCell _ _ _ _ (by show bO ≠ U; omega)).trans h.out, ?_, h.at1, h.row.keep (by simp) (fun b e => Below.heap_setCell _ _ _ _ (by have := h.at1 b e; show b ≠ U; omega)), by simpa using h.big, h.d⟩
  · injection hq with hq; injection hq with hq
    exact Below.heap_setCell _ _ _ _ (by show q ≠ U; omega)
  · exact h.gr.keep (by simp) (fun b e => Below.heap_setCell _ _ _ _ (by have := (h.gr.own.lt b e).1; show b ≠ U; omega)) (fun b e => Below.heap_setCell _ _ _ _ (by have := h.at1 b e; show b ≠ U; omega))
/-- behind an append to the list that is told -/
theorem FlSt.push (h : FlSt w0 B F U bF bO bU bK n P cF cU Kv fill used v xs L w) {v' : Value} {xs' : List Value} {L' : List (List Int)} (hg : w.grownBy w' v.ownBlock) (g2 : GrL w' B v' xs' L') (hat : ∀ b, AtL xs' b → B ≤ b) (r2 : RowsI w' B xs' L') :
    FlSt w0 B F U bF bO bU bK n P cF cU Kv fill used v' xs' L' (w'.setCell ⟨bO, 0, none⟩ v') := by
  obtain ⟨⟨d1, d2⟩, ⟨d3, d4⟩, ⟨d5, d6⟩, ⟨f1, f2, f3⟩, ⟨d7, d8, d9⟩, ⟨e1, e2, e3⟩, ⟨e4, e5, e6⟩, ⟨e7, e8, e9⟩⟩ := h.d
  have hbig := h.big
  have hsz := hg.size
  have hS : w0.heap.size ≤ B := by omega
  have key : ∀ b, b < B → w'.heap[b]? = w.heap[b]? := fun b hb => hg.block b (by omega) (fun e => by have := (h.gr.own.lt b e.symm).1; omega)
  have key2 : ∀ b, b < B → b ≠ bO → (w'.setCell ⟨bO, 0, none⟩ v').heap[b]? = w.heap[b]? := fun b hb hne => (Below.heap_setCell _ _ _ _ (by exact hne)).trans (key b hb)
  refine ⟨(h.ok.grown hg (by omega) (fun k hk => by have := (h.gr.own.lt k hk).1; omega)).setCell (by exact d5) _, cellH (key2 _ f1 e3) h.fl, cellH (key2 _ f2 e6) h.us, cellH (key2 _ f3 e9) h.wk,
    h.fil.keep fun q hq _ => ?_, h.use.keep fun q hq _ => ?_, ?_, ?_, hat, r2.keep (by simp) (fun b e => Below.heap_setCell _ _ _ _ (by have := hat b e; show b ≠ bO; omega)), by simp; omega, h.d⟩
  · injection hq with hq; injection hq with hq
    exact key2 q (by omega) (by omega)
  · injection hq with hq; injection hq with hq
    exact key2 q (by omega) (by omega)
  · have := heap_setCell_same w' bO 0 #[v] 33 v' ((key bO d6).trans h.out)
    simpa using this
  · exact g2.keep (by simp) (fun b e => Below.heap_setCell _ _ _ _ (by have := (g2.own.lt b e).1; show b ≠ bO; omega)) (fun b e => Below.heap_setCell _ _ _ _ (by have := hat b e; show b ≠ bO; omega))
/-- what the search leaves as it was -/
structure FrmF (F U bO : Nat) (v : Value) (w : World) (v' : Value) (w' : World) : Prop where
  size : w.heap.size ≤ w'.heap.size
  block : ∀ i, i < w.heap.size → i ≠ F → i ≠ U → i ≠ bO → v.ownBlock ≠ some i → w'.heap[i]? = w.heap[i]?
  own : v'.ownBlock = v.ownBlock ∨ ∃ b, v'.ownBlock = some b ∧ w.heap.size ≤ b
theorem FrmF.refl (F U bO : Nat) (v : Value) (w : World) : FrmF F U bO v w v w := ⟨Nat.le_refl _, fun _ _ _ _ _ _ => rfl, .inl rfl⟩
theorem FrmF.trans {F U bO : Nat} {v v1 v2 : Value} {w w1 w2 : World} (h : FrmF F U bO v w v1 w1) (k : FrmF F U bO v1 w1 v2 w2) : FrmF F U bO v w v2 w2 := by
  have hs := h.size
  refine ⟨Nat.le_trans h.size k.size, fun i hi a b c d => (k.block i (by omega) a b c fun e => ?_).trans (h.block i hi a b c d), ?_⟩
  · rcases h.own with e1 | ⟨b1, e1, e2⟩
    · exact d (e1 ▸ e)
    · rw [e1] at e; injection e with e; omega
  · rcases k.own with e1 | ⟨b1, e1, e2⟩
    · rw [e1]; exact h.own
    · exact .inr ⟨b1, e1, by omega⟩
theorem FrmF.below {F U bO : Nat} {v v1 : Value} {w w1 w2 : World} (h : FrmF F U bO v w v1 w1) (hb : Below w1.heap.size w1 w2) : FrmF F U bO v w v1 w2 :=
  h.trans ⟨hb.size, fun i hi _ _ _ _ => hb.block i hi, .inl rfl⟩
theorem FrmF.set {F U bO : Nat} {v v1 : Value} {w w1 : World} (h : FrmF F U bO v w v1 w1) {g : Nat} (j : Nat) (u : Value) (hg : g = F ∨ g = U ∨ g = bO) : FrmF F U bO v w v1 (w1.setCell ⟨g, j, none⟩ u) :=
  h.trans ⟨by simp, fun i _ a b c _ => Below.heap_setCell _ _ _ _ (by show i ≠ g; omega), .inl rfl⟩
theorem FrmF.push {F U bO : Nat} {v v1 v2 : Value} {w w1 w2 : World} (h : FrmF F U bO v w v1 w1) (hg : w1.grownBy w2 v1.ownBlock) (hv : v2.ownBlock = v1.ownBlock ∨ v2.ownBlock = some w1.heap.size) : FrmF F U bO v w v2 (w2.setCell ⟨bO, 0, none⟩ v2) :=
  h.trans ⟨by simp; exact hg.size, fun i hi _ _ c d => (Below.heap_setCell _ _ _ _ (by exact c)).trans (hg.block i hi (fun e => d e.symm)), by
    rcases hv with e | e
    · exact .inl e
    · exact .inr ⟨_, e, Nat.le_refl _⟩⟩
theorem one_atL (w : World) (x : Value) (t : TypeId) : ∀ j u, [x][j]? = some u → (w.alloc (.cells #[x] t)).cell? ((⟨w.heap.size, 0, none⟩ : Addr).add j) = some u := fun j u hu => by
  rw [offI, Nat.zero_add, cell_of_row _ _ _ _ _ _ (heap_alloc_new w _)]; simpa using hu
theorem one_oneL (B : Option Addr) (n c : Nat) : ∀ u ∈ [Value.slice B n c], u.oneCell' = true := fun u hu => by
  simp at hu; subst hu; rfl
/-- the cell of a box -/
theorem boxF {w : World} {b : Nat} {v : Value} {t : TypeId} (h : w.heap[b]? = some (.cells #[v] t (0, 0))) : w.cell? ⟨b, 0, none⟩ = some v ∧ w.frozen? ⟨b, 0, none⟩ = false :=
  ⟨by rw [cell_of_row _ _ _ _ _ _ h]; rfl, frozen_of_row _ _ _ _ _ h⟩
/-- a list of numbers told -/
theorem FlSt.tell (h : FlSt w0 B F U bF bO bU bK n P cF cU Kv fill used v xs L w) {g1 : Nat} {w1 w3 : World} {v3 : Value} {t : TypeId} (hfl : fill.length = n) (hn : n ≤ 36) (W1 : Wr w1 w.heap.size 3 (some ⟨g1, 0, none⟩) (fill.map (.int .i64))) (hg1 : w.heap.size ≤ g1) (hg2 : g1 < w1.heap.size) (b1 : Below w.heap.size w w1)
    (o3 : OwnL w3 B v3 (xs ++ [.slice (some ⟨g1, 0, none⟩) n n])) (g3 : (w1.alloc (.cells #[.slice (some ⟨g1, 0, none⟩) n n] t)).grownBy w3 v.ownBlock) (e3 : v3.ownBlock = v.ownBlock ∨ v3.ownBlock = some (w1.alloc (.cells #[.slice (some ⟨g1, 0, none⟩) n n] t)).heap.size) :
    FlSt w0 B F U bF bO bU bK n P cF cU Kv fill used v3 (xs ++ [.slice (some ⟨g1, 0, none⟩) n n]) (L ++ [fill]) (w3.setCell ⟨bO, 0, none⟩ v3) ∧ FrmF F U bO v w v3 (w3.setCell ⟨bO, 0, none⟩ v3) := by
  have b2 := bl_alloc b1 (.cells #[.slice (some ⟨g1, 0, none⟩) n n] t)
  have S2 := h.belo b2
  have hbig := h.big
  have hat : ∀ b, AtL [.slice (some ⟨g1, 0, none⟩) n n] b → b = g1 := fun b hb => by
    obtain ⟨ad, e1, e2⟩ := hb.one
    injection e1 with e1
    rw [← e1] at e2
    exact e2.symm
  refine ⟨S2.push g3 (S2.gr.app (HeadsI.one ⟨_, _, by rw [hfl], by omega, by omega, (W1.rd.alloc _)⟩) (fun b hb => ?_) o3 g3 e3) (fun b hb => ?_) ?_, FrmF.push ((FrmF.refl F U bO v w).below b2) g3 e3⟩
  · have := hat b hb
    subst this
    exact ⟨by simp; omega, fun e => by have := (h.gr.own.lt _ e).2; omega⟩
  · rcases hb.app with e | e
    · exact h.at1 b e
    · have := hat b e
      omega
  · have k1 : ∀ b, AtL xs b → b < w.heap.size ∧ v.ownBlock ≠ some b := fun b e => h.gr.pt b e
    have W3 : Wr w3 B 3 (some ⟨g1, 0, none⟩) (fill.map (.int .i64)) := (((W1.belo (bl_alloc (Below.refl w1.heap.size w1) (.cells #[.slice (some ⟨g1, 0, none⟩) n n] t))).lower (by omega : B ≤ w.heap.size)).keep fun q hq _ => by
      injection hq with hq; injection hq with hq
      exact g3.block q (by simp; omega) (fun e => by have := (h.gr.own.lt _ e.symm).2; omega))
    refine RowsI.snoc ((h.row.belo b2).keep g3.size fun b e => g3.block b (by have := (k1 b e).1; simp; omega) (fun e2 => (k1 b e).2 e2.symm)) hfl W3 (by have := g3.size; simp at this; omega) (fun b e => by have := (k1 b e).1; omega)
/-- a list of the caller's that lies elsewhere -/
theorem Rd.frm {F U bO : Nat} {v v1 : Value} {w w1 : World} {A : Option Addr} {ys : List Value} (hr : Rd w A ys) (h : FrmF F U bO v w v1 w1) (hA : ∀ ad, A = some ad → ad.block < w.heap.size ∧ ad.block ≠ F ∧ ad.block ≠ U ∧ ad.block ≠ bO ∧ v.ownBlock ≠ some ad.block) : Rd w1 A ys := fun hne => by
  obtain ⟨ad, e, hc⟩ := hr hne
  obtain ⟨a1, a2, a3, a4, a5⟩ := hA ad e
  refine ⟨ad, e, fun j u hu => ?_⟩
  have hb := h.block ad.block a1 a2 a3 a4 a5
  have hcj := hc j u hu
  have hz : (ad.add j).block = ad.block := by unfold Addr.add; split <;> rfl
  generalize ad.add j = aj at hcj hz ⊢
  obtain ⟨b9, o9, s9⟩ := aj
  have hs := World.cell?_spot hcj
  simp only at hs hz
  subst hs
  rw [← hz] at hb
  exact cellH hb hcj
end
end Go.Proofs.YtejkbjcmndnfeaaGreat

/- Contract: whether a place belongs to a region (the reference's). -/
namespace Go.Proofs.YtejkbjcmndnfeaaGreat
open Go.RowKit

set_option maxRecDepth 100000 in
set_option maxHeartbeats 1000000 in
theorem sAt_any (W T : Int) (A : Option Addr) (c : Nat) (bs : List Bool) (x y : Int) (w : World) (hr : Rd w A (bs.map .bool)) (h1 : 1 ≤ W) (h2 : W ≤ 6) (h3 : 1 ≤ T) (h4 : T ≤ 6) (hn : (bs.length : Int) = W * T) (hx : -1000 ≤ x ∧ x ≤ 1000) (hy : -1000 ≤ y ∧ y ≤ 1000) :
    Calls Tryz.prog 192 #[.agg #[.int .i64 W, .int .i64 T, .slice A bs.length c], .int .i64 x, .int .i64 y] w fun e w' => e = .returned (.bool (atQ W T bs x y)) ∧ Below w.heap.size w w' := by
  have X0 := C3.new w (.int .i64 W) (.int .i64 T) (.slice A bs.length c) 25
  have B0 := bl_alloc (Below.refl w.heap.size w) (.cells #[.int .i64 W, .int .i64 T, .slice A bs.length c] 25)
  obtain ⟨x0, x1, x2⟩ := id X0
  obtain ⟨hx1, hx2⟩ := hx
  obtain ⟨hy1, hy2⟩ := hy
  have HN := Lib.hid hn
  have h36 : bs.length ≤ 36 := by have := mul_bd h1 h2 h3 h4; omega
  clear hn
  by_cases hxin : 0 ≤ x ∧ x ≤ W - 1
  · by_cases hyin : 0 ≤ y ∧ y ≤ T - 1
    · obtain ⟨k, hk, hkn⟩ := at_idx h1 HN.out ⟨hxin.1, hxin.2, hyin.1, hyin.2⟩
      have HV := Lib.hid (atQ_t ⟨hxin.1, hxin.2, hyin.1, hyin.2⟩ hk hkn)
      obtain ⟨b, off, rfl, cb⟩ := (hr.alloc (.cells #[.int .i64 W, .int .i64 T, .slice A bs.length c] 25)).atEM hkn
      obtain ⟨v, hv⟩ : ∃ v, bs[k] = v := ⟨_, rfl⟩
      rw [hv] at cb HV
      clear hv
      have m0 : 0 ≤ y * W := Int.mul_nonneg hyin.1 (by omega)
      have wm : IntKind.i64.wrap (y * W) = y * W := IntWalk.i64_in _ (by omega)
      have wa : IntKind.i64.wrap (y * W + x) = (k : Int) := by rw [hk]; exact IntWalk.i64_in _ (by omega)
      have kI : (k : Int) < (bs.length : Int) := by omega
      obtain ⟨p1, p2⟩ := hxin
      obtain ⟨p3, p4⟩ := hyin
      clear hk
      go_enter Tryz.func192, Tryz.ntmps192
      go_wp2_with (go_at_call 70; first | ((with_reducible refine (l1in_t x _ _ _ p1 p2).mono ?_); rintro e w' ⟨rfl, rfl⟩) | ((with_reducible refine (l1in_t y _ _ _ p3 p4).mono ?_); rintro e w' ⟨rfl, rfl⟩))
      go_ret
      exact ⟨ret_b HV.out.symm, B0⟩
    · have HV := Lib.hid (atQ_f (W := W) (T := T) (bs := bs) (x := x) (y := y) (fun h => hyin ⟨h.2.2.1, h.2.2.2⟩))
      have hyo : y < 0 ∨ T - 1 < y := by omega
      obtain ⟨p1, p2⟩ := hxin
      go_enter Tryz.func192, Tryz.ntmps192
      go_wp2_with (go_at_call 70; first | ((with_reducible refine (l1in_t x _ _ _ p1 p2).mono ?_); rintro e w' ⟨rfl, rfl⟩) | ((with_reducible refine (l1in_f y _ _ _ hyo).mono ?_); rintro e w' ⟨rfl, rfl⟩))
      go_ret
      exact ⟨ret_b HV.out.symm, B0⟩
  · have HV := Lib.hid (atQ_f (W := W) (T := T) (bs := bs) (x := x) (y := y) (fun h => hxin ⟨h.1, h.2.1⟩))
    have hxo : x < 0 ∨ W - 1 < x := by omega
    go_enter Tryz.func192, Tryz.ntmps192
    go_wp2_with (go_at_call 70; refine (l1in_f x _ _ _ hxo).mono ?_; rintro e w' ⟨rfl, rfl⟩)
    go_ret
    exact ⟨ret_b HV.out.symm, B0⟩
end Go.Proofs.YtejkbjcmndnfeaaGreat

/- Contract: the reference's l8Put, a form put into a list. -/
namespace Go.Proofs.YtejkbjcmndnfeaaGreat
open Go.RowKit

/-- cells apart lie at places apart -/
theorem plc_apart {W T : Int} {bs : List Bool} {fill : List Int} {c : Nat} {form : List Ce} {v : Int} (hf : FldF W T bs.length) (hnd : form.Nodup) {q : Nat} (hq : q < form.length)
    (h : ∀ q' (h : q' < form.length), q' ≤ q → 0 ≤ fxC W c form form[q'] ∧ fxC W c form form[q'] ≤ W - 1 ∧ 0 ≤ fyC W c form form[q'] ∧ fyC W c form form[q'] ≤ T - 1) :
    (setF fill ((plcL W c form).take q) v).getD (fyC W c form form[q] * W + fxC W c form form[q]).toNat 0 = fill.getD (fyC W c form form[q] * W + fxC W c form form[q]).toNat 0 := by
  refine setF_not fun hm => ?_
  obtain ⟨j, hj, e⟩ := List.getElem_of_mem hm
  rw [List.length_take, plc_len] at hj
  have hjq : j < q := by omega
  have hjf : j < form.length := by omega
  rw [List.getElem_take, plc_get hjf] at e
  obtain ⟨a1, a2, a3, a4⟩ := h j hjf (by omega)
  obtain ⟨b1, b2, b3, b4⟩ := h q hq (Nat.le_refl _)
  obtain ⟨k1, e1, -, m1, d1⟩ := hf.at_ a1 a2 a3 a4
  obtain ⟨k2, e2, -, m2, d2⟩ := hf.at_ b1 b2 b3 b4
  rw [e1, e2, Int.toNat_natCast, Int.toNat_natCast] at e
  subst e
  have x : form[j] = form[q] := by
    unfold fxC at m1 m2
    unfold fyC at d1 d2
    exact Prod.ext (by omega) (by omega)
  have := List.pairwise_iff_getElem.1 hnd j q hjf hq hjq
  exact this x
/-- what l8Put hands back -/
def PutR (fit : Bool) (n : Nat) (new : List Int) (Af : Option Addr) (cf : Nat) (w : World) (e : Ending) (w' : World) : Prop :=
  (fit = true → ∃ (g c' : Nat), e = .returned (.tuple #[.slice (some ⟨g, 0, none⟩) n c', .bool true]) ∧ n ≤ c' ∧ Wr w' w.heap.size 3 (some ⟨g, 0, none⟩) (new.map (.int .i64)) ∧ g < w'.heap.size) ∧
  (fit = false → e = .returned (.tuple #[.slice Af n cf, .bool false])) ∧ Below w.heap.size w w'
set_option maxRecDepth 100000 in
set_option maxHeartbeats 4000000 in
theorem sPut_any (W T : Int) (A Af Ap : Option Addr) (c cf cp n cell m : Nat) (bs : List Bool) (fill : List Int) (form : List Ce) (w : World) (hr : Rd w A (bs.map .bool)) (hrF : Rd w Af (fill.map (.int .i64))) (hrC : RdC w Ap form)
    (hf : FldF W T bs.length) (hn : bs.length = n) (hl : fill.length = n) (hc : cell < n) (hfl : form.length ≤ 10) (hb : ∀ q ∈ form, -100 ≤ q.1 ∧ q.1 ≤ 100 ∧ -100 ≤ q.2 ∧ q.2 ≤ 100) (h0 : (form.headD (0, 0)).2 = 0) (hnd : form.Nodup) :
    Calls Tryz.prog 133 #[.agg #[.int .i64 W, .int .i64 T, .slice A n c], .slice Af n cf, .slice Ap form.length cp, .int .i64 cell, .int .i64 m] w (PutR (fitF W T bs fill cell form) n (setF fill (plcL W cell form) m) Af cf w) := by
  have X0 := C3.new w (.int .i64 W) (.int .i64 T) (.slice A n c) 25
  have B0 := bl_alloc (Below.refl w.heap.size w) (.cells #[.int .i64 W, .int .i64 T, .slice A n c] 25)
  have n36 : n ≤ 36 := by have := hf.bd; omega
  obtain ⟨w1, w6, t1, t6, hlen⟩ := id hf
  obtain ⟨i0, hi, hz0, hz1, hz2⟩ := info_parts Tryz.infoI
  have HZ := Lib.hid (And.intro hz0 (And.intro hz1 hz2))
  have HF := Lib.hid hf
  have HN := Lib.hid hn
  have HL := Lib.hid hl
  have HB := Lib.hid hb
  have HD := Lib.hid hnd
  have H0 := Lib.hid h0
  have CAT := Lib.hid (fun (x y : Int) (z : World) (R : Rd z A (bs.map .bool)) (hx : -1000 ≤ x ∧ x ≤ 1000) (hy : -1000 ≤ y ∧ y ≤ 1000) => by
    have := sAt_any W T A c bs x y z R w1 w6 t1 t6 hlen hx hy
    rw [HN.out] at this
    exact this)
  have hfn : fill ≠ [] := by intro e; rw [e] at hl; simp at hl; omega
  obtain ⟨bf, off, rfl, -⟩ := hrF.atEM (k := 0) (by rw [hl]; omega)
  have hown0 := World.ownsRow_lit (e := 3) (size := 1) (w.alloc (.cells #[.int .i64 W, .int .i64 T, .slice A n c] 25)) #[] 0 (Nat.le_refl _) (by unfold maxLen; omega) (by simp)
  obtain ⟨ad', e', hcell⟩ := ((hrF.belo B0).alloc (.cells #[] 3)) (by intro e; exact hfn (List.map_eq_nil_iff.1 e))
  have HC := Lib.hid (show ∀ j y, (fill.map (Value.int .i64))[j]? = some y → ((w.alloc (.cells #[.int .i64 W, .int .i64 T, .slice A n c] 25)).alloc (.cells #[] 3)).cell? ((⟨bf, off, none⟩ : Addr).add j) = some y from fun j y hy => by injection e' with e'; rw [e']; exact hcell j y hy)
  clear hz0 hz1 hz2 hf hn hl hb hnd h0 hlen hcell e'
  have eo : (w.alloc (.cells #[.int .i64 W, .int .i64 T, .slice A n c] 25)).heap.size = w.heap.size + 1 := by simp
  rw [eo] at hown0
  go_enter Tryz.func133, Tryz.ntmps133
  go_wp2_with (at_builtin; refine wpList_append_own _ rfl _ _ 27 rfl (w.heap.size + 1) 3 i0 (.int .i64 0) 1 8 Tryz.underlying27 hi HZ.out.1 HZ.out.2.1 HZ.out.2.2 rfl (by decide) _ _ _ rfl hown0 ⟨bf, off, none⟩ n cf (fill.map (.int .i64)) rfl (by simp; exact HL.out) HC.out (by intro y hy; obtain ⟨b, _, rfl⟩ := List.mem_map.1 hy; rfl) (by unfold maxLen; omega) (by omega) (by simp) ?_; intro v' w3 hown3 hg3 _)
  simp only [Nat.zero_add, List.nil_append] at hown3
  have b3 : Below w.heap.size w w3 := (bl_alloc B0 (.cells #[] 3)).grown hg3 (by simp; omega) (fun k hk => by have h2 : some (w.heap.size + 1) = some k := hk; injection h2 with h2; omega)
  obtain ⟨g, cap, rfl, hg, hgl⟩ := hown3.form (by omega)
  have hcap : n ≤ cap := by
    rcases hown3.2 with ⟨e, e2⟩ | ⟨g', cap', cur, e, _, _, h3, _⟩
    · omega
    · injection e with _ _ e3; omega
  have W3 := (Wr.of_own hown3).lower (show w.heap.size ≤ w.heap.size + 1 by omega)
  have b33 := (bl_alloc (Below.refl (w.alloc (.cells #[.int .i64 W, .int .i64 T, .slice A n c] 25)).heap.size (w.alloc (.cells #[.int .i64 W, .int .i64 T, .slice A n c] 25))) (.cells #[] 3)).grown hg3 (by simp) (fun k hk => by have h2 : some (w.heap.size + 1) = some k := hk; injection h2 with h2; rw [eo]; omega)
  rw [eo] at b33
  have X1 := X0
  obtain ⟨W1, hW1⟩ : ∃ W1, w.alloc (.cells #[.int .i64 W, .int .i64 T, .slice A n c] 25) = W1 := ⟨_, rfl⟩
  rw [hW1] at b33 X1 B0 eo
  have HE := Lib.hid eo
  clear hown3 hg3 hown0 HC X0 eo hW1
  obtain ⟨X, hX⟩ : ∃ X, (cell : Int) % W = X := ⟨_, rfl⟩
  obtain ⟨Y, hY⟩ : ∃ Y, (cell : Int) / W = Y := ⟨_, rfl⟩
  have hXY : 0 ≤ X ∧ X ≤ 6 ∧ 0 ≤ Y ∧ Y ≤ 36 := by
    obtain ⟨a1, a2, a3, a4, -⟩ := HF.out.xy (show cell < bs.length by rw [HN.out]; exact hc)
    omega
  obtain ⟨X0', X6', Y0', Y6'⟩ := hXY
  have HX := Lib.hid hX
  have HY := Lib.hid hY
  have HT := Lib.hid (show (cell : Int).tmod W = X ∧ (cell : Int).tdiv W = Y from ⟨by rw [Int.tmod_eq_emod_of_nonneg (by omega), hX], by rw [Int.tdiv_eq_ediv_of_nonneg (by omega), hY]⟩)
  clear hX hY
  go_wp2_with fail
  go_loopw [13] (fun i wr => LpF (fun q => q ≤ form.length ∧ Hid (∀ q' (h : q' < form.length), q' < q → fitQ W T bs fill (fxC W cell form form[q']) (fyC W cell form form[q']) = true) ∧ Wr wr w.heap.size 3 (some ⟨g, 0, none⟩) ((setF fill ((plcL W cell form).take q) m).map (.int .i64)) ∧ Below (w.heap.size + 1) W1 wr) i) (fun i _ => form.length - (intOf i).toNat)
  case atStart => exact ⟨0, rfl, Nat.zero_le _, fun q' h h2 => by omega, W3, b33⟩
  case round =>
    clear W3 b33
    obtain ⟨q, rfl, hq, HFQ, Wq, Bq⟩ := hrel
    obtain ⟨wc, hwc⟩ : ∃ wc : World, wc = wr := ⟨_, rfl⟩
    subst hwc
    have Bw : Below w.heap.size w wc := B0.trans (Bq.mono (by omega))
    by_cases hq2 : q < form.length
    · have RF : RdC wc Ap form := Rd.belo hrC Bw
      have hIq : (q : Int) < (form.length : Int) := by omega
      obtain ⟨b4, o4, rfl, g0a, g0b⟩ := RF.at_ (k := 0) (by omega)
      obtain ⟨b4', o4', e4, h1a, h1b⟩ := RF.at_ hq2
      injection e4 with e4
      injection e4 with e4 e5
      subst e4
      subst e5
      simp only [Nat.zero_mul, Nat.add_zero] at g0a g0b
      have hhd : form.headD (0, 0) = form[0]'(by omega) := by cases form with
        | nil => simp at hq2
        | cons a l => rfl
      obtain ⟨a1, a2, a3, a4⟩ := HB.out (form[0]'(by omega)) (List.getElem_mem _)
      obtain ⟨a5, a6, a7, a8⟩ := HB.out form[q] (List.getElem_mem hq2)
      have h00 := H0.out
      rw [hhd] at h00
      have HXY := Lib.hid (show fxC W cell form form[q] = X + form[q].1 - (form[0]'(by omega)).1 ∧ fyC W cell form form[q] = Y + form[q].2 by unfold fxC fyC; rw [hhd, HX.out, HY.out]; exact ⟨rfl, by omega⟩)
      have HPG := Lib.hid (plc_get (W := W) (c := cell) hq2 (by rw [plc_len]; exact hq2))
      have HAP := Lib.hid (fun h => plc_apart (v := (m : Int)) (fill := fill) (c := cell) HF.out HD.out hq2 h)
      have HNO := Lib.hid (fun (h : fitQ W T bs fill (fxC W cell form form[q]) (fyC W cell form form[q]) = false) => fit_no (W := W) (T := T) (bs := bs) (fill := fill) (c := cell) (List.getElem_mem hq2) h)
      have HQG := Lib.hid (show form[q]? = some form[q] from List.getElem?_eq_getElem hq2)
      obtain ⟨fa, hfa⟩ : ∃ fa, form[0]'(by omega) = fa := ⟨_, rfl⟩
      obtain ⟨fq, hfq⟩ : ∃ fq, form[q] = fq := ⟨_, rfl⟩
      rw [hfa] at g0a g0b a1 a2 a3 a4 HXY
      rw [hfq] at h1a h1b a5 a6 a7 a8 HXY HPG HAP HNO
      have HFQE := Lib.hid hfq
      clear hfq hfa hhd h00
      obtain ⟨x0, x1, x2⟩ := X1.below Bq (by omega)
      have i0' : IntKind.i64.wrap X = X := IntWalk.i64_in _ (by omega)
      have i1 : IntKind.i64.wrap (X + fq.1) = X + fq.1 := IntWalk.i64_in _ (by omega)
      have i2 : IntKind.i64.wrap (X + fq.1 - fa.1) = X + fq.1 - fa.1 := IntWalk.i64_in _ (by omega)
      have i3 : IntKind.i64.wrap Y = Y := IntWalk.i64_in _ (by omega)
      have i4 : IntKind.i64.wrap (Y + fq.2) = Y + fq.2 := IntWalk.i64_in _ (by omega)
      have hw0 : (W == 0) = false := by rw [beq_eq_false_iff_ne]; omega
      have hw1 : ¬ W = 0 := by omega
      have y1 := HT.out.1
      have y2 := HT.out.2
      have y3 := HX.out
      have y4 := HY.out
      go_wp2_with fail
      go_region
      go_wp2_with fail
      go_region
      have bd : Below wc.heap.size wc wc.drew.drew := (Below.refl wc.heap.size wc).drew.drew
      have W10 : Wr wc.drew.drew w.heap.size 3 (some ⟨g, 0, none⟩) ((setF fill ((plcL W cell form).take q) m).map (.int .i64)) := Wq.belo bd
      have B10 : Below (w.heap.size + 1) W1 wc.drew.drew := Bq.trans (bd.mono (by have := Bq.size; have := HE.out; omega))
      generalize wc.drew.drew = wd at *
      have Bw10 : Below w.heap.size w wd := B0.trans (B10.mono (by omega))
      clear bd g0a g0b h1a h1b RF Wq Bq Bw i0' i1 i2 i3 i4 y1 y2 y3 y4 x0 x1 x2
      obtain ⟨fx, hfx⟩ : ∃ fx, X + fq.1 - fa.1 = fx := ⟨_, rfl⟩
      obtain ⟨fy, hfy⟩ : ∃ fy, Y + fq.2 = fy := ⟨_, rfl⟩
      have hfx1 : -1000 ≤ fx ∧ fx ≤ 1000 := by omega
      have hfy1 : -1000 ≤ fy ∧ fy ≤ 1000 := by omega
      rw [hfx, hfy] at HXY ⊢
      clear hfx hfy
      have CATz := Lib.hid (CAT.out fx fy wd (hr.belo Bw10) hfx1 hfy1)
      obtain ⟨x0, x1, x2⟩ := X1.below B10 (by omega)
      go_wp2_with fail
      refine CATz.out.mono ?_
      rintro e w11 ⟨rfl, b11⟩
      have W11 := W10.belo b11
      have B11 : Below (w.heap.size + 1) W1 w11 := B10.trans (b11.mono (by have := B10.size; have := HE.out; omega))
      have Bw11 : Below w.heap.size w w11 := B0.trans (B11.mono (by omega))
      have HFE := Lib.hid (fitQ_eq (W := W) (T := T) (bs := bs) (fill := fill) (x := fx) (y := fy))
      clear x0 x1 x2 CATz W10 B10 Bw10 b11
      obtain ⟨x0, x1, x2⟩ := X1.below B11 (by omega)
      cases hat : atQ W T bs fx fy with
      | false =>
        have HBR0 := Lib.hid (HNO.out (by rw [HXY.out.1, HXY.out.2, HFE.out, hat]; rfl))
        clear hat
        go_wp2_with fail
        go_ret2
        refine ⟨fun h => ?_, fun _ => rfl, Bw11⟩
        rw [HBR0.out] at h; cases h
      | true =>
        have hin : 0 ≤ fx ∧ fx ≤ W - 1 ∧ 0 ≤ fy ∧ fy ≤ T - 1 := by
          have h := hat
          unfold atQ at h
          rw [Bool.and_eq_true, decide_eq_true_eq] at h
          exact h.1
        have HPA := Lib.hid (HAP.out (fun q' h1 h2 => by
          rcases Nat.lt_or_ge q' q with h3 | h3
          · have h4 := HFQ.out q' h1 h3
            unfold fitQ at h4
            rw [Bool.and_eq_true, decide_eq_true_eq] at h4
            exact h4.1
          · obtain rfl : q' = q := by omega
            rw [HFQE.out, HXY.out.1, HXY.out.2]; exact hin))
        obtain ⟨k9, hk9, hkn9⟩ := at_idx w1 HF.out.len hin
        rw [HN.out] at hkn9
        obtain ⟨p1, p2, p3, p4⟩ := hin
        have k9I : (k9 : Int) < (n : Int) := by omega
        have m0 : 0 ≤ fy * W := Int.mul_nonneg p3 (by omega)
        have i5 : IntKind.i64.wrap (fy * W) = fy * W := IntWalk.i64_in _ (by omega)
        have i6 : IntKind.i64.wrap (fy * W + fx) = (k9 : Int) := by rw [hk9]; exact IntWalk.i64_in _ (by omega)
        have k9f : k9 < (setF fill ((plcL W cell form).take q) m).length := by rw [setF_len, HL.out]; exact hkn9
        have c9f := W11.rd.cellEM (k := k9) k9f
        simp only [Nat.zero_add] at c9f
        have HF9 := Lib.hid (show fill.getD k9 0 = (setF fill ((plcL W cell form).take q) m)[k9] by
          have h := HPA.out
          rw [HXY.out.1, HXY.out.2, hk9, Int.toNat_natCast, List.getD_eq_getElem?_getD, List.getElem?_eq_getElem k9f] at h
          exact h.symm)
        obtain ⟨f9, hf9⟩ : ∃ f9, (setF fill ((plcL W cell form).take q) m)[k9] = f9 := ⟨_, rfl⟩
        rw [hf9] at c9f HF9
        have HQ9 := Lib.hid (show fitQ W T bs fill fx fy = decide (f9 < 0) by rw [HFE.out, hat, hk9, Int.toNat_natCast, HF9.out]; rfl)
        have HP9 := Lib.hid (show (plcL W cell form)[q]'(by rw [plc_len]; exact hq2) = k9 by rw [HPG.out, HXY.out.1, HXY.out.2, hk9, Int.toNat_natCast])
        obtain ⟨g', eg, -, -, fr⟩ := W11.form (by intro e; have := congrArg List.length e; simp at this; rw [this] at k9f; simp at k9f)
        injection eg with eg
        injection eg with eg
        subst eg
        have fr9 := fr k9
        clear hat hf9 hk9 fr
        cases hge9 : decide (0 ≤ f9) with
        | true =>
          have hge0 : 0 ≤ f9 := of_decide_eq_true hge9
          have HBR0 := Lib.hid (HNO.out (by rw [HXY.out.1, HXY.out.2, HQ9.out]; exact decide_eq_false (by omega)))
          go_wp2_with fail
          go_ret2
          refine ⟨fun h => ?_, fun _ => rfl, Bw11⟩
          rw [HBR0.out] at h; cases h
        | false =>
          have hge0 : ¬ 0 ≤ f9 := of_decide_eq_false hge9
          have HYQ := Lib.hid (show fitQ W T bs fill (fxC W cell form form[q]) (fyC W cell form form[q]) = true by rw [HFQE.out, HXY.out.1, HXY.out.2, HQ9.out]; exact decide_eq_true (by omega))
          go_wp2_with fail
          go_roundw
          case rel =>
            refine ⟨q + 1, by go_num, by omega, fun q' h h2 => ?_, ?_, B11.setCell (by simp; omega) _⟩
            · rcases Nat.lt_or_ge q' q with h3 | h3
              · exact HFQ.out q' h h3
              · obtain rfl : q' = q := by omega
                exact HYQ.out
            · rw [setF_take _ _ _ (by rw [plc_len]; exact hq2), HP9.out, List.map_set]
              exact W11.store k9 _
          case measure => simp [intOf]; omega
    · obtain rfl : q = form.length := by omega
      have HFIT := Lib.hid (fit_all (fun q' h => HFQ.out q' h h))
      rw [List.take_of_length_le (by rw [plc_len]; exact Nat.le_refl _)] at Wq
      go_wp2_with fail
      go_ret2
      refine ⟨fun _ => ⟨g, cap, rfl, hcap, Wq, ?_⟩, fun h => ?_, Bw⟩
      · have h := Bq.size
        have := HE.out
        exact (Wq.form (by intro e; have h2 := congrArg List.length e; rw [List.length_map, setF_len, HL.out] at h2; simp at h2; omega)).elim fun g' ⟨e, _, h3, _⟩ => by injection e with e; injection e with e; rw [e]; exact h3
      · rw [HFIT.out] at h; cases h
end Go.Proofs.YtejkbjcmndnfeaaGreat

/- Sets of pieces as numbers, plainly; lists of lists that grow in the reference's search; an append of any list of lists. -/
namespace Go.Proofs.YtejkbjcmndnfeaaGreat
open Go.RowKit

/-- a set as a number -/
def mskN : List Bool → Nat
  | [] => 0
  | b :: l => (if b = true then 1 else 0) + 2 * mskN l
theorem mskN_cons (b : Bool) (l : List Bool) : mskN (b :: l) = (if b = true then 1 else 0) + 2 * mskN l := rfl
theorem mskN_bit : ∀ (l : List Bool) (n : Nat), mskN l / 2 ^ n % 2 = if l.getD n false = true then 1 else 0
  | [], n => by simp [mskN]
  | b :: l, 0 => by
    simp only [mskN, Nat.pow_zero, Nat.div_one, List.getD_cons_zero]
    split <;> omega
  | b :: l, n + 1 => by
    have := mskN_bit l n
    rw [List.getD_cons_succ, ← this, Nat.pow_succ, Nat.mul_comm (2 ^ n) 2, ← Nat.div_div_eq_div_mul]
    have e : mskN (b :: l) / 2 = mskN l := by rw [mskN_cons]; split <;> omega
    rw [e]
theorem mskN_set : ∀ (l : List Bool) (n : Nat), n < l.length → l.getD n true = false → mskN (l.set n true) = mskN l + 2 ^ n
  | [], n, h, _ => by simp at h
  | b :: l, 0, _, h => by
    rw [List.getD_cons_zero] at h
    subst h
    simp only [List.set_cons_zero, mskN, if_true, Nat.pow_zero]
    simp; omega
  | b :: l, n + 1, h, h2 => by
    have := mskN_set l n (by simpa using h) (by simpa using h2)
    simp only [List.set_cons_succ, mskN]
    rw [this, Nat.pow_succ]; omega
theorem mskN_lt : ∀ l : List Bool, mskN l + 1 ≤ 2 ^ l.length
  | [] => by simp [mskN]
  | b :: l => by
    have := mskN_lt l
    rw [List.length_cons, Nat.pow_succ, mskN_cons]
    split <;> omega
theorem mskN_all : ∀ l : List Bool, mskN l + 1 = 2 ^ l.length ↔ l.all id = true
  | [] => by simp [mskN]
  | b :: l => by
    have h1 := mskN_all l
    have h2 := mskN_lt l
    rw [List.length_cons, Nat.pow_succ, List.all_cons, Bool.and_eq_true, ← h1, mskN_cons]
    cases b
    · simp; omega
    · simp; omega
theorem mskN_0 (P : Nat) : mskN (used0 P) = 0 := by
  unfold used0
  induction P with
  | zero => rfl
  | succ P ih => rw [List.replicate_succ, mskN, ih]; simp
section
variable {ops : Array Oper} {rest : List Oper} {o : Oper} {a : Act} {Q : Exit → Act → World → Prop}
/-- heads appended to a list of heads of its own; the source may be nil -/
theorem opw_headsR {K : Act → World → Prop} (W : World) (s x : Operand) (ho : o.op = .call { callee := .builtin .append, args := #[s, x], argTypes := #[33, 33] })
    (base : Nat) (v : Value) (xs : List Value) (hs : a.eval s = v) (hown : OwnL W base v xs) (A : Option Addr) (n c : Nat) (ys : List Value) (hx : a.eval x = .slice A n c) (hl : ys.length = n) (hA : A = none → c = 0) (hq : Rd W A ys) (h1 : ∀ u ∈ ys, u.oneCell' = true) (hm : xs.length + n ≤ 1000000000000) (hbase : base ≤ W.heap.size)
    (h : ∀ v' w', OwnL w' base v' (xs ++ ys) → W.grownBy w' v.ownBlock → (v'.ownBlock = v.ownBlock ∨ v'.ownBlock = some W.heap.size) → K (a.put o.dst v') w') : Oper.wp Tryz.prog o a W K Q := by
  cases A with
  | some ad =>
    refine opw_headsL W s x ho base v xs hs hown ad n c ys hx hl (fun j u hu => ?_) h1 hm hbase h
    obtain ⟨ad', e, hc⟩ := hq (by rintro rfl; simp at hu)
    injection e with e
    rw [e]; exact hc j u hu
  | none =>
    have hys : ys = [] := by
      cases ys with
      | nil => rfl
      | cons y l => obtain ⟨ad', e, -⟩ := hq (by simp); cases e
    subst hys
    have hn : n = 0 := by rw [← hl]; rfl
    subst hn
    have hc := hA rfl
    subst hc
    obtain ⟨i0, hi, hz0, hz1, hz2⟩ := info_parts Tryz.infoSI
    obtain ⟨A, c', e, hown2⟩ := id hown
    have hrun := run_append_owned_none (P := Tryz.prog) (w := W) base 33 o.type 27 i0 1 Tryz.underlying33 hi v xs.length xs hown2
    unfold Oper.wp execOp
    simp only [ho, resolve, invoke, builtin, Sem.run_bind, Sem.run_pure, Result.andThen_ok, List.map_toArray, List.map_cons, List.map_nil, hs, hx, hrun]
    exact h v W (by rw [List.append_nil]; exact hown) (World.grownBy.refl _ _) (.inl rfl)
theorem step_headsR {K : Act → World → Prop} {E : Prop} (W : World) (hgd : o.guard = none) (s x : Operand) (ho : o.op = .call { callee := .builtin .append, args := #[s, x], argTypes := #[33, 33] })
    (base : Nat) (v : Value) (xs : List Value) (hs : a.eval s = v) (hown : OwnL W base v xs) (A : Option Addr) (n c : Nat) (ys : List Value) (hx : a.eval x = .slice A n c) (hl : ys.length = n) (hA : A = none → c = 0) (hq : Rd W A ys) (h1 : ∀ u ∈ ys, u.oneCell' = true) (hm : xs.length + n ≤ 1000000000000) (hbase : base ≤ W.heap.size)
    (h : ∀ v' w', OwnL w' base v' (xs ++ ys) → W.grownBy w' v.ownBlock → (v'.ownBlock = v.ownBlock ∨ v'.ownBlock = some W.heap.size) → K (a.put o.dst v') w') :
    if Region.wanted o (yielded ops a.tmps) = true then Oper.wp Tryz.prog o a W K Q else E := by
  have hw : Region.wanted o (yielded ops a.tmps) = true := by simp [Region.wanted, hgd]
  rw [if_pos hw]
  exact opw_headsR W s x ho base v xs hs hown A n c ys hx hl hA hq h1 hm hbase h
theorem wpList_headsR (W : World) (hgd : o.guard = none) (s x : Operand) (ho : o.op = .call { callee := .builtin .append, args := #[s, x], argTypes := #[33, 33] })
    (base : Nat) (v : Value) (xs : List Value) (hs : a.eval s = v) (hown : OwnL W base v xs) (A : Option Addr) (n c : Nat) (ys : List Value) (hx : a.eval x = .slice A n c) (hl : ys.length = n) (hA : A = none → c = 0) (hq : Rd W A ys) (h1 : ∀ u ∈ ys, u.oneCell' = true) (hm : xs.length + n ≤ 1000000000000) (hbase : base ≤ W.heap.size)
    (h : ∀ v' w', OwnL w' base v' (xs ++ ys) → W.grownBy w' v.ownBlock → (v'.ownBlock = v.ownBlock ∨ v'.ownBlock = some W.heap.size) → wpList Tryz.prog ops Q rest (a.put o.dst v') w') : wpList Tryz.prog ops Q (o :: rest) a W :=
  wpList_plain hgd fun _ hK => opw_headsR W s x ho base v xs hs hown A n c ys hx hl hA hq h1 hm hbase fun v' w' k1 k2 k3 => hK _ _ (h v' w' k1 k2 k3)
end
/-- a list of lists that the search tells: each lies in a new block, or is the list that came in -/
structure OutF (w0 : World) (Af : Option Addr) (v : Value) (xs : List Value) (L : List (List Int)) (w : World) : Prop where
  gr : GrL w w0.heap.size v xs L
  fr : ∀ b, AtL xs b → (∃ ad, Af = some ad ∧ ad.block = b) ∨ w0.heap.size ≤ b
  ok : Below w0.heap.size w0 w
theorem OutF.belo {w0 w w' : World} {Af : Option Addr} {v : Value} {xs : List Value} {L : List (List Int)} (h : OutF w0 Af v xs L w) (hb : Below w.heap.size w w') : OutF w0 Af v xs L w' := ⟨h.gr.belo hb, h.fr, bl_go h.ok hb⟩
theorem OutF.app {w0 w w' : World} {Af : Option Addr} {v v' : Value} {xs ys : List Value} {L G : List (List Int)} (h : OutF w0 Af v xs L w) (hy : HeadsI w ys G) (hp : ∀ b, AtL ys b → b < w.heap.size ∧ v.ownBlock ≠ some b ∧ ((∃ ad, Af = some ad ∧ ad.block = b) ∨ w0.heap.size ≤ b))
    (ho : OwnL w' w0.heap.size v' (xs ++ ys)) (hg : w.grownBy w' v.ownBlock) (hv : v'.ownBlock = v.ownBlock ∨ v'.ownBlock = some w.heap.size) : OutF w0 Af v' (xs ++ ys) (L ++ G) w' :=
  ⟨h.gr.app hy (fun b hb => ⟨(hp b hb).1, (hp b hb).2.1⟩) ho hg hv, fun b hb => by
    rcases hb.app with e | e
    · exact h.fr b e
    · exact (hp b e).2.2, h.ok.grown hg h.ok.size (fun k hk => (h.gr.own.lt k hk).1)⟩
/-- the search's result -/
def FsR (fs : List (List Int)) (Af : Option Addr) (w : World) (e : Ending) (w' : World) : Prop :=
  ∃ (A : Option Addr) (c : Nat) (xs : List Value), e = .returned (.slice A fs.length c) ∧ fs.length ≤ c ∧ (A = none → c = 0) ∧ Rd w' A xs ∧ HeadsI w' xs fs ∧ (∀ b, AtL xs b → b < w'.heap.size ∧ ((∃ ad, Af = some ad ∧ ad.block = b) ∨ w.heap.size ≤ b)) ∧ Below w.heap.size w w'
theorem OutF.res {w0 w : World} {Af : Option Addr} {v : Value} {xs : List Value} {L : List (List Int)} (h : OutF w0 Af v xs L w) : ∃ (A : Option Addr) (c : Nat), v = .slice A L.length c ∧ FsR L Af w0 (.returned (.slice A L.length c)) w := by
  obtain ⟨A, c, e, o⟩ := id h.gr.own
  have hl := h.gr.hd.1
  rw [hl] at e
  rw [hl, e] at o
  refine ⟨A, c, e, A, c, xs, rfl, ?_, ?_, Rd.own o, h.gr.hd, fun b hb => ⟨(h.gr.pt b hb).1, h.fr b hb⟩, h.ok⟩
  · rcases o.2 with ⟨e1, e2⟩ | ⟨g, cap, cur, hv, _, _, h3, _⟩
    · rw [e2]; simp
    · injection hv with _ _ e3; omega
  · intro hA
    rcases o.2 with ⟨e1, e2⟩ | ⟨g, cap, cur, hv, _, _, h3, _⟩
    · injection e1
    · rw [hA] at hv; injection hv with e3; cases e3
theorem FsR.lower {fs : List (List Int)} {Af : Option Addr} {w0 w w' : World} {e : Ending} (h : FsR fs Af w0 e w') (hb : Below w.heap.size w w0) : FsR fs Af w e w' := by
  obtain ⟨A, c, xs, h1, h2, h3, h4, h5, h6, h7⟩ := h
  refine ⟨A, c, xs, h1, h2, h3, h4, h5, fun b hb' => ?_, bl_go hb h7⟩
  obtain ⟨a1, a2⟩ := h6 b hb'
  refine ⟨a1, ?_⟩
  rcases a2 with a2 | a2
  · exact .inl a2
  · exact .inr (Nat.le_trans hb.size a2)
theorem wrap2 {P : Nat} (h : P ≤ 6) : wrap64 ((2 : Int) ^ P) = ((2 ^ P : Nat) : Int) ∧ 2 ^ P ≤ 64 := by
  have h1 : (2 : Nat) ^ P ≤ 2 ^ 6 := Nat.pow_le_pow_right (by omega) h
  have h2 : ((2 ^ P : Nat) : Int) = (2 : Int) ^ P := by simp
  have h3 : 0 < 2 ^ P := Nat.pow_pos (by omega)
  refine ⟨?_, by omega⟩
  rw [← h2]
  exact IntWalk.wrap64_in _ (by omega)
theorem wsum {u q : Nat} (hu : u ≤ 63) (hq : q ≤ 64) : wrap64 ((u : Int) + (q : Int)) = ((u + q : Nat) : Int) ∧ IntKind.i64.wrap ((u : Int) + (q : Int)) = ((u + q : Nat) : Int) := by
  rw [IntWalk.i64_left, IntWalk.wrap64_in _ (by omega), Int.natCast_add]
  exact ⟨rfl, rfl⟩
/-- all pieces are used -/
theorem msk_test {used : List Bool} {P u : Nat} (hl : used.length = P) (h6 : P ≤ 6) (hu : u = mskN used) : ((u : Int) == wrap64 (wrap64 (2 ^ P) - 1)) = used.all id := by
  obtain ⟨h1, h2⟩ := wrap2 h6
  have h3 : 0 < 2 ^ P := Nat.pow_pos (by omega)
  rw [h1, show wrap64 (((2 ^ P : Nat) : Int) - 1) = ((2 ^ P : Nat) : Int) - 1 from IntWalk.wrap64_in _ (by omega)]
  have h4 := mskN_all used
  rw [hl, ← hu] at h4
  cases h : used.all id with
  | true => rw [h] at h4; have := h4.2 rfl; rw [beq_iff_eq]; omega
  | false => rw [h] at h4; rw [beq_eq_false_iff_ne]; intro e; have := h4.1 (by omega); cases this
theorem msk_bit {used : List Bool} {u k : Nat} (hu : u = mskN used) : (((u : Int) / 2 ^ k).tmod 2 == 0) = !used.getD k false := by
  have h1 : ((u : Int) / 2 ^ k) = ((u / 2 ^ k : Nat) : Int) := by simp
  have h2 := mskN_bit used k
  rw [← hu] at h2
  rw [h1]
  generalize u / 2 ^ k = x at h2 ⊢
  rw [Int.tmod_eq_emod_of_nonneg (Int.natCast_nonneg x)]
  cases h : used.getD k false with
  | true => rw [h, if_pos rfl] at h2; rw [show (!true) = false from rfl, beq_eq_false_iff_ne]; omega
  | false => rw [h, if_neg (by decide)] at h2; rw [show (!false) = true from rfl, beq_iff_eq]; omega
/-- a slice elsewhere reads as before -/
theorem Rd.blk {w w' : World} {A : Option Addr} {xs : List Value} (h : Rd w A xs) (hb : xs ≠ [] → ∀ ad, A = some ad → w'.heap[ad.block]? = w.heap[ad.block]?) : Rd w' A xs := fun hne => by
  obtain ⟨ad, e, hc⟩ := h hne
  refine ⟨ad, e, fun j u hu => ?_⟩
  have hbk := hb hne ad e
  have hcj := hc j u hu
  have hz : (ad.add j).block = ad.block := by unfold Addr.add; split <;> rfl
  generalize ad.add j = aj at hcj hz ⊢
  obtain ⟨b9, o9, s9⟩ := aj
  have hs := World.cell?_spot hcj
  simp only at hs hz
  subst hs
  rw [← hz] at hbk
  exact cellH hbk hcj
/-- the first cell of a form is in the first row -/
theorem form_head {p x : List Ce} (h : PieceOk p) (hx : x ∈ formsV p) : (x.headD (0, 0)).2 = 0 := by
  have hx2 := (forms_of_form hx).2
  obtain ⟨-, -, -, h4, -, v, hv, e⟩ := law_moved hx2
  have e0 := form_mvd h hx
  rw [mvdV_ok stayC hx2, map_stay, e0] at h4 hv
  have hpw : x.Pairwise fun a b => ltC b a = false := by rw [← e0]; exact sortC_pw _
  cases x with
  | nil => cases hv
  | cons a l =>
    show a.2 = 0
    have ha := (h4 a (by simp)).2
    rcases List.mem_cons.1 hv with rfl | hl
    · exact e
    · have := (List.pairwise_cons.1 hpw).1 v hl
      unfold ltC at this
      rw [decide_eq_false_iff_not] at this
      omega
/-- what an append to an elder list leaves as it was -/
structure FrmR (N : Nat) (w5 : World) (v : Value) (w : World) : Prop where
  blk : ∀ i, N ≤ i → i < w5.heap.size → w.heap[i]? = w5.heap[i]?
  own : ∀ k, v.ownBlock = some k → k < N ∨ w5.heap.size ≤ k
  size : w5.heap.size ≤ w.heap.size
theorem FrmR.belo {N : Nat} {w5 w w' : World} {v : Value} (h : FrmR N w5 v w) (hb : Below w.heap.size w w') : FrmR N w5 v w' :=
  ⟨fun i h1 h2 => (hb.block i (Nat.lt_of_lt_of_le h2 h.size)).trans (h.blk i h1 h2), h.own, Nat.le_trans h.size hb.size⟩
theorem FrmR.app {N : Nat} {w5 w w' : World} {v v' : Value} (h : FrmR N w5 v w) (hg : w.grownBy w' v.ownBlock) (hv : v'.ownBlock = v.ownBlock ∨ v'.ownBlock = some w.heap.size) : FrmR N w5 v' w' :=
  ⟨fun i h1 h2 => (hg.block i (Nat.lt_of_lt_of_le h2 h.size) (fun e => by have := h.own i e.symm; omega)).trans (h.blk i h1 h2), fun k hk => by
    rcases hv with e | e
    · exact h.own k (e ▸ hk)
    · rw [e] at hk; injection hk with hk; subst hk; exact .inr h.size, Nat.le_trans h.size hg.size⟩
end Go.Proofs.YtejkbjcmndnfeaaGreat

/- Contracts: laws.sameInts, laws.sameLists. -/
namespace Go.Proofs.YtejkbjcmndnfeaaGreat
open Go.RowKit

set_option maxHeartbeats 2000000 in
theorem sameInts_any (A A' : Option Addr) (c c' n m : Nat) (xs ys : List Int) (w : World) (hr : Rd w A (xs.map (.int .i64))) (hr' : Rd w A' (ys.map (.int .i64))) (hx : xs.length = n) (hy : ys.length = m) (hn : n ≤ maxLen) (hm : m ≤ maxLen) :
    Calls Tryz.prog 16 #[.slice A n c, .slice A' m c'] w fun e w' => e = .returned (.bool (decide (xs = ys))) ∧ Below w.heap.size w w' := by
  unfold maxLen at hn hm
  have HX := Lib.hid hx
  have HY := Lib.hid hy
  clear hx hy
  by_cases hnm : n = m
  · subst hnm
    go_enter Tryz.func16, Tryz.ntmps16
    go_wp2_with fail
    go_loopw [5] (fun i wr => ∃ k : Nat, k ≤ n ∧ i = .int .i64 k ∧ Hid (∀ j, j < k → xs[j]? = ys[j]?) ∧ Below w.heap.size w wr) (fun i _ => n - (intOf i).toNat)
    case atStart => exact ⟨0, Nat.zero_le _, rfl, Lib.hid (fun j h => absurd h (Nat.not_lt_zero j)), Below.refl _ _⟩
    case round =>
      obtain ⟨k, hk, rfl, HK, hbel⟩ := hrel
      by_cases hlt : k < n
      · have hkx : k < xs.length := by rw [HX.out]; exact hlt
        have hky : k < ys.length := by rw [HY.out]; exact hlt
        obtain ⟨ad, rfl, hc⟩ := (hr.belo hbel).atM hkx
        obtain ⟨ad', rfl, hc'⟩ := (hr'.belo hbel).atM hky
        have HX1 := Lib.hid (List.getElem?_eq_getElem hkx)
        have HY1 := Lib.hid (List.getElem?_eq_getElem hky)
        generalize xs[k] = a at hc HX1
        generalize ys[k] = b at hc' HY1
        clear hkx hky
        by_cases hab : a = b
        · subst hab
          have hne : (a != a) = false := by simp
          go_wp2_with fail
          go_quiet (fail)
          go_wp2_with fail
          go_roundw
          case rel => exact ⟨k + 1, by omega, by go_num, Lib.hid (fun j hj => by
            rcases Nat.lt_or_ge j k with h | h
            · exact HK.out j h
            · obtain rfl : j = k := by omega
              rw [HX1.out, HY1.out]), below_drewN' hbel _⟩
          case measure => simp [intOf]; omega
        · have hne : (a != b) = true := by simpa using hab
          have HD := Lib.hid (show decide (xs = ys) = false from decide_eq_false (fun e => hab (by
            have := HX1.out
            rw [e, HY1.out] at this
            exact (Option.some.inj this).symm)))
          clear hab
          go_wp2_with fail
          go_quiet (fail)
          go_wp2_with fail
          go_ret
          exact ⟨ret_b HD.out.symm, below_drewN' hbel _⟩
      · obtain rfl : k = n := by omega
        have HD := Lib.hid (show decide (xs = ys) = true from decide_eq_true (List.ext_getElem? fun j => by
          rcases Nat.lt_or_ge j k with h | h
          · exact HK.out j h
          · rw [List.getElem?_eq_none (by rw [HX.out]; exact h), List.getElem?_eq_none (by rw [HY.out]; exact h)]))
        go_wp2_with fail
        go_ret
        exact ⟨ret_b HD.out.symm, hbel⟩
  · have HD := Lib.hid (show decide (xs = ys) = false from decide_eq_false (fun e => hnm (by rw [← HX.out, ← HY.out, e])))
    have hne : ((n : Int) != (m : Int)) = true := by simp; omega
    go_enter Tryz.func16, Tryz.ntmps16
    go_wp2_with fail
    go_ret
    exact ⟨ret_b HD.out.symm, Below.refl _ _⟩
set_option maxHeartbeats 2000000 in
theorem sameLists_t (A A' : Option Addr) (c c' : Nat) (V : List (List Int)) (w : World) (hr : RdLL w A V) (hr' : RdLL w A' V) (hn : V.length ≤ maxLen) :
    Calls Tryz.prog 31 #[.slice A V.length c, .slice A' V.length c'] w fun e w' => e = .returned (.bool true) ∧ Below w.heap.size w w' := by
  unfold maxLen at hn
  go_enter Tryz.func31, Tryz.ntmps31
  go_wp2_with fail
  go_loopw [5] (fun i wr => ∃ k : Nat, k ≤ V.length ∧ i = .int .i64 k ∧ Below w.heap.size w wr) (fun i _ => V.length - (intOf i).toNat)
  case atStart => exact ⟨0, Nat.zero_le _, rfl, Below.refl _ _⟩
  case round =>
    obtain ⟨k, hk, rfl, hbel⟩ := hrel
    by_cases hlt : k < V.length
    · obtain ⟨b, off, A1, c1, rfl, h1, -, h3, h4⟩ := (hr.belo hbel).at_ hlt
      obtain ⟨g, goff, A2, c2, rfl, k1, -, k3, k4⟩ := (hr'.belo hbel).at_ hlt
      generalize V[k] = xs at h1 h3 h4 k1 k3 k4
      have gs := World.block_lt_of_cell? wr _ h1
      have gt := World.block_lt_of_cell? wr _ k1
      simp only at gs gt
      have hm : xs.length ≤ maxLen := by unfold maxLen; omega
      have L0 : ∀ z : BW wr, z.wo.cell? ⟨b, off + k, none⟩ = some (.slice A1 xs.length c1) := fun z => z.cell gs h1
      have L1 : ∀ z : BW wr, z.wo.cell? ⟨g, goff + k, none⟩ = some (.slice A2 xs.length c2) := fun z => z.cell gt k1
      go_wp2_with fail
      (refine region_bw (by kernel_rfl) (by kernel_rfl) ?_; (repeat (first | go_big_quiet_skip | (go_big_quiet_want; go_big_quiet_op; first | go_big_quiet_on | (refine ⟨.bool true, fun zz => ?_, ?_⟩; (go_at_call 16; exact zz.on (sameInts_t _ _ _ _ xs _ (h4.belo zz.ok) (k4.belo zz.ok) hm)); go_big_quiet_on)))); refine wpQuiet_nil ?_; intro wz hw'; obtain ⟨zw, hw''⟩ := hw'; subst hw'')
      go_wp2
      go_roundw
      case rel => exact ⟨k + 1, by omega, by go_num, bl_go hbel zw.ok⟩
      case measure => simp [intOf]; omega
    · go_wp2_with fail
      go_ret
      exact ⟨rfl, hbel⟩
end Go.Proofs.YtejkbjcmndnfeaaGreat

/- Contract: the program's FillOk. -/
namespace Go.Proofs.YtejkbjcmndnfeaaGreat
open Go.RowKit Go.Sort

theorem fillOkB_f {W T : Int} {bs : List Bool} {pss : List (List Ce)} {fs : List Int} (h : validB W T bs = false ∨ (decide (pss.length ≤ 6) && piecesB pss) = false ∨ fs.length ≠ bs.length) : fillOkB W T bs pss fs = false := by
  unfold fillOkB
  rcases h with h | h | h
  · rw [h]; rfl
  · rw [h]; simp
  · rw [decide_eq_false h]; simp
theorem fillOkB_t {W T : Int} {bs : List Bool} {pss : List (List Ce)} {fs : List Int} (h1 : validB W T bs = true) (h2 : (decide (pss.length ≤ 6) && piecesB pss) = true) (h3 : fs.length = bs.length) : fillOkB W T bs pss fs = fillB W bs pss fs := by
  unfold fillOkB; rw [h1, h2, decide_eq_true h3]; rfl
theorem got_zero (m : Nat) : ∀ n, n < m → ((madeCells (Value.slice none 0 0).cells (m * 1)).toList)[n]? = some (.slice none 0 0) := fun n hn => by
  rw [show (Value.slice none 0 0).cells = #[.slice none 0 0] from rfl, toList_madeCells_one]
  simp [hn]
set_option maxRecDepth 100000 in
set_option maxHeartbeats 2000000 in
theorem iFillOk_f (W T : Int) (A A' A9 : Option Addr) (c c' c9 : Nat) (bs : List Bool) (pss : List (List Ce)) (fs : List Int) (w : World) (hr : Rd w A (bs.map .bool)) (hn : bs.length ≤ maxLen) (hr' : RdSS w A' pss) (hn' : pss.length ≤ maxLen) (_hn9 : fs.length ≤ maxLen)
    (h : validB W T bs = false ∨ (decide (pss.length ≤ 6) && piecesB pss) = false ∨ fs.length ≠ bs.length) :
    Calls Tryz.prog 12 #[.agg #[.int .i64 W, .int .i64 T, .slice A bs.length c], .slice A' pss.length c', .slice A9 fs.length c9] w fun e w' => e = .returned (.bool (fillOkB W T bs pss fs)) ∧ Below w.heap.size w w' := by
  rw [fillOkB_f h]
  have X0 := C3.new w (.int .i64 W) (.int .i64 T) (.slice A bs.length c) 25
  have Z0 := bl_alloc (Below.refl w.heap.size w) (.cells #[.int .i64 W, .int .i64 T, .slice A bs.length c] 25)
  obtain ⟨x0, x1, x2⟩ := id X0
  cases hv : validB W T bs with
  | false =>
    have HV := Lib.hid hv
    clear hv h
    go_enter Tryz.func12, Tryz.ntmps12
    go_wp2_with fail
    refine (iRegionValid_any W T A c bs _ (hr.alloc _) hn).mono ?_
    rintro e w1 ⟨rfl, b1⟩
    rw [HV.out]
    have Z1 := bl_go Z0 b1
    clear x0 x1 x2
    obtain ⟨x0, x1, x2⟩ := X0.belo b1
    go_wp2_with fail
    go_ret
    exact ⟨rfl, Z1⟩
  | true =>
    have HV := Lib.hid hv
    clear hv
    cases hp : (decide (pss.length ≤ 6) && piecesB pss) with
    | false =>
      have HP := Lib.hid hp
      clear hp h
      go_enter Tryz.func12, Tryz.ntmps12
      go_wp2_with fail
      refine (iRegionValid_any W T A c bs _ (hr.alloc _) hn).mono ?_
      rintro e w1 ⟨rfl, b1⟩
      rw [HV.out]
      have Z1 := bl_go Z0 b1
      have R1 := hr'.belo Z1
      have X1 := X0.belo b1
      clear x0 x1 x2 X0 b1 Z0
      obtain ⟨x0, x1, x2⟩ := id X1
      go_wp2_with fail
      refine (iPiecesValid_any _ _ _ _ R1 hn').mono ?_
      rintro e w2 ⟨rfl, b2⟩
      rw [HP.out]
      have Z2 := bl_go Z1 b2
      clear x0 x1 x2
      obtain ⟨x0, x1, x2⟩ := X1.belo b2
      go_wp2_with fail
      go_ret
      exact ⟨rfl, Z2⟩
    | true =>
      have HP := Lib.hid hp
      have hne : fs.length ≠ bs.length := by
        rcases h with h | h | h
        · rw [HV.out] at h; cases h
        · rw [hp] at h; cases h
        · exact h
      have hbe : ((fs.length : Int) == (bs.length : Int)) = false := by rw [beq_eq_false_iff_ne]; omega
      clear hp h hne
      go_enter Tryz.func12, Tryz.ntmps12
      go_wp2_with fail
      refine (iRegionValid_any W T A c bs _ (hr.alloc _) hn).mono ?_
      rintro e w1 ⟨rfl, b1⟩
      rw [HV.out]
      have Z1 := bl_go Z0 b1
      have R1 := hr'.belo Z1
      have X1 := X0.belo b1
      clear x0 x1 x2 X0 b1 Z0
      obtain ⟨x0, x1, x2⟩ := id X1
      go_wp2_with fail
      refine (iPiecesValid_any _ _ _ _ R1 hn').mono ?_
      rintro e w2 ⟨rfl, b2⟩
      rw [HP.out]
      have Z2 := bl_go Z1 b2
      clear x0 x1 x2
      obtain ⟨x0, x1, x2⟩ := X1.belo b2
      go_wp2_with fail
      go_ret
      exact ⟨rfl, Z2⟩
set_option maxRecDepth 100000 in
set_option maxHeartbeats 8000000 in
theorem iFillOk_t (W T : Int) (A A' A9 : Option Addr) (c c' c9 : Nat) (bs : List Bool) (pss : List (List Ce)) (fs : List Int) (w : World) (hr : Rd w A (bs.map .bool)) (hn : bs.length ≤ maxLen) (hr' : RdSS w A' pss) (hn' : pss.length ≤ maxLen) (hr9 : Rd w A9 (fs.map (.int .i64)))
    (hv : validB W T bs = true) (hp : (decide (pss.length ≤ 6) && piecesB pss) = true) (hl : fs.length = bs.length) :
    Calls Tryz.prog 12 #[.agg #[.int .i64 W, .int .i64 T, .slice A bs.length c], .slice A' pss.length c', .slice A9 bs.length c9] w fun e w' => e = .returned (.bool (fillB W bs pss fs)) ∧ Below w.heap.size w w' := by
  have X0 := C3.new w (.int .i64 W) (.int .i64 T) (.slice A bs.length c) 25
  have Z0 := bl_alloc (Below.refl w.heap.size w) (.cells #[.int .i64 W, .int .i64 T, .slice A bs.length c] 25)
  obtain ⟨x0, x1, x2⟩ := id X0
  have HV := Lib.hid hv
  have HP := Lib.hid hp
  have HL := Lib.hid hl
  have m6 : pss.length ≤ 6 := by rw [Bool.and_eq_true, decide_eq_true_eq] at hp; exact hp.1
  obtain ⟨⟨q1, q6⟩, ⟨t1, t6⟩, hlen, -⟩ := validB_iff.1 hv
  have n36 : bs.length ≤ 36 := by have := mul_bd q1 q6 t1 t6; omega
  have hbe : ((bs.length : Int) == (bs.length : Int)) = true := by simp
  obtain ⟨i0, hi, hz0, hz1, hz2⟩ := info_parts Tryz.infoSC
  have hb1 : i0.bytes * pss.length ≤ 281474976710656 := by rw [hz2]; omega
  have HZ := Lib.hid (And.intro hz0 (And.intro hz1 hz2))
  clear hv hp hl hlen t1 t6 hz0 hz1 hz2
  go_enter Tryz.func12, Tryz.ntmps12
  go_wp2_with fail
  refine (iRegionValid_any W T A c bs _ (hr.alloc _) hn).mono ?_
  rintro e w1 ⟨rfl, b1⟩
  rw [HV.out]
  have Z1 := bl_go Z0 b1
  have R1 := hr'.belo Z1
  have X1 := X0.belo b1
  clear x0 x1 x2 X0 b1 Z0
  obtain ⟨x0, x1, x2⟩ := id X1
  go_wp2_with fail
  refine (iPiecesValid_any _ _ _ _ R1 hn').mono ?_
  rintro e w2 ⟨rfl, b2⟩
  rw [HP.out]
  have Z2 := bl_go Z1 b2
  have X2 := X1.belo b2
  clear x0 x1 x2 X1 Z1 R1 b2
  obtain ⟨x0, x1, x2⟩ := id X2
  have r2 := hr.belo Z2
  have r2' := hr'.belo Z2
  have r29 := hr9.belo Z2
  clear hr hr' hr9
  go_wp2_with (at_make; refine wpList_make_full _ rfl _ _ 26 rfl w2.heap.size 32 i0 (.slice none 0 0) 1 Tryz.underlying26 hi HZ.out.1 HZ.out.2.1 .i64 .i64 _ _ pss.length rfl rfl rfl rfl hb1 (by unfold maxLen; omega) (Nat.le_refl _) ?_; intro w3 hown3 hgrow3)
  have G3 := GotS.start hown3 (got_zero _)
  have Z3 : Below w2.heap.size w2 w3 := (Below.refl _ _).grown hgrow3 (Nat.le_refl _) (fun k hk => by cases hk)
  clear hown3 hgrow3 x0 x1 x2
  go_loopw [35] (fun i wr => ∃ (k : Nat) (L : List Value), k ≤ bs.length ∧ i = .int .i64 k ∧ GotS wr w2.heap.size pss.length L (fun n : Nat => cellsT W fs n k) ∧ Hid (∀ j (h : j < bs.length) (h2 : j < fs.length), j < k → cellOk pss.length bs[j] fs[j]) ∧ Below w2.heap.size w2 wr) (fun i _ => bs.length - (intOf i).toNat)
  case atStart => exact ⟨0, _, Nat.zero_le _, rfl, G3, fun j _ _ h => by omega, Z3⟩
  case round =>
    clear Z3 G3
    obtain ⟨k, L, hk, rfl, GS, HK, Z4⟩ := hrel
    obtain ⟨x0, x1, x2⟩ := X2.belo Z4
    by_cases hlt : k < bs.length
    · have kf : k < fs.length := by rw [HL.out]; exact hlt
      obtain ⟨b, off, rfl, cb⟩ := (r2.belo Z4).atEM hlt
      obtain ⟨b9, off9, rfl, cf⟩ := (r29.belo Z4).atEM kf
      obtain ⟨f, hf⟩ : ∃ f, fs[k] = f := ⟨_, rfl⟩
      rw [hf] at cf
      have HF := Lib.hid hf
      have HFQ := Lib.hid (show fs[k]? = some f by rw [List.getElem?_eq_getElem kf, hf])
      clear hf
      cases hb : bs[k] with
      | false =>
        rw [hb] at cb
        have HB := Lib.hid hb
        clear hb
        cases hv1 : (f == -1) with
        | true =>
          have hfe : f = -1 := by simpa using hv1
          have HOK := Lib.hid (show cellOk pss.length bs[k] fs[k] by rw [HB.out, HF.out]; exact ⟨fun e => (by cases e), fun _ => hfe⟩)
          have hge : decide (0 ≤ f) = false := by simp; omega
          clear hfe
          go_wp2_with fail
          go_roundw
          case rel =>
            refine ⟨k + 1, L, by omega, by go_num, GS.cast (fun n _ => (cellsT_no (by rw [HFQ.out]; intro e; injection e with e; rw [beq_iff_eq] at hv1; omega)).symm), fun j h h2 h3 => ?_, Z4⟩
            rcases Nat.lt_or_ge j k with h4 | h4
            · exact HK.out j h h2 h4
            · obtain rfl : j = k := by omega
              exact HOK.out
          case measure => simp [intOf]; omega
        | false =>
          have HNO := Lib.hid (fillB_f1 (W := W) (bs := bs) (pss := pss) (fs := fs) k hlt (by rw [HL.out]; exact hlt) (by rw [HB.out, HF.out]; intro h; have := h.2 rfl; rw [this] at hv1; simp at hv1))
          go_wp2_with fail
          go_ret
          exact ⟨ret_b HNO.out.symm, bl_go Z2 Z4⟩
      | true =>
        rw [hb] at cb
        have HB := Lib.hid hb
        clear hb
        by_cases hin : 0 ≤ f ∧ f ≤ (pss.length : Int) - 1
        · obtain ⟨fn, rfl⟩ := Int.eq_ofNat_of_zero_le hin.1
          have hfm : fn < pss.length := by omega
          have HOK := Lib.hid (show cellOk pss.length bs[k] fs[k] by rw [HB.out, HF.out]; exact ⟨fun _ => hin, fun e => by cases e⟩)
          have hge : decide (0 ≤ (fn : Int)) = true := by simp
          obtain ⟨i1, i2⟩ := hin
          go_wp2_with (go_at_call 67; refine (in_t _ _ _ _ i1 i2).mono ?_; rintro e w' ⟨rfl, rfl⟩)
          refine (xy_any W T _ k _ q1 q6 (by omega) (by omega)).mono ?_
          rintro e w5 ⟨rfl, b5⟩
          have G5 := GS.belo b5
          obtain ⟨y0, y1, y2⟩ := X2.belo (bl_go Z4 b5)
          obtain ⟨A5, c5, hL5, o5, d5, f5, cap5, lt5⟩ := G5.at_ hfm
          have hcl := cellsT_len W fs fn k
          have BA := bl_alloc (Below.refl w5.heap.size w5) (.cells #[.int .i64 ((k : Int) % W), .int .i64 ((k : Int) / W)] 89)
          go_wp2_with (at_builtin; refine wpList_cell1 _ rfl _ _ rfl (w2.heap.size + 1) (.slice A5 (cellsT W fs fn k).length c5) (cellsT W fs fn k) rfl (o5.alloc _) _ _ w5.heap.size rfl (cell_of_row _ _ _ _ _ _ (heap_alloc_new w5 _)) (cell_of_row _ _ _ _ _ _ (heap_alloc_new w5 _)) (by omega) (by simp; omega) ?_; intro A6 c6 w6 o6 g6 e6; obtain ⟨p6, s6⟩ := G5.row2 BA hfm hL5 g6)
          go_roundw
          case rel =>
            refine ⟨k + 1, _, by omega, by go_num, (G5.put BA hfm hL5 o6 g6 e6).cast (fun n _ => ?_), fun j h h2 h3 => ?_, G5.below (bl_go Z4 b5) (Nat.le_refl _) BA hfm hL5 g6 (by omega)⟩
            · by_cases hnf : n = fn
              · rw [if_pos hnf, hnf]; exact (cellsT_yes HFQ.out).symm
              · rw [if_neg hnf]; exact (cellsT_no (by rw [HFQ.out]; intro e; injection e with e; omega)).symm
            · rcases Nat.lt_or_ge j k with h4 | h4
              · exact HK.out j h h2 h4
              · obtain rfl : j = k := by omega
                exact HOK.out
          case measure => simp [intOf]; omega
        · have HNO := Lib.hid (fillB_f1 (W := W) (bs := bs) (pss := pss) (fs := fs) k hlt (by rw [HL.out]; exact hlt) (by rw [HB.out, HF.out]; intro h; exact hin (h.1 rfl)))
          have hout : f < 0 ∨ (pss.length : Int) - 1 < f := by omega
          go_wp2_with (go_at_call 67; refine (in_f _ _ _ _ hout).mono ?_; rintro e w' ⟨rfl, rfl⟩)
          go_ret
          exact ⟨ret_b HNO.out.symm, bl_go Z2 Z4⟩
    · obtain rfl : k = bs.length := by omega
      have HD := Lib.hid (show fillD pss.length bs fs from fun j h h2 => HK.out j h h2 h)
      have HCC := Lib.hid (fun n : Nat => show cellsT W fs n bs.length = cellsT W fs n fs.length by rw [HL.out])
      have r4 := r2'.belo Z4
      have Z5 := bl_go Z2 Z4
      clear x0 x1 x2 HK hk r2 r2' r29 X2 Z2 Z4
      obtain ⟨w4, hw4⟩ : ∃ w4 : World, w4 = wr := ⟨_, rfl⟩
      subst hw4
      go_wp2_with fail
      go_loopw [88] (fun i wr => ∃ k : Nat, k ≤ pss.length ∧ i = .int .i64 k ∧ Hid (∀ j (h : j < pss.length), j < k → sameV pss[j] (cellsT W fs j fs.length) = true) ∧ Below w4.heap.size w4 wr) (fun i _ => pss.length - (intOf i).toNat)
      case atStart => exact ⟨0, Nat.zero_le _, rfl, fun j _ h => by omega, Below.refl _ _⟩
      case round =>
        obtain ⟨k, hk, rfl, HK, Z6⟩ := hrel
        by_cases hlt : k < pss.length
        · obtain ⟨b, off, A', c1, rfl, h1, h2, h3, h4⟩ := (r4.belo Z6) k hlt
          obtain ⟨A5, c5, -, o5, d5, -, cap5, -⟩ := (GS.belo Z6).at_ hlt
          have hcl := cellsT_len W fs k bs.length
          obtain ⟨ps, hps⟩ : ∃ ps, pss[k] = ps := ⟨_, rfl⟩
          have HPS := Lib.hid hps
          rw [hps] at h1 h2 h3 h4
          clear hps
          have CC := Lib.hid (fun (z : World) (R : RdC z A' ps) (R' : RdC z A5 (cellsT W fs k bs.length)) => iSamePiece_any A' A5 c1 c5 ps (cellsT W fs k bs.length) z R R' h3 (by unfold maxLen; omega) h2 cap5)
          have R5 := o5.rd
          have SV := Lib.hid (show sameV ps (cellsT W fs k bs.length) = sameV pss[k] (cellsT W fs k fs.length) by rw [HPS.out, HCC.out])
          cases hs : sameV ps (cellsT W fs k bs.length) with
          | true =>
            have HS := Lib.hid hs
            clear hs h2 h3 cap5 o5
            go_wp2_with fail
            refine (CC.out _ h4 R5).mono ?_
            rintro e w7 ⟨rfl, b7⟩
            rw [HS.out]
            go_wp2_with fail
            go_roundw
            case rel =>
              refine ⟨k + 1, by omega, by go_num, fun j h h5 => ?_, bl_go Z6 b7⟩
              rcases Nat.lt_or_ge j k with h6 | h6
              · exact HK.out j h h6
              · obtain rfl : j = k := by omega
                rw [← SV.out, HS.out]
            case measure => simp [intOf]; omega
          | false =>
            have HS := Lib.hid hs
            have HNO := Lib.hid (fillB_f2 (W := W) (bs := bs) (pss := pss) (fs := fs) k hlt (by rw [← SV.out, hs]))
            clear hs h2 h3 cap5 o5
            go_wp2_with fail
            refine (CC.out _ h4 R5).mono ?_
            rintro e w7 ⟨rfl, b7⟩
            rw [HS.out]
            go_wp2_with fail
            go_ret
            exact ⟨ret_b HNO.out.symm, bl_go Z5 (bl_go Z6 b7)⟩
        · obtain rfl : k = pss.length := by omega
          have HB := Lib.hid (fillB_t (W := W) (bs := bs) (pss := pss) (fs := fs) HD.out (fun n h => HK.out n h h))
          go_wp2_with fail
          go_ret
          exact ⟨ret_b HB.out.symm, bl_go Z5 Z6⟩
/-- whether a list fills a region -/
theorem iFillOk_any (W T : Int) (A A' A9 : Option Addr) (c c' c9 : Nat) (bs : List Bool) (pss : List (List Ce)) (fs : List Int) (w : World) (hr : Rd w A (bs.map .bool)) (hn : bs.length ≤ maxLen) (hr' : RdSS w A' pss) (hn' : pss.length ≤ maxLen) (hr9 : Rd w A9 (fs.map (.int .i64))) (hn9 : fs.length ≤ maxLen) :
    Calls Tryz.prog 12 #[.agg #[.int .i64 W, .int .i64 T, .slice A bs.length c], .slice A' pss.length c', .slice A9 fs.length c9] w fun e w' => e = .returned (.bool (fillOkB W T bs pss fs)) ∧ Below w.heap.size w w' := by
  by_cases h : validB W T bs = false ∨ (decide (pss.length ≤ 6) && piecesB pss) = false ∨ fs.length ≠ bs.length
  · exact iFillOk_f W T A A' A9 c c' c9 bs pss fs w hr hn hr' hn' hn9 h
  · have h1 : validB W T bs = true := by simpa using fun e => h (.inl e)
    have h2 : (decide (pss.length ≤ 6) && piecesB pss) = true := by
      cases e : (decide (pss.length ≤ 6) && piecesB pss) with
      | true => rfl
      | false => exact absurd (.inr (.inl e)) h
    have h3 : fs.length = bs.length := Classical.byContradiction fun e => h (.inr (.inr e))
    rw [fillOkB_t h1 h2 h3, h3]
    exact iFillOk_t W T A A' A9 c c' c9 bs pss fs w hr hn hr' hn' hr9 h1 h2 h3
end Go.Proofs.YtejkbjcmndnfeaaGreat

/- All pieces of so many cells, plainly. -/
namespace Go.Proofs.YtejkbjcmndnfeaaGreat

/-! ### Sorting that the kernel can run -/
def insC (c : Ce) : List Ce → List Ce
  | [] => [c]
  | d :: l => if ltC c d = true then c :: d :: l else d :: insC c l
def isortC : List Ce → List Ce
  | [] => []
  | c :: l => insC c (isortC l)
theorem insC_perm (c : Ce) (l : List Ce) : (insC c l).Perm (c :: l) := by
  induction l with
  | nil => exact List.Perm.refl _
  | cons d l ih =>
    unfold insC
    split
    · exact List.Perm.refl _
    · exact (ih.cons d).trans (List.Perm.swap c d l)
theorem isortC_perm (l : List Ce) : (isortC l).Perm l := by
  induction l with
  | nil => exact List.Perm.refl _
  | cons c l ih => exact (insC_perm c _).trans (ih.cons c)
theorem ltC_asymm {a b : Ce} (h : ltC a b = true) : ltC b a = false := by
  unfold ltC at *
  simp only [decide_eq_true_eq, decide_eq_false_iff_not] at *
  omega
theorem ltC_ntrans {a b c : Ce} (h1 : ltC b a = false) (h2 : ltC c b = false) : ltC c a = false := by
  unfold ltC at *
  simp only [decide_eq_false_iff_not] at *
  omega
theorem insC_pw {c : Ce} {l : List Ce} (h : l.Pairwise fun x y => ltC y x = false) : (insC c l).Pairwise fun x y => ltC y x = false := by
  induction l with
  | nil => simp [insC]
  | cons d l ih =>
    obtain ⟨h1, h2⟩ := List.pairwise_cons.1 h
    unfold insC
    split
    · rename_i hcd
      refine List.pairwise_cons.2 ⟨fun z hz => ?_, h⟩
      rcases List.mem_cons.1 hz with rfl | hz
      · exact ltC_asymm hcd
      · exact ltC_ntrans (ltC_asymm hcd) (h1 z hz)
    · rename_i hcd
      refine List.pairwise_cons.2 ⟨fun z hz => ?_, ih h2⟩
      rcases List.mem_cons.1 ((insC_perm c l).mem_iff.1 hz) with rfl | hz
      · simpa using hcd
      · exact h1 z hz
theorem isortC_pw (l : List Ce) : (isortC l).Pairwise fun x y => ltC y x = false := by
  induction l with
  | nil => simp [isortC]
  | cons c l ih => exact insC_pw ih
theorem isort_eq (l : List Ce) : isortC l = sortC l := sortC_unique (isortC_perm l) (isortC_pw l)
def mvdK (ps : List Ce) : List Ce := isortC (ps.map (subC (loP ps)))
theorem mvdK_eq (ps : List Ce) : mvdK ps = mvd ps := isort_eq _
def formsK (ps : List Ce) : List (List Ce) := [mvdK (ps.map (turnN 0)), mvdK (ps.map (turnN 1)), mvdK (ps.map (turnN 2)), mvdK (ps.map (turnN 3)), mvdK (ps.map (turnFlip 0)), mvdK (ps.map (turnFlip 1)), mvdK (ps.map (turnFlip 2)), mvdK (ps.map (turnFlip 3))]
theorem formsK_eq (ps : List Ce) : formsK ps = formsF ps := by
  unfold formsK
  simp only [mvdK_eq]
  rfl
def firstK (ps : List Ce) : List Ce := (incOf (formsK ps)).headD []
theorem firstK_eq {ps : List Ce} (h : PieceOk ps) : firstV ps = firstK ps := by
  unfold firstV firstK
  rw [formsV_ok h, formsK_eq]

/-! ### Grown by a cell -/
def nearC (c : Ce) : List Ce := [(c.1 + 1, c.2), (c.1, c.2 + 1), (c.1 - 1, c.2), (c.1, c.2 - 1)]
theorem near_adj {c x : Ce} (h : x ∈ nearC c) : adjC x c := by
  obtain ⟨x1, x2⟩ := x
  obtain ⟨c1, c2⟩ := c
  unfold nearC at h
  simp only [List.mem_cons, Prod.mk.injEq, List.not_mem_nil, or_false] at h
  unfold adjC
  simp only
  omega
theorem adj_near {c x : Ce} (h : adjC x c) : x ∈ nearC c := by
  obtain ⟨x1, x2⟩ := x
  obtain ⟨c1, c2⟩ := c
  unfold adjC at h
  simp only at h
  unfold nearC
  simp only [List.mem_cons, Prod.mk.injEq, List.not_mem_nil, or_false]
  omega
/-- the new cells at one cell, those that the piece has left out -/
def newsC (p : List Ce) (c : Ce) : List Ce := (nearC c).filter fun x => !decide (x ∈ p)
/-- all pieces with a cell more, and their first forms -/
noncomputable def growV (p : List Ce) : List (List Ce) := p.flatMap fun c => (newsC p c).map fun x => firstV (p ++ [x])
noncomputable def growL (L : List (List Ce)) : List (List Ce) := L.flatMap growV
noncomputable def allP : Nat → List (List Ce)
  | 0 => []
  | 1 => [[(0, 0)]]
  | n + 2 => incOf (growL (allP (n + 1)))
def growK (p : List Ce) : List (List Ce) := p.flatMap fun c => (newsC p c).map fun x => firstK (p ++ [x])
def allK : Nat → List (List Ce)
  | 0 => []
  | 1 => [[(0, 0)]]
  | n + 2 => incOf ((allK (n + 1)).flatMap growK)
theorem ok_snoc {p : List Ce} (h : PieceOk p) (hl : p.length < 5) {c x : Ce} (hc : c ∈ p) (hx : adjC x c) (hn : x ∉ p) (hb : ∀ d ∈ p, -8 ≤ d.1 ∧ d.1 ≤ 8 ∧ -8 ≤ d.2 ∧ d.2 ≤ 8) : PieceOk (p ++ [x]) := by
  obtain ⟨⟨l1, l2⟩, h2, h3, h4⟩ := h
  have hh : (p ++ [x]).headD (0, 0) = p.headD (0, 0) := by
    cases p with
    | nil => simp at l1
    | cons a l => rfl
  refine ⟨⟨by simp, by simp; omega⟩, ?_, ?_, ?_⟩
  · intro d hd
    rcases List.mem_append.1 hd with hd | hd
    · exact h2 d hd
    · simp at hd
      subst hd
      have := hb c hc
      unfold adjC at hx
      omega
  · rw [List.nodup_append]
    refine ⟨h3, by simp, fun a ha b hb e => ?_⟩
    simp at hb
    subst hb; subst e
    exact hn ha
  · rw [hh]
    intro a ha
    have hr : ∀ b ∈ p, ReachC (p ++ [x]) (p.headD (0, 0)) b := fun b hb => reach_mono (h4 b hb) (fun y hy => List.mem_append_left _ hy)
    rcases List.mem_append.1 ha with ha | ha
    · exact hr a ha
    · simp at ha
      subst ha
      exact .step c _ (hr c hc) (by simp) hx
/-- moved: near the edge -/
def Edge (p : List Ce) : Prop := ∀ d ∈ p, 0 ≤ d.1 ∧ d.1 ≤ 4 ∧ 0 ≤ d.2 ∧ d.2 ≤ 4
theorem mvd_edge {p : List Ce} (h : PieceOk p) : Edge (mvd p) := by
  intro d hd
  obtain ⟨⟨l1, l2⟩, -, -, h4⟩ := h
  have hne : p ≠ [] := by rintro rfl; simp at l1
  obtain ⟨c, hc, rfl⟩ := List.mem_map.1 ((mvd_perm0 p).mem_iff.1 hd)
  obtain ⟨⟨u, hu, e1⟩, ⟨v, hv, e2⟩⟩ := lo_att hne p.length (Nat.le_refl _)
  have hsp : p.headD (0, 0) ∈ p := by cases p with | nil => simp at l1 | cons a l => simp
  have r1 := reach_w l2 (reach_trans (reach_symm (h4 u hu) hsp) (h4 c hc)) hu
  have r2 := reach_w l2 (reach_trans (reach_symm (h4 v hv) hsp) (h4 c hc)) hv
  have k := loP_le p c hc
  unfold loP at *
  unfold subC
  simp only
  omega
theorem form_edge {p x : List Ce} (hx : x ∈ formsV p) : Edge x := by
  have h := ok_of_pieceB (formsV_each hx).2
  rw [formsV_ok h, incOf_mem, walkF_mem] at hx
  obtain ⟨k, hk, rfl⟩ := hx
  unfold walkF
  split
  · exact mvd_edge (ok_turnN h k)
  · exact mvd_edge (ok_turnFlip h _)
structure AllOk (n : Nat) (p : List Ce) : Prop where
  ok : PieceOk p
  len : p.length = n
  edge : Edge p
  first : firstV p = p
theorem first_first {p : List Ce} (h : PieceOk p) : firstV (firstV p) = firstV p := by
  have := (forms_of_form (first_mem h)).1
  show (formsV (firstV p)).headD [] = _
  rw [this]; rfl
theorem first_ok {p : List Ce} (h : PieceOk p) : AllOk p.length (firstV p) :=
  ⟨(forms_of_form (first_mem h)).2, first_len h, form_edge (first_mem h), first_first h⟩
theorem one_ok : AllOk 1 [(0, 0)] := by
  have h : PieceOk [((0 : Int), (0 : Int))] := by
    refine ⟨⟨by simp, by simp⟩, ?_, by simp, ?_⟩
    · intro c hc; simp at hc; subst hc; simp
    · intro a ha; simp at ha; subst ha; exact .base
  refine ⟨h, rfl, ?_, ?_⟩
  · intro c hc; simp at hc; subst hc; simp
  · rw [firstK_eq h]; decide +kernel
theorem grow_ok {n : Nat} {p : List Ce} (h : AllOk n p) (hn : n < 5) {c x : Ce} (hc : c ∈ p) (hx : x ∈ newsC p c) : PieceOk (p ++ [x]) := by
  unfold newsC at hx
  rw [List.mem_filter] at hx
  refine ok_snoc h.ok (by rw [h.len]; exact hn) hc (near_adj hx.1) (by simpa using hx.2) (fun d hd => ?_)
  have := h.edge d hd
  omega
theorem allP_ok : ∀ n, n ≤ 5 → ∀ p ∈ allP n, AllOk n p
  | 0, _, p, hp => by simp [allP] at hp
  | 1, _, p, hp => by simp [allP] at hp; subst hp; exact one_ok
  | n + 2, hn, p, hp => by
    unfold allP at hp
    rw [incOf_mem] at hp
    unfold growL growV at hp
    rw [List.mem_flatMap] at hp
    obtain ⟨q, hq, hp⟩ := hp
    rw [List.mem_flatMap] at hp
    obtain ⟨c, hc, hp⟩ := hp
    rw [List.mem_map] at hp
    obtain ⟨x, hx, rfl⟩ := hp
    have hqo := allP_ok (n + 1) (by omega) q hq
    have hok := grow_ok hqo (by omega) hc hx
    have := first_ok hok
    rw [show (q ++ [x]).length = n + 2 by rw [List.length_append, hqo.len]; rfl] at this
    exact this
theorem allP_inc : ∀ n, Inc (allP n)
  | 0 => by simp [allP, Inc]
  | 1 => by simp [allP, Inc]
  | n + 2 => by unfold allP; exact incOf_inc _
theorem growV_eq {n : Nat} {p : List Ce} (h : AllOk n p) (hn : n < 5) : growV p = growK p := by
  have hm : ∀ {α β : Type} (l : List α) (f g : α → List β), (∀ a ∈ l, f a = g a) → l.flatMap f = l.flatMap g := fun l f g hfg => by
    rw [List.flatMap_def, List.flatMap_def, List.map_congr_left hfg]
  unfold growV growK
  refine hm _ _ _ (fun c hc => List.map_congr_left (fun x hx => firstK_eq (grow_ok h hn hc hx)))
theorem allP_eq : ∀ n, n ≤ 5 → allP n = allK n
  | 0, _ => rfl
  | 1, _ => rfl
  | n + 2, hn => by
    have hm : ∀ {α β : Type} (l : List α) (f g : α → List β), (∀ a ∈ l, f a = g a) → l.flatMap f = l.flatMap g := fun l f g hfg => by
      rw [List.flatMap_def, List.flatMap_def, List.map_congr_left hfg]
    unfold allP allK growL
    rw [← allP_eq (n + 1) (by omega)]
    rw [hm _ _ _ (fun p hp => growV_eq (allP_ok (n + 1) (by omega) p hp) (by omega))]
theorem all_len : (allP 1).length = 1 ∧ (allP 2).length = 1 ∧ (allP 3).length = 2 ∧ (allP 4).length = 5 ∧ (allP 5).length = 12 := by
  rw [allP_eq 1 (by omega), allP_eq 2 (by omega), allP_eq 3 (by omega), allP_eq 4 (by omega), allP_eq 5 (by omega)]
  decide +kernel
theorem all_apart {n : Nat} (hn : n ≤ 5) {a b : List Ce} (ha : a ∈ allP n) (hb : b ∈ allP n) (h : firstV a = firstV b) : a = b := by
  rw [← (allP_ok n hn a ha).first, h, (allP_ok n hn b hb).first]
end Go.Proofs.YtejkbjcmndnfeaaGreat

/- Contract: the closure that fills a region with pieces. -/
namespace Go.Proofs.YtejkbjcmndnfeaaGreat
open Go.RowKit Go.Sort

def FlRes (w0 : World) (B F U bF bO bU bK n P cF cU : Nat) (Kv : Value) (fill : List Int) (used : List Bool) (v : Value) (L : List (List Int)) (w : World) (e : Ending) (w' : World) : Prop :=
  e = .returned (.tuple #[]) ∧ ∃ v' xs', FlSt w0 B F U bF bO bU bK n P cF cU Kv fill used v' xs' L w' ∧ FrmF F U bO v w v' w'
def FlOk (W T : Int) (bs : List Bool) (pss : List (List Ce)) (bR bP bA : Nat) (w0 : World) (B F U bF bO bU bK n cF cU : Nat) (Kv : Value) (m : Nat) : Prop :=
  ∀ (w : World) (fill : List Int) (used : List Bool) (v : Value) (xs : List Value) (L : List (List Int)), FlSt w0 B F U bF bO bU bK n pss.length cF cU Kv fill used v xs L w → StF bs pss.length fill used → unN used ≤ m →
    L.length + (fillsN W T bs pss false m fill used).length ≤ 900000000000 →
    Calls Tryz.prog 76 #[.pointer (some ⟨bF, 0, none⟩), .pointer (some ⟨bR, 0, none⟩), .pointer (some ⟨bO, 0, none⟩), .pointer (some ⟨bP, 0, none⟩), .pointer (some ⟨bA, 0, none⟩), .pointer (some ⟨bU, 0, none⟩), .pointer (some ⟨bK, 0, none⟩)] w
      (FlRes w0 B F U bF bO bU bK n pss.length cF cU Kv fill used v (L ++ fillsN W T bs pss false m fill used) w)
set_option maxRecDepth 100000 in
set_option maxHeartbeats 8000000 in
theorem fl_step {W T : Int} {n c0 : Nat} {bs : List Bool} {A : Option Addr} {pss : List (List Ce)} {A' : Option Addr} {c' : Nat} {AA : Option Addr} {cA bR bP bA : Nat} {w0 : World} {B F U bF bO bU bK cF cU : Nat} {Kv : Value} {m : Nat}
    (C : FlC W T n c0 bs A pss A' c' AA cA bR bP bA w0) (hf : FldF W T bs.length) (hn : bs.length = n) (hp : ∀ k, k < pss.length → PieceOk (pss.getD k [])) (hP6 : pss.length ≤ 6)
    (hK : Kv = .func (.func 76) #[] #[.pointer (some ⟨bF, 0, none⟩), .pointer (some ⟨bR, 0, none⟩), .pointer (some ⟨bO, 0, none⟩), .pointer (some ⟨bP, 0, none⟩), .pointer (some ⟨bA, 0, none⟩), .pointer (some ⟨bU, 0, none⟩), .pointer (some ⟨bK, 0, none⟩)])
    (IH : ∀ m', m = m' + 1 → FlOk W T bs pss bR bP bA w0 B F U bF bO bU bK n cF cU Kv m') : FlOk W T bs pss bR bP bA w0 B F U bF bO bU bK n cF cU Kv m := by
  intro w fill used v xs L S St hu hL
  have n36 : n ≤ 36 := by have := hf.bd; omega
  have n1 : 1 ≤ n := by
    have h1 := Int.mul_le_mul hf.w1 hf.t1 (by omega) (by have := hf.w1; omega)
    have := hf.len
    omega
  have HN := Lib.hid hn
  have HFL := Lib.hid (show fill.length = n by rw [St.len, hn])
  have HIH := Lib.hid IH
  have HU := Lib.hid hu
  have HST := Lib.hid St
  have HL := Lib.hid hL
  have HF := Lib.hid hf
  have HP := Lib.hid hp
  have HK := Lib.hid hK
  clear hn IH hu hL hp hK
  have cfl := S.fl
  obtain ⟨r0, r1, r2⟩ := (C.belo S.ok).box
  go_enter Tryz.func76, Tryz.ntmps76
  go_wp2_with fail
  go_loop [7] (fun v => ∃ k : Nat, k ≤ n ∧ v = .int .i64 k ∧ Hid (∀ j, j < k → freK bs fill j = false)) (fun v => n - (intOf v).toNat)
  case atStart => exact ⟨0, Nat.zero_le _, rfl, fun j h => by omega⟩
  case round =>
    obtain ⟨k, hk, rfl, HKF⟩ := hrel
    by_cases hlt : k < n
    · have kb : k < bs.length := by have := HN.out; omega
      have kf : k < fill.length := by have := HFL.out; omega
      obtain ⟨b, off, rfl, cb⟩ := (C.belo S.ok).rd.atEM kb
      have cf := S.fil.rd.cellEM (k := k) kf
      simp only [Nat.zero_add] at cf
      have kI : (k : Int) < (n : Int) := by omega
      have HG1 := Lib.hid (show bs.getD k false = bs[k] by rw [List.getD_eq_getElem?_getD, List.getElem?_eq_getElem kb]; rfl)
      have HG2 := Lib.hid (show fill.getD k 0 = fill[k] by rw [List.getD_eq_getElem?_getD, List.getElem?_eq_getElem kf]; rfl)
      obtain ⟨bb, hbb⟩ : ∃ bb, bs[k] = bb := ⟨_, rfl⟩
      obtain ⟨ff, hff⟩ : ∃ ff, fill[k] = ff := ⟨_, rfl⟩
      rw [hbb] at cb HG1
      rw [hff] at cf HG2
      clear hbb hff
      cases bb with
      | false =>
        have HF := Lib.hid (show freK bs fill k = false by unfold freK; rw [HG1.out]; rfl)
        go_wp2_with fail
        go_round
        case rel =>
          refine ⟨k + 1, by omega, by go_num, fun j hj => ?_⟩
          rcases Nat.lt_or_ge j k with h | h
          · exact HKF.out j h
          · obtain rfl : j = k := by omega
            exact HF.out
        case measure => simp [intOf]; omega
      | true =>
        cases hge : decide (0 ≤ ff) with
        | true =>
          have hge' : 0 ≤ ff := of_decide_eq_true hge
          have HF := Lib.hid (show freK bs fill k = false by unfold freK; rw [HG1.out, HG2.out, decide_eq_false (by omega)]; rfl)
          go_wp2_with fail
          go_round
          case rel =>
            refine ⟨k + 1, by omega, by go_num, fun j hj => ?_⟩
            rcases Nat.lt_or_ge j k with h | h
            · exact HKF.out j h
            · obtain rfl : j = k := by omega
              exact HF.out
          case measure => simp [intOf]; omega
        | false =>
          have hge' : ¬ 0 ≤ ff := of_decide_eq_false hge
          have HFT := show freK bs fill k = true by unfold freK; rw [HG1.out, HG2.out, decide_eq_true (by omega)]; rfl
          have HAT := Lib.hid (atF_eq (bs := bs) (fill := fill) (c := k) (by omega) HKF.out (fun _ => HFT))
          have hkn : ((k : Int) == (n : Int)) = false := by rw [beq_eq_false_iff_ne]; omega
          have HBR := Lib.hid (fills_branch (W := W) (T := T) (bs := bs) (pss := pss) (chk := false) (m := m) (fill := fill) (used := used) (by rw [HAT.out, HN.out]; exact hlt) HU.out)
          have hx0 := HF.out.xy (k := k) (by rw [HN.out]; exact hlt)
          obtain ⟨wx0, wx1, wy0, wy1, -⟩ := hx0
          obtain ⟨hw1, hw6, ht1, ht6, -⟩ := HF.out
          obtain ⟨X, hX⟩ : ∃ X, (k : Int) % W = X := ⟨_, rfl⟩
          obtain ⟨Y, hY⟩ : ∃ Y, (k : Int) / W = Y := ⟨_, rfl⟩
          have CXY := Lib.hid (fun z => xy_any W T (.slice (some ⟨b, off, none⟩) n c0) k z hw1 hw6 (by omega) (by omega))
          rw [hX] at wx0 wx1 CXY
          rw [hY] at wy0 wy1 CXY
          have HX := Lib.hid hX
          have HY := Lib.hid hY
          clear hX hY
          clear hf HFT
          go_wp2_with fail
          refine (CXY.out _).mono ?_
          rintro e w5 ⟨rfl, b5⟩
          have S5 := S.belo b5
          have G5 : FrmF F U bO v w v w5 := (FrmF.refl F U bO v w).below b5
          have p5 := (C.belo S5.ok).pc
          clear r0 r1 r2 cb cf cfl CXY hge hge'
          go_wp2_with fail
          go_loopw [60] (fun i wr => LpF (fun k2 => k2 ≤ pss.length ∧ ∃ v2 xs2, FlSt w0 B F U bF bO bU bK n pss.length cF cU Kv fill used v2 xs2 (L ++ (List.range k2).flatMap (pcF W T bs pss false m fill used)) wr ∧ FrmF F U bO v w v2 wr) i) (fun i _ => pss.length - (intOf i).toNat)
          case atStart => exact ⟨0, rfl, Nat.zero_le _, v, xs, by simpa using S5, G5⟩
          case round =>
            clear S5 G5 p5
            obtain ⟨k2, rfl, hk2, v2, xs2, S6, G6⟩ := hrel
            obtain ⟨wa, hwa⟩ : ∃ wa : World, wa = wr := ⟨_, rfl⟩
            subst hwa
            by_cases hlt2 : k2 < pss.length
            · have hI2 : (k2 : Int) < (pss.length : Int) := by omega
              have S6c := C.belo S6.ok
              obtain ⟨bA2, oA2, Bk, ck, eA, cA2, RSk⟩ := C.fm k2 hlt2
              subst eA
              have al6 := S6c.al
              have cA6 := cellB S6.ok cA2
              have cus := S6.us
              have k2u : k2 < used.length := by rw [HST.out.ulen]; exact hlt2
              have cu := S6.use.rd.cellEM (k := k2) k2u
              simp only [Nat.zero_add] at cu
              have HUG := Lib.hid (show used.getD k2 true = used[k2] by rw [List.getD_eq_getElem?_getD, List.getElem?_eq_getElem k2u]; rfl)
              obtain ⟨uu, huu⟩ : ∃ uu, used[k2] = uu := ⟨_, rfl⟩
              rw [huu] at cu HUG
              clear huu
              obtain ⟨fs, hfs⟩ : ∃ fs, formsV (pss.getD k2 []) = fs := ⟨_, rfl⟩
              rw [hfs] at cA6 RSk
              have HFS := Lib.hid hfs
              have hf8 : fs.length ≤ 8 := by rw [← hfs]; exact formsV_len_le _
              clear hfs cA2
              cases uu with
              | true =>
                have HPC := Lib.hid (show pcF W T bs pss false m fill used k2 = [] by unfold pcF; rw [HUG.out]; rfl)
                go_wp2_with fail
                go_loop [68] (fun i => i = .int .i64 0) (fun _ => 0)
                case atStart => rfl
                case round =>
                  subst hrel
                  by_cases hf0 : 0 < fs.length
                  · have hI0 : (0 : Int) < (fs.length : Int) := by omega
                    obtain ⟨b3, o3, B3, c3, e3, cf3, -, -, -⟩ := (RSk.belo S6.ok) 0 hf0
                    subst e3
                    simp only [Nat.add_zero] at cf3
                    go_wp2_with fail
                    go_roundw
                    case rel => exact ⟨k2 + 1, by go_num, by omega, v2, xs2, by rw [flat_range, HPC.out, List.append_nil]; exact S6, G6⟩
                    case measure => simp [intOf]; omega
                  · have hI0 : fs.length = 0 := by omega
                    go_wp2_with fail
                    go_roundw
                    case rel => exact ⟨k2 + 1, by go_num, by omega, v2, xs2, by rw [flat_range, HPC.out, List.append_nil]; exact S6, G6⟩
                    case measure => simp [intOf]; omega
              | false =>
                have HPC := Lib.hid (show pcF W T bs pss false m fill used k2 = fs.flatMap (brF W T bs pss false m fill used k2) by unfold pcF; rw [HUG.out, HFS.out]; rfl)
                have HPRE := Lib.hid (fun j (hj : j < fs.length) => by have := pre_le (W := W) (T := T) (bs := bs) (pss := pss) (chk := false) (m := m) (fill := fill) (used := used) (k := k2) (j := j) hlt2 HUG.out (by rw [HFS.out]; exact hj); simp only [HFS.out] at this; exact this)
                have HFO := Lib.hid (fun j (hj : j < fs.length) => by have := forms_of_form (ps := pss.getD k2 []) (x := fs[j]) (by rw [HFS.out]; exact List.getElem_mem hj); exact this)
                have HFE := Lib.hid (fun j (hj : j < fs.length) => form_edge (p := pss.getD k2 []) (x := fs[j]) (by rw [HFS.out]; exact List.getElem_mem hj))
                obtain ⟨m', rfl⟩ : ∃ m', m = m' + 1 := ⟨m - 1, by have := HU.out; have := unN_pos HUG.out; omega⟩
                go_wp2_with fail
                go_loopw [68] (fun i wr => LpF (fun j => j ≤ fs.length ∧ ∃ v3 xs3, FlSt w0 B F U bF bO bU bK n pss.length cF cU Kv fill used v3 xs3 ((L ++ (List.range k2).flatMap (pcF W T bs pss false (m' + 1) fill used)) ++ (fs.take j).flatMap (brF W T bs pss false (m' + 1) fill used k2)) wr ∧ FrmF F U bO v w v3 wr) i) (fun i _ => fs.length - (intOf i).toNat)
                case atStart => exact ⟨0, rfl, Nat.zero_le _, v2, xs2, by simpa using S6, G6⟩
                case round =>
                  clear S6c al6 cA6 cus cu
                  obtain ⟨j, rfl, hj, v3, xs3, S7, G7⟩ := hrel
                  obtain ⟨wb, hwb⟩ : ∃ wb : World, wb = wr := ⟨_, rfl⟩
                  subst hwb
                  by_cases hltj : j < fs.length
                  · have hIj : (j : Int) < (fs.length : Int) := by omega
                    obtain ⟨b3, o3, B3, c3, e3, cf3, hc3, -, RF⟩ := (RSk.belo S7.ok) j hltj
                    subst e3
                    have HPJ := Lib.hid (HPRE.out j hltj)
                    obtain ⟨-, hok⟩ := HFO.out j hltj
                    have hedge := HFE.out j hltj
                    have HTK := Lib.hid (flat_take fs (brF W T bs pss false (m' + 1) fill used k2) hltj)
                    obtain ⟨fm, hfm⟩ : ∃ fm, fs[j] = fm := ⟨_, rfl⟩
                    rw [hfm] at cf3 hc3 RF hok hedge HTK HPJ
                    clear hfm
                    obtain ⟨hl1, hl5⟩ := hok.1
                    obtain ⟨b4, o4, e4, f0a, f0b⟩ := RF.at_ (k := 0) (by omega)
                    subst e4
                    simp only [Nat.zero_mul, Nat.add_zero] at f0a f0b
                    have cus := S7.us
                    have cu := S7.use.rd.cellEM (k := k2) k2u
                    have HUE := Lib.hid (show used[k2] = false by have := HUG.out; rw [List.getD_eq_getElem?_getD, List.getElem?_eq_getElem k2u] at this; exact this)
                    rw [HUE.out] at cu
                    simp only [Nat.zero_add] at cu
                    have HNOF := Lib.hid (fun (q : Nat) (hq : q < fm.length) (h : fitQ W T bs fill (fxC W k fm fm[q]) (fyC W k fm fm[q]) = false) => show brF W T bs pss false (m' + 1) fill used k2 fm = [] by
                      show (if _ then _ else _) = _
                      rw [HAT.out, fit_no (List.getElem_mem hq) h]; rfl)
                    have HYES := Lib.hid (fun (h : fitF W T bs fill k fm = true) => show brF W T bs pss false (m' + 1) fill used k2 fm = fillsN W T bs pss false m' (setF fill (plcL W k fm) k2) (used.set k2 true) by
                      show (if _ then _ else _) = _
                      rw [HAT.out, h]; rfl)
                    have hhd : fm.headD (0, 0) = fm[0]'(by omega) := by cases fm with
                      | nil => simp at hl1
                      | cons a l => rfl
                    have he0 := hedge (fm[0]'(by omega)) (List.getElem_mem _)
                    obtain ⟨fa, hfa⟩ : ∃ fa, fm[0]'(by omega) = fa := ⟨_, rfl⟩
                    rw [hfa] at f0a f0b hhd he0
                    have HHD := Lib.hid hhd
                    have HED := Lib.hid hedge
                    obtain ⟨a1, a2, a3, a4⟩ := he0
                    clear hfa hhd hedge hok
                    have CAT := Lib.hid (fun (x y : Int) (z : World) (R : Rd z (some ⟨b, off, none⟩) (bs.map .bool)) (hx : -1000 ≤ x ∧ x ≤ 1000) (hy : -1000 ≤ y ∧ y ≤ 1000) => by
                      have := iAt_any W T (some ⟨b, off, none⟩) c0 bs x y z R hw1 hw6 ht1 ht6 HF.out.len hx hy
                      rw [HN.out] at this
                      exact this)
                    go_wp2_with fail
                    go_loopw [13, 78] (fun pt i wr => LpF (fun q => q ≤ fm.length ∧ Hid (∀ q' (h : q' < fm.length), q' < q → fitQ W T bs fill (fxC W k fm fm[q']) (fyC W k fm fm[q']) = true) ∧ (∃ (A9 : Option Addr) (c9 : Nat), pt = .slice A9 q c9 ∧ OwnI wr wb.heap.size (.slice A9 q c9) (((plcL W k fm).take q).map fun x : Nat => (x : Int))) ∧ Below wb.heap.size wb wr) i) (fun _ i _ => fm.length - (intOf i).toNat)
                    case atStart => exact ⟨0, rfl, Nat.zero_le _, fun q' h h2 => by omega, ⟨none, 0, rfl, OwnI.nil _ _⟩, Below.refl _ _⟩
                    case round =>
                      clear cus cu
                      obtain ⟨q, rfl, hq, HFQ, ⟨A9, c9, rfl, O9⟩, B9⟩ := hrel
                      obtain ⟨wc, hwc⟩ : ∃ wc : World, wc = wr := ⟨_, rfl⟩
                      subst hwc
                      have S8 := S7.belo B9
                      have RF8 : RdC wc (some ⟨b4, o4, none⟩) fm := Rd.belo RF B9
                      have g0a := cellB B9 f0a
                      have g0b := cellB B9 f0b
                      by_cases hq2 : q < fm.length
                      · have hIq : (q : Int) < (fm.length : Int) := by omega
                        obtain ⟨b4', o4', e4, h1a, h1b⟩ := RF8.at_ hq2
                        injection e4 with e4
                        injection e4 with e4 e5
                        subst e4
                        subst e5
                        have hz4 := World.block_lt_of_cell? wc _ g0a
                        simp only at hz4
                        obtain ⟨a5, a6, a7, a8⟩ := HED.out fm[q] (List.getElem_mem hq2)
                        have HNO := Lib.hid (HNOF.out q hq2)
                        have HXY := Lib.hid (show fxC W k fm fm[q] = X + fm[q].1 - fa.1 ∧ fyC W k fm fm[q] = Y + fm[q].2 - fa.2 by unfold fxC fyC; rw [HHD.out, HX.out, HY.out]; exact ⟨rfl, rfl⟩)
                        have HPG := Lib.hid (plc_get (W := W) (c := k) hq2 (by rw [plc_len]; exact hq2))
                        have HQG := Lib.hid (show fm[q]? = some fm[q] from List.getElem?_eq_getElem hq2)
                        obtain ⟨fq, hfq⟩ : ∃ fq, fm[q] = fq := ⟨_, rfl⟩
                        rw [hfq] at h1a h1b a5 a6 a7 a8 HNO HXY HPG
                        have HFQE := Lib.hid hfq
                        clear hfq
                        have i1 : IntKind.i64.wrap (X + fq.1) = X + fq.1 := IntWalk.i64_in _ (by omega)
                        have i2 : IntKind.i64.wrap (X + fq.1 - fa.1) = X + fq.1 - fa.1 := IntWalk.i64_in _ (by omega)
                        have i3 : IntKind.i64.wrap (Y + fq.2) = Y + fq.2 := IntWalk.i64_in _ (by omega)
                        have i4 : IntKind.i64.wrap (Y + fq.2 - fa.2) = Y + fq.2 - fa.2 := IntWalk.i64_in _ (by omega)
                        go_wp2_with fail
                        go_region
                        have bd : Below wc.heap.size wc (wc.alloc (.cells #[.int .i64 fq.1, .int .i64 fq.2] 89)).drew := (bl_alloc (Below.refl wc.heap.size wc) _).drew
                        have S9 := S8.belo bd
                        have B10 := bl_go B9 bd
                        have O10 : OwnI (wc.alloc (.cells #[.int .i64 fq.1, .int .i64 fq.2] 89)).drew wb.heap.size (.slice A9 q c9) (((plcL W k fm).take q).map fun x : Nat => (x : Int)) := O9.alloc _
                        generalize (wc.alloc (.cells #[.int .i64 fq.1, .int .i64 fq.2] 89)).drew = wd at *
                        clear bd g0a g0b h1a h1b hz4 O9 RF8 S8 B9 i1 i2 i3 i4
                        obtain ⟨r0, r1, r2⟩ := (C.belo S9.ok).box
                        obtain ⟨fx, hfx⟩ : ∃ fx, X + fq.1 - fa.1 = fx := ⟨_, rfl⟩
                        obtain ⟨fy, hfy⟩ : ∃ fy, Y + fq.2 - fa.2 = fy := ⟨_, rfl⟩
                        have hfx1 : -1000 ≤ fx ∧ fx ≤ 1000 := by omega
                        have hfy1 : -1000 ≤ fy ∧ fy ≤ 1000 := by omega
                        rw [hfx, hfy] at HXY ⊢
                        clear hfx hfy
                        have CATz := Lib.hid (CAT.out fx fy wd (C.belo S9.ok).rd hfx1 hfy1)
                        go_wp2_with fail
                        refine CATz.out.mono ?_
                        rintro e w11 ⟨rfl, b11⟩
                        have S11 := S9.belo b11
                        have B11 := bl_go B10 b11
                        have O11 := O10.belo b11
                        have HFE := Lib.hid (fitQ_eq (W := W) (T := T) (bs := bs) (fill := fill) (x := fx) (y := fy))
                        clear r0 r1 r2 CATz S9 B10 O10 b11
                        have X11 := (C.belo S11.ok).box
                        obtain ⟨r0, r1, r2⟩ := id X11
                        have fl11 := S11.fl
                        cases hat : atQ W T bs fx fy with
                        | false =>
                          have HBR0 := Lib.hid (HNO.out (by rw [HXY.out.1, HXY.out.2, HFE.out, hat]; rfl))
                          have HTK0 := Lib.hid (show (fs.take (j + 1)).flatMap (brF W T bs pss false (m' + 1) fill used k2) = (fs.take j).flatMap (brF W T bs pss false (m' + 1) fill used k2) by rw [HTK.out, HBR0.out, List.append_nil])
                          clear hat
                          go_wp2_with fail
                          go_roundw
                          case rel => exact ⟨j + 1, by go_num, by omega, v3, xs3, by rw [HTK0.out]; exact S11, G7.below B11⟩
                          case measure => simp [intOf]; omega
                        | true =>
                          have hin : 0 ≤ fx ∧ fx ≤ W - 1 ∧ 0 ≤ fy ∧ fy ≤ T - 1 := by
                            have h := hat
                            unfold atQ at h
                            rw [Bool.and_eq_true, decide_eq_true_eq] at h
                            exact h.1
                          obtain ⟨k9, hk9, hkn9⟩ := at_idx hw1 HF.out.len hin
                          rw [HN.out] at hkn9
                          obtain ⟨p1, p2, p3, p4⟩ := hin
                          have k9I : (k9 : Int) < (n : Int) := by omega
                          have m0 : 0 ≤ fy * W := Int.mul_nonneg p3 (by omega)
                          have i5 : IntKind.i64.wrap (fy * W) = fy * W := IntWalk.i64_in _ (by omega)
                          have i6 : IntKind.i64.wrap (fy * W + fx) = (k9 : Int) := by rw [hk9]; exact IntWalk.i64_in _ (by omega)
                          have k9f : k9 < fill.length := by rw [HFL.out]; exact hkn9
                          have c9f := S11.fil.rd.cellEM (k := k9) k9f
                          simp only [Nat.zero_add] at c9f
                          have HF9 := Lib.hid (show fill.getD k9 0 = fill[k9] by rw [List.getD_eq_getElem?_getD, List.getElem?_eq_getElem k9f]; rfl)
                          obtain ⟨f9, hf9⟩ : ∃ f9, fill[k9] = f9 := ⟨_, rfl⟩
                          rw [hf9] at c9f HF9
                          have HQ9 := Lib.hid (show fitQ W T bs fill fx fy = decide (f9 < 0) by rw [HFE.out, hat, hk9, Int.toNat_natCast, HF9.out]; rfl)
                          have HP9 := Lib.hid (show (plcL W k fm)[q]'(by rw [plc_len]; exact hq2) = k9 by rw [HPG.out, HXY.out.1, HXY.out.2, hk9, Int.toNat_natCast])
                          clear hat hf9 hk9
                          cases hge9 : decide (0 ≤ f9) with
                          | true =>
                            have hge0 : 0 ≤ f9 := of_decide_eq_true hge9
                            have HBR0 := Lib.hid (HNO.out (by rw [HXY.out.1, HXY.out.2, HQ9.out]; exact decide_eq_false (by omega)))
                            have HTK0 := Lib.hid (show (fs.take (j + 1)).flatMap (brF W T bs pss false (m' + 1) fill used k2) = (fs.take j).flatMap (brF W T bs pss false (m' + 1) fill used k2) by rw [HTK.out, HBR0.out, List.append_nil])
                            go_wp2_with fail
                            go_roundw
                            case rel => exact ⟨j + 1, by go_num, by omega, v3, xs3, by rw [HTK0.out]; exact S11, G7.below B11⟩
                            case measure => simp [intOf]; omega
                          | false =>
                            have hge0 : ¬ 0 ≤ f9 := of_decide_eq_false hge9
                            have HYQ := Lib.hid (show fitQ W T bs fill (fxC W k fm fm[q]) (fyC W k fm fm[q]) = true by rw [HFQE.out, HXY.out.1, HXY.out.2, HQ9.out]; exact decide_eq_true (by omega))
                            have hqlen : (((plcL W k fm).take q).map fun x : Nat => (x : Int)).length = q := by rw [List.length_map, List.length_take, plc_len]; omega
                            have HQL := Lib.hid hqlen
                            have hb11 := B11.size
                            clear hqlen
                            have O11a : OwnI w11 wb.heap.size (.slice A9 (((plcL W k fm).take q).map fun x : Nat => (x : Int)).length c9) (((plcL W k fm).take q).map fun x : Nat => (x : Int)) := by rw [HQL.out]; exact O11
                            go_wp2_with (at_builtin; refine app_int _ rfl _ _ rfl wb.heap.size _ _ (by rw [HQL.out]; rfl) O11a (k9 : Int) rfl (by rw [HQL.out]; omega) hb11 ?_; intro A10 c10 w12 O12 g12)
                            refine ⟨⟨q + 1, by go_num, by omega, fun q' h h2 => ?_, ⟨A10, c10, by rw [plc_len, show min q fm.length = q by omega], ?_⟩, app_below B11 (Nat.le_refl _) hb11 O11a g12⟩, by simp [intOf]; omega⟩
                            · rcases Nat.lt_or_ge q' q with h3 | h3
                              · exact HFQ.out q' h h3
                              · obtain rfl : q' = q := by omega
                                exact HYQ.out
                            · rw [take_one_more _ q (by rw [plc_len]; exact hq2), List.map_append, HP9.out]
                              rw [HQL.out] at O12
                              exact O12
                      · obtain rfl : q = fm.length := by omega
                        have HFIT := Lib.hid (fit_all (fun q' h => HFQ.out q' h h))
                        have HBF := Lib.hid (HYES.out HFIT.out)
                        have hplf := fun x (hx : x ∈ plcL W k fm) => plc_free HFIT.out hx
                        have HNX := Lib.hid (HST.out.next HFIT.out hlt2)
                        obtain ⟨L9, hL9⟩ : ∃ L9, plcL W k fm = L9 := ⟨_, rfl⟩
                        have hll : L9.length = fm.length := by rw [← hL9, plc_len]
                        rw [hL9] at O9 HBF hplf HNX
                        rw [List.take_of_length_le (by omega)] at O9
                        have HPF := Lib.hid (fun x (hx : x ∈ L9) => show x < n ∧ fill.getD x 0 = -1 from by
                          have h1 := hplf x hx
                          have h2 := freK_lt h1
                          refine ⟨by rw [← HN.out]; exact h2, ?_⟩
                          rcases HST.out.each x h2 with h3 | ⟨-, n', -, -, h3⟩
                          · exact h3
                          · have := (freK_iff.1 h1).2; omega)
                        have HLL := Lib.hid hll
                        have HL9 := Lib.hid hL9
                        have RPc : Rd wc A9 (L9.map fun x : Nat => Value.int .i64 (x : Int)) := by have := O9.rd.2; rw [List.map_map] at this; exact this
                        have hA9 := O9.lt
                        have hown3 := fun b e => (S7.gr.own.lt b e).2
                        have HA9 := Lib.hid (fun ad (e : A9 = some ad) => show ad.block < wc.heap.size ∧ ad.block ≠ F ∧ ad.block ≠ U ∧ ad.block ≠ bO ∧ v3.ownBlock ≠ some ad.block from by
                          obtain ⟨h1, h2⟩ := hA9 ad e
                          have h3 := S7.d
                          have h4 := S7.big
                          unfold FlD at h3
                          refine ⟨h2, by omega, by omega, by omega, fun e => by have := hown3 _ e; omega⟩)
                        clear hplf hll hL9 O9 hA9 hown3 HNOF HYES CAT HED HFQ g0a g0b RF8
                        have cus8 := S8.us
                        have cu8 := S8.use.rd.cellEM (k := k2) k2u
                        rw [HUE.out] at cu8
                        simp only [Nat.zero_add] at cu8
                        obtain ⟨gU, eU, -, -, fU⟩ := S8.use.form (by intro e; have := congrArg List.length e; simp at this; rw [this] at k2u; simp at k2u)
                        injection eU with eU
                        injection eU with eU
                        subst eU
                        have fU2 := fU k2
                        clear fU
                        have S9 := S8.setU_ k2 true
                        have T9 := (FrmF.refl F U bO v3 wc).set k2 (.bool true) (.inr (.inl rfl))
                        go_wp2_with fail
                        go_loopw [137] (fun i wr => LpF (fun q => q ≤ fm.length ∧ FlSt w0 B F U bF bO bU bK n pss.length cF cU Kv (setF fill (L9.take q) k2) (used.set k2 true) v3 xs3 ((L ++ (List.range k2).flatMap (pcF W T bs pss false (m' + 1) fill used)) ++ (fs.take j).flatMap (brF W T bs pss false (m' + 1) fill used k2)) wr ∧ FrmF F U bO v3 wc v3 wr) i) (fun i _ => fm.length - (intOf i).toNat)
                        case atStart => exact ⟨0, rfl, Nat.zero_le _, S9, T9⟩
                        case round =>
                          clear S9 T9 cu8 cus8 fU2
                          obtain ⟨q, rfl, hq, S10, T10⟩ := hrel
                          have RP := RPc.frm T10 HA9.out
                          by_cases hq2 : q < fm.length
                          · have hIq : (q : Int) < (fm.length : Int) := by omega
                            have hqL : q < L9.length := by rw [HLL.out]; exact hq2
                            obtain ⟨b9, o9, rfl, cq⟩ := RP.atEM hqL
                            obtain ⟨hxn, -⟩ := HPF.out L9[q] (List.getElem_mem hqL)
                            have HST2 := Lib.hid (setF_take fill L9 (k2 : Int) hqL)
                            obtain ⟨x9, hx9⟩ : ∃ x9, L9[q] = x9 := ⟨_, rfl⟩
                            rw [hx9] at cq hxn HST2
                            clear hx9
                            have hxI : (x9 : Int) < (n : Int) := by omega
                            have cfl10 := S10.fl
                            have hlen10 : x9 < (setF fill (L9.take q) k2).length := by rw [setF_len, HFL.out]; exact hxn
                            have cx := S10.fil.rd.cellEM (k := x9) hlen10
                            simp only [Nat.zero_add] at cx
                            obtain ⟨u9, cu9⟩ : ∃ u9, wr.cell? ⟨F, x9, none⟩ = some u9 := ⟨_, cx⟩
                            clear cx
                            obtain ⟨gF, eF, -, -, fF⟩ := S10.fil.form (by intro e; have := congrArg List.length e; simp at this; rw [this] at hlen10; simp at hlen10)
                            injection eF with eF
                            injection eF with eF
                            subst eF
                            have fF9 := fF x9
                            have S11 := S10.setF_ x9 k2
                            rw [← HST2.out] at S11
                            have T11 := T10.set x9 (.int .i64 k2) (.inl rfl)
                            clear fF hlen10 S10 T10 RP
                            go_wp2_with fail
                            go_roundw
                            case rel => exact ⟨q + 1, by go_num, by omega, S11, T11⟩
                            case measure => simp [intOf]; omega
                          · obtain rfl : q = fm.length := by omega
                            rw [List.take_of_length_le (by rw [HLL.out]; exact Nat.le_refl _)] at S10
                            obtain ⟨wd, hwd⟩ : ∃ wd : World, wd = wr := ⟨_, rfl⟩
                            subst hwd
                            have wk10 := S10.wk
                            rw [HK.out] at wk10
                            have hun := unN_set HUG.out
                            have HCL := Lib.hid (HIH.out m' rfl wd _ _ v3 xs3 _ S10 HNX.out (by have := HU.out; omega) (by
                              have h1 := HPJ.out
                              have h2 := HL.out
                              rw [HBF.out] at h1
                              rw [HBR.out] at h2
                              rw [List.length_append, List.length_append]
                              omega))
                            have hsz10 := T10.size
                            have HA10 := Lib.hid (fun ad (e : A9 = some ad) => show ad.block < wd.heap.size ∧ ad.block ≠ F ∧ ad.block ≠ U ∧ ad.block ≠ bO ∧ v3.ownBlock ≠ some ad.block from by
                              obtain ⟨h1, h2⟩ := HA9.out ad e
                              exact ⟨by omega, h2⟩)
                            clear hun
                            go_wp2_with fail
                            refine HCL.out.mono ?_
                            rintro e w14 ⟨rfl, v4, xs4, S14, T14⟩
                            have RP14 := RP.frm T14 HA10.out
                            have hsz14 := T14.size
                            have HA14 := Lib.hid (fun ad (e : A9 = some ad) => show ad.block < w14.heap.size ∧ ad.block ≠ F ∧ ad.block ≠ U ∧ ad.block ≠ bO ∧ v4.ownBlock ≠ some ad.block from by
                              obtain ⟨h1, h2, h3, h4, h5⟩ := HA10.out ad e
                              refine ⟨by omega, h2, h3, h4, fun e9 => ?_⟩
                              rcases T14.own with e1 | ⟨b1, e1, e2⟩
                              · exact h5 (e1 ▸ e9)
                              · rw [e1] at e9; injection e9 with e9; omega)
                            have GT := (G7.below B9).trans (T10.trans T14)
                            have T14b := FrmF.refl F U bO v4 w14
                            clear HCL wk10 S10 T10 RP T14 HA9 HA10 RPc
                            go_wp2_with fail
                            go_loopw [150] (fun i wr => LpF (fun q => q ≤ fm.length ∧ FlSt w0 B F U bF bO bU bK n pss.length cF cU Kv (setF (setF fill L9 k2) (L9.take q) (-1)) (used.set k2 true) v4 xs4 (((L ++ (List.range k2).flatMap (pcF W T bs pss false (m' + 1) fill used)) ++ (fs.take j).flatMap (brF W T bs pss false (m' + 1) fill used k2)) ++ fillsN W T bs pss false m' (setF fill L9 k2) (used.set k2 true)) wr ∧ FrmF F U bO v4 w14 v4 wr) i) (fun i _ => fm.length - (intOf i).toNat)
                            case atStart => exact ⟨0, rfl, Nat.zero_le _, S14, T14b⟩
                            case round =>
                              clear S14 T14b
                              obtain ⟨q, rfl, hq, S15, T15⟩ := hrel
                              have RP := RP14.frm T15 HA14.out
                              by_cases hq2 : q < fm.length
                              · have hIq : (q : Int) < (fm.length : Int) := by omega
                                have hqL : q < L9.length := by rw [HLL.out]; exact hq2
                                obtain ⟨b9, o9, rfl, cq⟩ := RP.atEM hqL
                                obtain ⟨hxn, -⟩ := HPF.out L9[q] (List.getElem_mem hqL)
                                have HST2 := Lib.hid (setF_take (setF fill L9 k2) L9 (-1) hqL)
                                obtain ⟨x9, hx9⟩ : ∃ x9, L9[q] = x9 := ⟨_, rfl⟩
                                rw [hx9] at cq hxn HST2
                                clear hx9
                                have hxI : (x9 : Int) < (n : Int) := by omega
                                have cfl10 := S15.fl
                                have hlen10 : x9 < (setF (setF fill L9 k2) (L9.take q) (-1)).length := by rw [setF_len, setF_len, HFL.out]; exact hxn
                                have cx := S15.fil.rd.cellEM (k := x9) hlen10
                                simp only [Nat.zero_add] at cx
                                obtain ⟨u9, cu9⟩ : ∃ u9, wr.cell? ⟨F, x9, none⟩ = some u9 := ⟨_, cx⟩
                                clear cx
                                obtain ⟨gF, eF, -, -, fF⟩ := S15.fil.form (by intro e; have := congrArg List.length e; simp at this; rw [this] at hlen10; simp at hlen10)
                                injection eF with eF
                                injection eF with eF
                                subst eF
                                have fF9 := fF x9
                                have S16 := S15.setF_ x9 (-1)
                                rw [← HST2.out] at S16
                                have T16 := T15.set x9 (.int .i64 (-1)) (.inl rfl)
                                clear fF hlen10 S15 T15 RP
                                go_wp2_with fail
                                go_roundw
                                case rel => exact ⟨q + 1, by go_num, by omega, S16, T16⟩
                                case measure => simp [intOf]; omega
                              · obtain rfl : q = fm.length := by omega
                                have hle : L9.length ≤ fm.length := by rw [HLL.out]; exact Nat.le_refl _
                                have HSB := set_back (bs := bs) (fill := fill) (L := L9) (v := (k2 : Int)) HST.out.len (fun x hx => (HPF.out x hx).2) (fun x hx => by have := (HPF.out x hx).1; have := HN.out; omega)
                                rw [List.take_of_length_le hle, HSB] at S15
                                clear hle HSB
                                have cus15 := S15.us
                                have k2u2 : k2 < (used.set k2 true).length := by rw [List.length_set]; exact k2u
                                have cu15 := S15.use.rd.cellEM (k := k2) k2u2
                                simp only [Nat.zero_add, List.getElem_set_self] at cu15
                                obtain ⟨gU, eU, -, -, fU⟩ := S15.use.form (by intro e; have := congrArg List.length e; simp at this; rw [this] at k2u; simp at k2u)
                                injection eU with eU
                                injection eU with eU
                                subst eU
                                have fU2 := fU k2
                                have S16 := S15.setU_ k2 false
                                rw [set_backB HUG.out] at S16
                                have GT2 := (GT.trans T15).set k2 (.bool false) (.inr (.inl rfl))
                                have HTK2 := Lib.hid (show (L ++ (List.range k2).flatMap (pcF W T bs pss false (m' + 1) fill used)) ++ (fs.take (j + 1)).flatMap (brF W T bs pss false (m' + 1) fill used k2) = ((L ++ (List.range k2).flatMap (pcF W T bs pss false (m' + 1) fill used)) ++ (fs.take j).flatMap (brF W T bs pss false (m' + 1) fill used k2)) ++ fillsN W T bs pss false m' (setF fill L9 k2) (used.set k2 true) by rw [HTK.out, HBF.out, List.append_assoc, List.append_assoc, List.append_assoc])
                                rw [← HTK2.out] at S16
                                clear fU k2u2 S15 T15 RP GT RP14
                                go_wp2_with fail
                                go_roundw
                                case rel => exact ⟨j + 1, by go_num, by omega, v4, xs4, S16, GT2⟩
                                case measure => simp [intOf]; omega
                  · obtain rfl : j = fs.length := by omega
                    go_wp2_with fail
                    go_roundw
                    case rel => exact ⟨k2 + 1, by go_num, by omega, v3, xs3, by rw [flat_range, HPC.out, ← List.append_assoc]; rw [List.take_length] at S7; exact S7, G7⟩
                    case measure => simp [intOf]; omega
            · obtain rfl : k2 = pss.length := by omega
              go_wp2
              refine bodyPost_ret (v := .tuple #[]) (by simp [results, Tryz.results76, go_sem]) rfl ⟨rfl, v2, xs2, ?_, G6⟩
              rw [HBR.out]
              exact S6
    · obtain rfl : n = k := by omega
      have HAT := Lib.hid (show atF bs fill = bs.length from by
        rw [HN.out]
        exact atF_eq (by rw [HN.out]; exact Nat.le_refl _) HKF.out (fun h => by have := HN.out; omega))
      have HLF := Lib.hid (fills_leaf (W := W) (T := T) (pss := pss) (m := m) (used := used) HAT.out)
      clear r0 r1 r2
      obtain ⟨xo, fo⟩ := boxF S.out
      have hxl : xs.length + 1 ≤ 1000000000000 := by have h1 := HL.out; rw [HLF.out, List.length_singleton] at h1; have := S.gr.hd.1; omega
      have CI := Lib.hid (cloneI_any ⟨F, 0, none⟩ n cF fill w.drew S.fil.rd HFL.out n1 (by omega))
      go_wp2_with fail
      go_region_law (first
        | (go_simp
           go_at_call 77
           refine CI.out.mono ?_
           rintro e w1 ⟨g1, rfl, W1, hg1, hg2, b1⟩
           have b1' : Below w.heap.size w w1 := bl_go (Below.refl w.heap.size w).drew b1
           have S1 := S.belo b1'
           have S2 := S1.belo (bl_alloc (Below.refl w1.heap.size w1) (.cells #[.slice (some ⟨g1, 0, none⟩) n n] 27))
           obtain ⟨xo1, -⟩ := boxF S1.out
           obtain ⟨xo2, -⟩ := boxF S2.out)
        | (refine step_headsL _ rfl _ _ rfl B v xs rfl S2.gr.own ⟨w1.heap.size, 0, none⟩ 1 1 [.slice (some ⟨g1, 0, none⟩) n n] rfl rfl (one_atL _ _ _) (one_oneL _ _ _) hxl S2.big ?_
           intro v3 w3 o3 g3 e3
           obtain ⟨A3, c3, rfl, -⟩ := id o3
           obtain ⟨R3, T3⟩ := S.tell HFL.out n36 W1 hg1 hg2 b1' o3 g3 e3
           obtain ⟨xo3, fo3⟩ := boxF ((g3.block bO (heap_ltF S2.out) (fun e => by have h1 := (S2.gr.own.lt _ e.symm).1; have h2 := S.d; unfold FlD at h2; omega)).trans S2.out)))
      all_goals (
        rw [List.length_append, List.length_singleton] at R3 T3
        go_wp2
        refine bodyPost_ret (v := .tuple #[]) (by simp [results, Tryz.results76, go_sem]) rfl ⟨rfl, _, xs ++ [.slice (some ⟨g1, 0, none⟩) n n], ?_, T3⟩
        rw [HLF.out]
        exact R3)
end Go.Proofs.YtejkbjcmndnfeaaGreat

/- Contract: slices.Repeat of one number. -/
namespace Go.Proofs.YtejkbjcmndnfeaaGreat
open Go.RowKit

theorem and_low (n : Nat) (hn : n ≤ 64) : bits BinOp.and IntKind.u64 (n : Int) 4294967295 = (n : Int) := by
  revert n; decide +kernel
set_option maxHeartbeats 1000000 in
theorem mul64_one (n : Nat) (hn : n ≤ 64) (w : World) :
    Calls Tryz.prog 206 #[.int .u64 1, .int .u64 n] w fun e w' => e = .returned (.tuple #[.int .u64 0, .int .u64 n]) ∧ w = w' := by
  have a1 : bits BinOp.and IntKind.u64 1 4294967295 = 1 := by decide +kernel
  have a2 := and_low n hn
  have a3 : (n : Int) / 4294967296 = 0 := by omega
  have a4 : IntKind.u64.wrap (n : Int) = (n : Int) := by revert n; decide +kernel
  have a5 : bits BinOp.and IntKind.u64 0 4294967295 = 0 := by decide +kernel
  go_enter Tryz.func206, Tryz.ntmps206
  go_wp2
  go_ret2
  exact ⟨rfl, rfl⟩
set_option maxHeartbeats 1000000 in
theorem mul_one_any (n : Nat) (hn : n ≤ 64) (w : World) :
    Calls Tryz.prog 152 #[.int .u64 1, .int .u64 n] w fun e w' => e = .returned (.tuple #[.int .u64 0, .int .u64 n]) ∧ w = w' := by
  go_enter Tryz.func152, Tryz.ntmps152
  go_wp2_with (go_at_call 206; refine (mul64_one n hn _).mono ?_; rintro e w' ⟨rfl, rfl⟩)
  go_ret2
  exact ⟨rfl, rfl⟩
/-- k numbers written, the others still as they were made -/
def repL (v : Int) (n k : Nat) : List Value := (List.replicate k (Value.int .i64 v)) ++ List.replicate (n - k) (.int .i64 0)
theorem repL_len (v : Int) {n k : Nat} (hk : k ≤ n) : (repL v n k).length = n := by unfold repL; simp; omega
theorem repL_one (v : Int) {n k m : Nat} (hm : k + m ≤ n) : splice (repL v n k) k (List.replicate m (Value.int .i64 v)) = repL v n (k + m) := by
  unfold splice repL
  have e1 : (List.replicate k (Value.int .i64 v) ++ List.replicate (n - k) (Value.int .i64 0)).take k = List.replicate k (Value.int .i64 v) := List.take_left' (by simp)
  rw [e1, List.length_replicate, List.drop_append, List.drop_of_length_le (by simp), List.nil_append, List.length_replicate, List.drop_replicate, ← List.append_assoc, List.replicate_append_replicate]
  congr 2
  omega
theorem repL_all (v : Int) (n : Nat) : repL v n n = (List.replicate n v).map (.int .i64) := by unfold repL; simp
theorem repL_get {v : Int} {n k j : Nat} {u : Value} {m : Nat} (hm : m ≤ k) (h : (List.replicate m (Value.int .i64 v))[j]? = some u) : (repL v n k)[j]? = some u := by
  have hj : j < m := by
    rcases Nat.lt_or_ge j m with h1 | h1
    · exact h1
    · rw [List.getElem?_eq_none (by simpa using h1)] at h; cases h
  rw [List.getElem?_replicate, if_pos hj] at h
  unfold repL
  rw [List.getElem?_append_left (by simp; omega), List.getElem?_replicate, if_pos (by omega)]; exact h
theorem made_row {v : Int} {w1 : World} {g n : Nat} {e : TypeId} (h : w1.ownsRow g e 1 (.slice (some ⟨g, 0, none⟩) n n) n (madeCells (Value.int .i64 0).cells (n * 1)).toList) : Hid (w1.heap[g]? = some (.cells (repL v n 0).toArray e (0, 0))) := by
  rcases h.2 with ⟨e, -⟩ | ⟨g', cap, cur, hv, hg, hh, h1, h2, h3, h4⟩
  · cases e
  · injection hv with ha hb hc
    injection ha with ha; injection ha with ha
    subst ha; subst hc
    show _ = _
    rw [hh]
    have e1 : cur.toList = repL v n 0 := by
      rw [Nat.mul_one] at h4
      rw [List.take_of_length_le (by simp; omega)] at h4
      rw [h4, show (Value.int .i64 0).cells = #[.int .i64 0] from rfl, toList_madeCells_one]
      unfold repL; simp
    rw [← e1]
theorem one_cell {w : World} {b off : Nat} {v : Int} (h : w.cell? ⟨b, off, none⟩ = some (.int .i64 v)) : ∀ j u, [Value.int .i64 v][j]? = some u → w.cell? ((⟨b, off, none⟩ : Addr).add j) = some u := by
  intro j u hu
  match j, hu with
  | 0, hu => simp at hu; subst hu; rw [add_zero']; exact h
theorem rep_run (W : World) (hsz : (Tryz.prog.info? 3).map (·.size) = some 1) (v : Int) (n k m g : Nat) (hm : m = min k (n - k)) (hk : k ≤ n) (w0 : World)
    (hg : Hid (W.heap[g]? = some (.cells (repL v n k).toArray 3 (0, 0)))) (hb : Below w0.heap.size w0 W) (hB : w0.heap.size ≤ g) :
    ∃ w', Sem.run Tryz.prog (Builtin.copy_ #[27, 27] 3 #[.slice (some ⟨g, k, none⟩) (n - k) (n - k), .slice (some ⟨g, 0, none⟩) k n]) W = .ok (.int .i64 m) w' ∧ Hid (w'.heap[g]? = some (.cells (repL v n (k + m)).toArray 3 (0, 0))) ∧ Below w0.heap.size w0 w' := by
  have h := run_copy_row (P := Tryz.prog) W 27 27 3 3 g k (n - k) (n - k) ⟨g, 0, none⟩ k n (repL v n k).toArray 3 (List.replicate m (Value.int .i64 v)) Tryz.underlying27 hsz hg.out
    (by rw [List.length_replicate]; exact hm) (fun j u hu => by
      rw [add_ofs, Nat.zero_add, cell_of_row _ _ _ _ _ _ hg.out]
      have := repL_get (n := n) (show m ≤ k by omega) hu
      simpa using this) (by rw [List.length_replicate]; simp [repL_len v hk]; omega) (by intro u hu; rw [List.eq_of_mem_replicate hu]; rfl)
  rw [List.length_replicate] at h
  refine ⟨_, h, ?_, below_setRow hb hB _⟩
  show _ = _
  rw [← repL_one v (show k + m ≤ n by omega)]
  simpa [splice] using setRow_heap W g _ ((repL v n k).take k ++ (List.replicate m (Value.int .i64 v) ++ (repL v n k).drop (k + m))).toArray 3 _ hg.out
set_option maxRecDepth 100000 in
set_option maxHeartbeats 2000000 in
theorem repeat_one (A : Option Addr) (c : Nat) (v : Int) (n : Nat) (h1 : 1 ≤ n) (hn : n ≤ 64) (w : World) (hr : Rd w A [.int .i64 v]) :
    Calls Tryz.prog 75 #[.slice A 1 c, .int .i64 n] w (NewW (List.replicate n v) w) := by
  obtain ⟨i0, hi, hz0, hz1, hz2⟩ := info_parts Tryz.infoI
  have hb1 : i0.bytes * n ≤ 281474976710656 := by rw [hz2]; omega
  have hsz : (Tryz.prog.info? 3).map (·.size) = some 1 := by rw [hi]; simp [hz1]
  have HZ := Lib.hid (And.intro hz0 (And.intro hz1 hz2))
  clear hz0 hz1 hz2
  obtain ⟨b, off, e0, hc⟩ := hr.atE (k := 0) (by simp)
  subst e0
  simp only [List.getElem_cons_zero, Nat.add_zero] at hc
  have hbw : b < w.heap.size := by have := World.block_lt_of_cell? w _ hc; simpa using this
  clear hr
  go_enter Tryz.func75, Tryz.ntmps75
  go_wp2_with (first
    | (go_at_call 152; refine (mul_one_any n hn _).mono ?_; rintro e w' ⟨rfl, rfl⟩)
    | (at_make; refine wpList_make_full _ rfl _ _ 27 rfl w.heap.size 3 i0 (.int .i64 0) 1 Tryz.underlying27 hi HZ.out.1 HZ.out.2.1 .i64 .i64 _ _ n rfl rfl rfl rfl hb1 (by unfold maxLen; omega) (Nat.le_refl _) ?_; intro w1 hown1 hgrow1; have HG := made_row (v := v) hown1; have BG := (Below.refl w.heap.size w).grown hgrow1 (Nat.le_refl _) (fun k hk => by cases hk); have hc1 := (BG.cell (p := ⟨b, off, none⟩) hbw).trans hc; clear hown1 hgrow1)
    | (refine wpList_copy_splice (o := ⟨some 33, _, _, _, _, _⟩) rfl (.tmp 31) (.tmp 32) 27 27 rfl 3 Tryz.underlying27 hsz _ _ _ _ _ _ rfl rfl w.heap.size 0 (repL v n 0) 3 HG.out [.int .i64 v] (by show 1 = min 1 n; omega) (fun _ => ⟨rfl, _, rfl, one_cell hc1⟩) (by rw [repL_len v (Nat.zero_le n)]; simp; omega) (by simp; rfl) w.heap.size w BG (Nat.le_refl _) ?_; intro w2 HG2 hB2))
  have HG2' : Hid (w2.heap[w.heap.size]? = some (.cells (repL v n 1).toArray 3 (0, 0))) := by
    have e := repL_one v (n := n) (k := 0) (m := 1) (by omega)
    rw [Nat.zero_add] at e
    show _ = _
    rw [← e]; exact HG2.out
  clear HG2 HG BG hc1 hb1 hi HZ
  go_loopw [8] (fun t8 wr => ∃ k : Nat, 1 ≤ k ∧ k ≤ n ∧ t8 = .int .i64 k ∧ Hid (wr.heap[w.heap.size]? = some (.cells (repL v n k).toArray 3 (0, 0))) ∧ Below w.heap.size w wr) (fun t8 _ => n - (intOf t8).toNat)
  case atStart => exact ⟨1, Nat.le_refl _, h1, by simp, HG2', hB2⟩
  case round =>
    clear HG2' hB2
    obtain ⟨k, k1, k2, rfl, HK, bk⟩ := hrel
    by_cases hlt : k < n
    · obtain ⟨m, hm⟩ : ∃ m, m = min k (n - k) := ⟨_, rfl⟩
      have hm1 : 1 ≤ m := by omega
      have hm3 : k + m ≤ n := by omega
      have HKd : Hid (wr.drew.heap[w.heap.size]? = some (.cells (repL v n k).toArray 3 (0, 0))) := HK
      have bkd : Below w.heap.size w wr.drew := ⟨bk.os, bk.tape, bk.output, bk.size, bk.block⟩
      obtain ⟨w4, hrun, HG4, hB4⟩ := rep_run wr.drew hsz v n k m w.heap.size hm k2 w HKd bkd (Nat.le_refl _)
      clear hm HKd bkd HK bk
      have hck : ¬ n = k := by omega
      have hkI : (k : Int) < (n : Int) := by omega
      go_wp2_with fail
      go_region
      all_goals go_wp2_with fail
      exact ⟨⟨k + m, by omega, hm3, by go_num, HG4, hB4⟩, by simp [intOf]; omega⟩
    · obtain rfl : k = n := by omega
      go_wp2
      go_ret
      refine ⟨some ⟨w.heap.size, 0, none⟩, by simp, ?_, bk⟩
      refine ⟨fun ad ha => by injection ha with ha; subst ha; exact Nat.le_refl _, fun _ => ⟨w.heap.size, _, rfl, HK.out, ?_⟩⟩
      rw [← repL_all, repL_len v (Nat.le_refl _)]
      exact List.take_of_length_le (by simp [repL_len v (Nat.le_refl k)])
end Go.Proofs.YtejkbjcmndnfeaaGreat

/- Contract: the program's FillsAll. -/
namespace Go.Proofs.YtejkbjcmndnfeaaGreat
open Go.RowKit Go.Sort

theorem Tryz.infoSSC : (Tryz.prog.info? 26).map (fun i => (i.zero, i.size, i.bytes)) = some (some (.slice none 0 0), 1, 24) := by kernel_rfl
theorem fl_all {W T : Int} {n c0 : Nat} {bs : List Bool} {A : Option Addr} {pss : List (List Ce)} {A' : Option Addr} {c' : Nat} {AA : Option Addr} {cA bR bP bA : Nat} {w0 : World} {B F U bF bO bU bK cF cU : Nat} {Kv : Value}
    (C : FlC W T n c0 bs A pss A' c' AA cA bR bP bA w0) (hf : FldF W T bs.length) (hn : bs.length = n) (hp : ∀ k, k < pss.length → PieceOk (pss.getD k [])) (hP6 : pss.length ≤ 6)
    (hK : Kv = .func (.func 76) #[] #[.pointer (some ⟨bF, 0, none⟩), .pointer (some ⟨bR, 0, none⟩), .pointer (some ⟨bO, 0, none⟩), .pointer (some ⟨bP, 0, none⟩), .pointer (some ⟨bA, 0, none⟩), .pointer (some ⟨bU, 0, none⟩), .pointer (some ⟨bK, 0, none⟩)]) :
    ∀ m, FlOk W T bs pss bR bP bA w0 B F U bF bO bU bK n cF cU Kv m
  | 0 => fl_step C hf hn hp hP6 hK (fun m' h => by omega)
  | m + 1 => fl_step C hf hn hp hP6 hK (fun m' h => by obtain rfl : m = m' := by omega
                                                       exact fl_all C hf hn hp hP6 hK m)
theorem rdSS_of {w : World} {A : Option Addr} {xs : List Value} {pss : List (List Ce)} (hr : Rd w A xs) (h : HeadsR w xs pss) : RdSS w A pss := fun k hk => by
  have hx : k < xs.length := by rw [h.1]; exact hk
  obtain ⟨B, c', h1, h2, h3, h4⟩ := h.at_ hk hx
  obtain ⟨b, off, e, hc⟩ := hr.atE hx
  exact ⟨b, off, B, c', e, by rw [hc, h1], h2, by unfold maxLen; omega, h4⟩
theorem Rd.set_ {w : World} {A : Option Addr} {xs : List Value} (hr : Rd w A xs) {g k : Nat} {u : Value} (hA : ∀ ad, A = some ad → ad.block ≠ g) : Rd (w.setCell ⟨g, k, none⟩ u) A xs := fun hne => by
  obtain ⟨ad, e, hc⟩ := hr hne
  refine ⟨ad, e, fun j v hv => ?_⟩
  have hcj := hc j v hv
  have hz : (ad.add j).block = ad.block := by unfold Addr.add; split <;> rfl
  rw [World.cell?_of_block (Below.heap_setCell _ _ _ _ (by rw [hz]; exact hA ad e))]
  exact hcj
/-- lists of cells that lie in new blocks -/
def UpSS (N : Nat) (w : World) (A : Option Addr) (pss : List (List Ce)) : Prop :=
  ∃ xs : List Value, Rd w A xs ∧ (∀ ad, A = some ad → N ≤ ad.block) ∧ xs.length = pss.length ∧ ∀ k (h : k < pss.length), ∃ gk : Nat, xs[k]? = some (.slice (some ⟨gk, 0, none⟩) pss[k].length pss[k].length) ∧ pss[k].length ≤ 7 ∧ N ≤ gk ∧ Wr w N 89 (some ⟨gk, 0, none⟩) (cellsV pss[k])
theorem UpSS.ss {N : Nat} {w : World} {A : Option Addr} {pss : List (List Ce)} (h : UpSS N w A pss) : RdSS w A pss := fun k hk => by
  obtain ⟨xs, h1, h2, h3, h4⟩ := h
  obtain ⟨gk, e, h5, h6, h7⟩ := h4 k hk
  have hx : k < xs.length := by rw [h3]; exact hk
  obtain ⟨b, off, e2, hc⟩ := h1.atE hx
  rw [List.getElem?_eq_getElem hx] at e
  injection e with e
  exact ⟨b, off, _, _, e2, by rw [hc, e], Nat.le_refl _, by unfold maxLen; omega, h7.rd⟩
theorem UpSS.belo {N : Nat} {w w' : World} {A : Option Addr} {pss : List (List Ce)} (h : UpSS N w A pss) (hb : Below w.heap.size w w') : UpSS N w' A pss := by
  obtain ⟨xs, h1, h2, h3, h4⟩ := h
  exact ⟨xs, h1.belo hb, h2, h3, fun k hk => by obtain ⟨gk, a, b, c, d⟩ := h4 k hk; exact ⟨gk, a, b, c, d.belo hb⟩⟩
theorem UpSS.set_ {N : Nat} {w : World} {A : Option Addr} {pss : List (List Ce)} (h : UpSS N w A pss) {g k : Nat} {u : Value} (hg : g < N) : UpSS N (w.setCell ⟨g, k, none⟩ u) A pss := by
  obtain ⟨xs, h1, h2, h3, h4⟩ := h
  refine ⟨xs, h1.set_ (fun ad e => by have := h2 ad e; omega), h2, h3, fun j hj => ?_⟩
  obtain ⟨gk, a, b, c, d⟩ := h4 j hj
  refine ⟨gk, a, b, c, d.keep fun q hq _ => Below.heap_setCell _ _ _ _ ?_⟩
  injection hq with hq; injection hq with hq
  show q ≠ g
  omega
theorem UpSS.of_new {N : Nat} {w w' : World} {A : Option Addr} {xs : List Value} {F : List (List Ce)} (hr : Rd w' A xs) (hA : ∀ ad, A = some ad → w.heap.size ≤ ad.block ∧ ad.block < w'.heap.size) (hh : HeadsR w' xs F) (hf : Fresh w' w.heap.size F.length A xs F) (hN : N ≤ w.heap.size) : UpSS N w' A F :=
  ⟨xs, hr, fun ad e => by have := (hA ad e).1; omega, hh.1, fun k hk => by
    obtain ⟨gk, e, h1, -⟩ := hf k hk hk
    obtain ⟨-, -, -, -, h7, -⟩ := hh.2 k hk
    have := h1.1 _ rfl
    exact ⟨gk, e, h7, by simp only at this; omega, h1.lower hN⟩⟩
/-- the forms of the first pieces -/
def AllF (N : Nat) (w : World) (xs : List Value) (pss : List (List Ce)) (k : Nat) : Prop := ∀ i, i < k → ∃ (Bk : Option Addr) (ck : Nat), xs[i]? = some (.slice Bk (formsV (pss.getD i [])).length ck) ∧ UpSS N w Bk (formsV (pss.getD i []))
theorem AllF.belo {N : Nat} {w w' : World} {xs : List Value} {pss : List (List Ce)} {k : Nat} (h : AllF N w xs pss k) (hb : Below w.heap.size w w') : AllF N w' xs pss k := fun i hi => by
  obtain ⟨Bk, ck, h1, h2⟩ := h i hi
  exact ⟨Bk, ck, h1, h2.belo hb⟩
theorem AllF.put {N : Nat} {w : World} {xs : List Value} {pss : List (List Ce)} {k : Nat} (h : AllF N w xs pss k) (hk : k < xs.length) {g : Nat} (hg : g < N) {Bk : Option Addr} {ck : Nat} (hu : UpSS N w Bk (formsV (pss.getD k []))) :
    AllF N (w.setCell ⟨g, k, none⟩ (.slice Bk (formsV (pss.getD k [])).length ck)) (xs.set k (.slice Bk (formsV (pss.getD k [])).length ck)) pss (k + 1) := fun i hi => by
  rcases Nat.lt_or_ge i k with h1 | h1
  · obtain ⟨B, c, a, b⟩ := h i h1
    exact ⟨B, c, by rw [List.getElem?_set_ne (by omega)]; exact a, b.set_ hg⟩
  · obtain rfl : i = k := by omega
    exact ⟨Bk, ck, List.getElem?_set_self hk, hu.set_ hg⟩
def sumT (pss : List (List Ce)) (k : Nat) : Nat := ((pss.take k).map List.length).sum
theorem sumT_zero (pss : List (List Ce)) : sumT pss 0 = 0 := rfl
theorem sumT_all (pss : List (List Ce)) : sumT pss pss.length = (pss.map List.length).sum := by unfold sumT; rw [List.take_length]
theorem sum_len_snoc (pss : List (List Ce)) {k : Nat} (hk : k < pss.length) : sumT pss (k + 1) = sumT pss k + pss[k].length := by
  unfold sumT
  rw [take_one_more pss k hk, List.map_append, List.sum_append]; simp
theorem sum_len_bd {pss : List (List Ce)} (hp : ∀ k, k < pss.length → PieceOk (pss.getD k [])) : ∀ k, k ≤ pss.length → sumT pss k ≤ 5 * k := by
  intro k
  induction k with
  | zero => intro _; rw [sumT_zero]; omega
  | succ k ih =>
    intro hk
    have h1 := ih (by omega)
    have h2 := (hp k (by omega)).1.2
    rw [List.getD_eq_getElem?_getD, List.getElem?_eq_getElem (by omega)] at h2
    rw [sum_len_snoc pss (by omega)]
    simp only [Option.getD_some] at h2
    omega
/-- all fills, none of another region or other pieces -/
noncomputable def fillsW (W T : Int) (bs : List Bool) (pss : List (List Ce)) : List (List Int) := if validB W T bs = true ∧ (decide (pss.length ≤ 6) && piecesB pss) = true then fillsV W T bs pss else []
theorem fillsW_f {W T : Int} {bs : List Bool} {pss : List (List Ce)} (h : ¬ (validB W T bs = true ∧ (decide (pss.length ≤ 6) && piecesB pss) = true)) : fillsW W T bs pss = [] := by unfold fillsW; rw [if_neg h]
theorem fillsW_t {W T : Int} {bs : List Bool} {pss : List (List Ce)} (h1 : validB W T bs = true) (h2 : (decide (pss.length ≤ 6) && piecesB pss) = true) : fillsW W T bs pss = fillsV W T bs pss := by unfold fillsW; rw [if_pos ⟨h1, h2⟩]
theorem NewRI.nil {w w' : World} (hb : Below w.heap.size w w') : NewRI [] w (.returned (.slice none 0 0)) w' := ⟨none, 0, [], rfl, Nat.le_refl _, fun h => absurd rfl h, HeadsI.nil _, RowsI.nil _ _, fun _ h => (by cases h), hb⟩
theorem pieces_ok {pss : List (List Ce)} (h : (decide (pss.length ≤ 6) && piecesB pss) = true) : pss.length ≤ 6 ∧ ∀ k, k < pss.length → PieceOk (pss.getD k []) := by
  rw [Bool.and_eq_true, decide_eq_true_eq] at h
  refine ⟨h.1, fun k hk => ok_of_pieceB ?_⟩
  have h2 := h.2
  unfold piecesB at h2
  have h3 := @of_decide_eq_true _ (Classical.propDecidable _) h2
  rw [List.getD_eq_getElem?_getD, List.getElem?_eq_getElem hk]
  exact h3 _ (List.getElem_mem hk)
set_option maxRecDepth 100000 in
set_option maxHeartbeats 2000000 in
theorem iFillsAll_f (W T : Int) (A A' : Option Addr) (c c' : Nat) (bs : List Bool) (pss : List (List Ce)) (w : World) (hr : Rd w A (bs.map .bool)) (hn : bs.length ≤ maxLen) (hr' : RdSS w A' pss) (hn' : pss.length ≤ maxLen)
    (h : validB W T bs = false ∨ (decide (pss.length ≤ 6) && piecesB pss) = false) :
    Calls Tryz.prog 15 #[.agg #[.int .i64 W, .int .i64 T, .slice A bs.length c], .slice A' pss.length c'] w (NewRI [] w) := by
  have X0 := (C3.new w (.int .i64 W) (.int .i64 T) (.slice A bs.length c) 25).alloc (.cells #[.slice A' pss.length c'] 26)
  have Z0 := bl_alloc (bl_alloc (Below.refl w.heap.size w) (.cells #[.int .i64 W, .int .i64 T, .slice A bs.length c] 25)) (.cells #[.slice A' pss.length c'] 26)
  have zs : (w.alloc (.cells #[.int .i64 W, .int .i64 T, .slice A bs.length c] 25)).heap.size = w.heap.size + 1 := by simp
  have y0 : ((w.alloc (.cells #[.int .i64 W, .int .i64 T, .slice A bs.length c] 25)).alloc (.cells #[.slice A' pss.length c'] 26)).cell? ⟨w.heap.size + 1, 0, none⟩ = some (.slice A' pss.length c') := by
    rw [← zs, cell_of_row _ _ _ _ _ _ (heap_alloc_new _ _)]; rfl
  obtain ⟨x0, x1, x2⟩ := id X0
  cases hv : validB W T bs with
  | false =>
    have HV := Lib.hid hv
    clear hv h
    go_enter Tryz.func15, Tryz.ntmps15
    go_wp2_with fail
    refine (iRegionValid_any W T A c bs _ ((hr.alloc _).alloc _) hn).mono ?_
    rintro e w1 ⟨rfl, b1⟩
    rw [HV.out]
    have Z1 := bl_go Z0 b1
    go_wp2_with fail
    go_ret
    exact NewRI.nil Z1
  | true =>
    have HV := Lib.hid hv
    have hp : (decide (pss.length ≤ 6) && piecesB pss) = false := by
      rcases h with h | h
      · rw [hv] at h; cases h
      · exact h
    have HP := Lib.hid hp
    clear hv h hp
    go_enter Tryz.func15, Tryz.ntmps15
    go_wp2_with fail
    refine (iRegionValid_any W T A c bs _ ((hr.alloc _).alloc _) hn).mono ?_
    rintro e w1 ⟨rfl, b1⟩
    rw [HV.out]
    have Z1 := bl_go Z0 b1
    have R1 := hr'.belo Z1
    have y1 := cellB b1 y0
    go_wp2_with fail
    refine (iPiecesValid_any _ _ _ _ R1 hn').mono ?_
    rintro e w2 ⟨rfl, b2⟩
    rw [HP.out]
    have Z2 := bl_go Z1 b2
    go_wp2_with fail
    go_ret
    exact NewRI.nil Z2
set_option maxHeartbeats 400000 in
theorem clipLL_any (A : Option Addr) (n c : Nat) (w : World) (h : n ≤ c) :
    Calls Tryz.prog 79 #[.slice A n c] w fun e w' => e = .returned (.slice A n n) ∧ w = w' := by
  go_enter Tryz.func79, Tryz.ntmps79
  go_wp2
  go_ret
  exact ⟨rfl, rfl⟩
set_option maxRecDepth 100000 in
set_option maxHeartbeats 8000000 in
theorem iFillsAll_t (W T : Int) (A A' : Option Addr) (c c' : Nat) (bs : List Bool) (pss : List (List Ce)) (w : World) (hr : Rd w A (bs.map .bool)) (hn : bs.length ≤ maxLen) (hr' : RdSS w A' pss) (hn' : pss.length ≤ maxLen)
    (hv : validB W T bs = true) (hp : (decide (pss.length ≤ 6) && piecesB pss) = true) :
    Calls Tryz.prog 15 #[.agg #[.int .i64 W, .int .i64 T, .slice A bs.length c], .slice A' pss.length c'] w (NewRI (fillsV W T bs pss) w) := by
  obtain ⟨P6, hok⟩ := pieces_ok hp
  have HOK := Lib.hid hok
  have HSB := Lib.hid (sum_len_bd hok)
  have X0 := (C3.new w (.int .i64 W) (.int .i64 T) (.slice A bs.length c) 25).alloc (.cells #[.slice A' pss.length c'] 26)
  have Z0 := bl_alloc (bl_alloc (Below.refl w.heap.size w) (.cells #[.int .i64 W, .int .i64 T, .slice A bs.length c] 25)) (.cells #[.slice A' pss.length c'] 26)
  have zs : (w.alloc (.cells #[.int .i64 W, .int .i64 T, .slice A bs.length c] 25)).heap.size = w.heap.size + 1 := by simp
  have y0 : ((w.alloc (.cells #[.int .i64 W, .int .i64 T, .slice A bs.length c] 25)).alloc (.cells #[.slice A' pss.length c'] 26)).cell? ⟨w.heap.size + 1, 0, none⟩ = some (.slice A' pss.length c') := by
    rw [← zs, cell_of_row _ _ _ _ _ _ (heap_alloc_new _ _)]; rfl
  obtain ⟨x0, x1, x2⟩ := id X0
  have HV := Lib.hid hv
  have HP := Lib.hid hp
  obtain ⟨⟨q1, q6⟩, ⟨t1, t6⟩, hlen, -⟩ := validB_iff.1 hv
  have n36 : bs.length ≤ 36 := by have := mul_bd q1 q6 t1 t6; omega
  have HLEN := Lib.hid hlen
  obtain ⟨i0, hi, hz0, hz1, hz2⟩ := info_parts Tryz.infoSSC
  have hb1 : i0.bytes * pss.length ≤ 281474976710656 := by rw [hz2]; omega
  have HZ := Lib.hid (And.intro hz0 (And.intro hz1 hz2))
  clear hv hp hlen hz0 hz1 hz2 hok zs
  go_enter Tryz.func15, Tryz.ntmps15
  go_wp2_with fail
  refine (iRegionValid_any W T A c bs _ ((hr.alloc _).alloc _) hn).mono ?_
  rintro e w1 ⟨rfl, b1⟩
  rw [HV.out]
  have Z1 := bl_go Z0 b1
  have R1 := hr'.belo Z1
  have y1 := cellB b1 y0
  have X1 := X0.belo b1
  clear x0 x1 x2 X0 y0 b1 Z0
  go_wp2_with fail
  refine (iPiecesValid_any _ _ _ _ R1 hn').mono ?_
  rintro e w2 ⟨rfl, b2⟩
  rw [HP.out]
  have Z2 := bl_go Z1 b2
  have X2 := X1.belo b2
  have y2 := cellB b2 y1
  have r2' := hr'.belo Z2
  have r2 := hr.belo Z2
  clear X1 y1 R1 Z1 b2 hr hr'
  go_wp2_with (at_make; refine wpList_make_full _ rfl _ _ 92 rfl w2.heap.size 26 i0 (.slice none 0 0) 1 Tryz.underlying92 hi HZ.out.1 HZ.out.2.1 .i64 .i64 _ _ pss.length rfl rfl rfl rfl hb1 (by unfold maxLen; omega) (Nat.le_refl _) ?_; intro w3 hown3 hgrow3; have y3 := cellB ((Below.refl w2.heap.size w2).grown hgrow3 (Nat.le_refl _) (fun k hk => by cases hk)) y2; have hy3 := World.block_lt_of_cell? w3 _ y3; simp only at hy3)
  have Wg := (Wr.of_own hown3).belo (bl_alloc (Below.refl w3.heap.size w3) (.cells #[.slice (some ⟨w2.heap.size, 0, none⟩) pss.length pss.length] 92))
  have B3 : Below w2.heap.size w2 (w3.alloc (.cells #[.slice (some ⟨w2.heap.size, 0, none⟩) pss.length pss.length] 92)) := bl_alloc ((Below.refl w2.heap.size w2).grown hgrow3 (Nat.le_refl _) (fun k hk => by cases hk)) _
  have cA3 : (w3.alloc (.cells #[.slice (some ⟨w2.heap.size, 0, none⟩) pss.length pss.length] 92)).cell? ⟨w3.heap.size, 0, none⟩ = some (.slice (some ⟨w2.heap.size, 0, none⟩) pss.length pss.length) := by
    rw [cell_of_row _ _ _ _ _ _ (heap_alloc_new _ _)]; rfl
  have hz3 : w2.heap.size ≤ w3.heap.size := hgrow3.size
  have hmade : (madeCells (Value.slice none 0 0).cells (pss.length * 1)).toList.length = pss.length := by have := hown3.1; omega
  have hGb : pss.length = 0 ∨ w2.heap.size < w3.heap.size := by
    rcases Nat.eq_zero_or_pos pss.length with h | h
    · exact .inl h
    · exact .inr (hown3.lt w2.heap.size rfl).2
  generalize (madeCells (Value.slice none 0 0).cells (pss.length * 1)).toList = xs0 at *
  have hzb : (w3.alloc (.cells #[.slice (some ⟨w2.heap.size, 0, none⟩) pss.length pss.length] 92)).heap.size = w3.heap.size + 1 := by simp
  obtain ⟨N, hN⟩ : ∃ N, w3.heap.size = N := ⟨_, rfl⟩
  rw [hN] at cA3 hzb hz3 hGb
  clear hown3 hgrow3 y3 hy3
  generalize hwb : w3.alloc (.cells #[.slice (some ⟨w2.heap.size, 0, none⟩) pss.length pss.length] 92) = wb at *
  simp only [hN]
  clear hwb hN
  go_loopw [6, 26] (fun s i wr => LpF (fun k => k ≤ pss.length ∧ s = .int .i64 ((sumT pss k : Nat) : Int) ∧ ∃ xs, Hid (xs.length = pss.length) ∧ Wr wr w2.heap.size 26 (some ⟨w2.heap.size, 0, none⟩) xs ∧ AllF (N + 1) wr xs pss k ∧ wr.cell? ⟨N, 0, none⟩ = some (.slice (some ⟨w2.heap.size, 0, none⟩) pss.length pss.length) ∧ Below w2.heap.size w2 wr ∧ N + 1 ≤ wr.heap.size) i) (fun _ i _ => pss.length - (intOf i).toNat)
  case atStart => exact ⟨0, rfl, Nat.zero_le _, rfl, xs0, hmade, Wg, fun i hi => by omega, cA3, B3, by omega⟩
  case round =>
    clear hmade Wg B3 cA3 hzb
    obtain ⟨k, rfl, hk, rfl, xs, HX, Wx, FX, cA, BX, hN⟩ := hrel
    have X4 := X2.belo BX
    have y4 := cellB BX y2
    have r4' := r2'.belo BX
    have hsb := HSB.out k hk
    by_cases hlt : k < pss.length
    · obtain ⟨b, off, Ak, ck, e, h1, h2, h3, h4⟩ := r4' k hlt
      subst e
      have HPK := Lib.hid (show pss.getD k [] = pss[k] by rw [List.getD_eq_getElem?_getD, List.getElem?_eq_getElem hlt]; rfl)
      have hpk := HOK.out k hlt
      have HSN := Lib.hid (sum_len_snoc pss hlt)
      obtain ⟨ps, hps⟩ : ∃ ps, pss[k] = ps := ⟨_, rfl⟩
      rw [hps] at h1 h2 h3 h4 HPK HSN
      rw [HPK.out] at hpk
      clear hps
      have hl5 := hpk.1.2
      have kI : (k : Int) < (pss.length : Int) := by omega
      have CF := Lib.hid (fun (z : World) (R : RdC z Ak ps) => forms_any Ak ck ps z R hpk)
      have hkx : k < xs.length := by rw [HX.out]; exact hlt
      have hne : xs ≠ [] := by intro e; rw [e] at hkx; simp at hkx
      obtain ⟨g0, e0, -, hg0, hfr⟩ := Wx.form hne
      injection e0 with e0
      injection e0 with e0
      subst e0
      have hNg : ¬ (N = w2.heap.size) := by omega
      have cx := Wx.rd.cellE hkx
      simp only [Nat.zero_add] at cx
      obtain ⟨ov, hov⟩ : ∃ ov, wr.cell? ⟨w2.heap.size, k, none⟩ = some ov := ⟨_, cx⟩
      have hfk := hfr k
      have HNE := Lib.hid hne
      clear cx hfr hne hpk
      go_wp2_with fail
      go_region_held3 (fun w' => w'.cell? ⟨N, 0, none⟩ = some (.slice (some ⟨w2.heap.size, 0, none⟩) pss.length pss.length))
        (first | (with_reducible exact cA) | (with_reducible exact dr_cell cA) | (with_reducible exact y5) | (with_reducible exact cellS hNg y5) | go_keep)
        ((go_at_call 73; refine (CF.out wr.drew h4).mono ?_; rintro e w5 ⟨Bk, xk, rfl, Rk, Ok, Hk, Fk, b5⟩; have b5' : Below wr.heap.size wr w5 := bl_go (Below.refl wr.heap.size wr).drew b5; have y5 := kb1 b5 cA; have c5 := kb1 b5 hov; have q5 := Wx.belo b5'; have fr5 : w5.frozen? ⟨w2.heap.size, k, none⟩ = false := by (obtain ⟨g', e', -, -, h'⟩ := q5.form HNE.out; injection e' with e'; injection e' with e' _ _; rw [e']; exact h' k)))
      have U5 : UpSS (N + 1) w5 Bk (formsV ps) := UpSS.of_new (w := wr.drew) Rk Ok Hk Fk hN
      have F6 := (FX.belo b5').put (ck := (formsV ps).length) hkx (show w2.heap.size < N + 1 by omega) (by rw [HPK.out]; exact U5)
      rw [HPK.out] at F6
      have B6 := (bl_go BX b5').setCell (p := ⟨w2.heap.size, k, none⟩) (Nat.le_refl _) (.slice Bk (formsV ps).length (formsV ps).length)
      have hs5 := b5'.size
      have hl5s := HSN.out
      have W6 := q5.store k (.slice Bk (formsV ps).length (formsV ps).length)
      have cA6 : (w5.setCell ⟨w2.heap.size, k, none⟩ (.slice Bk (formsV ps).length (formsV ps).length)).cell? ⟨N, 0, none⟩ = some (.slice (some ⟨w2.heap.size, 0, none⟩) pss.length pss.length) := cellS hNg y5
      go_wp2_with fail
      go_roundw
      case rel => exact ⟨k + 1, by go_num, by omega, by rw [HSN.out, Int.natCast_add], _, by show _ = _; rw [List.length_set, HX.out], W6, F6, cA6, B6, by simp; omega⟩
      case measure => simp [intOf]; omega
    · obtain rfl : k = pss.length := by omega
      have HCNT := Lib.hid (fun (z : World) (R : Rd z A (bs.map .bool)) => many_any A c bs z R hn)
      have rX := r2.belo BX
      obtain ⟨x0, x1, x2⟩ := id X4
      go_wp2_with fail
      refine (HCNT.out _ rX).mono ?_
      rintro e w6 ⟨rfl, rfl⟩
      by_cases hsum : ((sumT pss pss.length : Nat) : Int) = cnt bs
      · have HSUM := Lib.hid (show (((pss.map List.length).sum : Nat) : Int) = cnt bs by rw [← sumT_all]; exact hsum)
        have hq : (((sumT pss pss.length : Nat) : Int) == cnt bs) = true := by rw [beq_iff_eq]; exact hsum
        have n1 : 1 ≤ bs.length := by
          have h1 := Int.mul_le_mul q1 t1 (by omega) (by omega)
          have := HLEN.out
          omega
        obtain ⟨hS, hS2⟩ : ∃ s, sumT pss pss.length = s := ⟨_, rfl⟩
        have CREP := Lib.hid (fun (z : World) (A : Option Addr) (c : Nat) (R : Rd z A [.int .i64 (-1)]) => repeat_one A c (-1) bs.length n1 (by omega) z R)
        have R1 : Rd (wr.alloc (.cells #[.int .i64 (-1)] 3)) (some ⟨wr.heap.size, 0, none⟩) [.int .i64 (-1)] := fun _ => ⟨_, rfl, one_atL _ _ _⟩
        have hx9 := World.block_lt_of_cell? wr _ x2
        simp only at hx9
        clear hsum HCNT HSB hsb
        go_wp2_with fail
        refine (CREP.out _ _ _ R1).mono ?_
        rintro e w7 ⟨A7, rfl, W7, b7⟩
        simp only [List.length_replicate]
        have b7' : Below wr.heap.size wr w7 := (bl_alloc (Below.refl wr.heap.size wr) (.cells #[.int .i64 (-1)] 3)).trans (b7.mono (by simp))
        obtain ⟨F, rfl, hF1, hF2, -⟩ := W7.form (by intro e; have h2 := congrArg List.length e; rw [List.length_map, List.length_replicate, List.length_nil] at h2; omega)
        have hF1' : wr.heap.size < F := by have h := hF1; simp at h; omega
        have y7 := cellB b7' y4
        have hy7 := World.block_lt_of_cell? w7 _ y7
        simp only at hy7
        obtain ⟨ib, hib, hbz0, hbz1, hbz2⟩ := info_parts Tryz.infoB
        have hbb : ib.bytes * pss.length ≤ 281474976710656 := by rw [hbz2]; omega
        have HBZ := Lib.hid (And.intro hbz0 (And.intro hbz1 hbz2))
        clear hbz0 hbz1 hbz2 CREP R1
        go_wp2_with (at_make; refine wpList_make_full _ rfl _ _ 23 rfl (w7.heap.size + 1) 4 ib (.bool false) 1 Tryz.underlying23 hib HBZ.out.1 HBZ.out.2.1 .i64 .i64 _ _ pss.length rfl rfl rfl rfl hbb (by unfold maxLen; omega) (by simp) ?_; intro w8 hown8 hgrow8)
        rw [show (w7.alloc (.cells #[.slice (some ⟨F, 0, none⟩) bs.length bs.length] 27)).heap.size = w7.heap.size + 1 by simp] at hown8
        have hU8 : w7.heap.size + 1 < w8.heap.size := (hown8.lt (w7.heap.size + 1) rfl).2
        have W8 := Wr.of_own hown8
        rw [show (Value.bool false).cells = #[.bool false] from rfl, toList_madeCells_one, show List.replicate (pss.length * 1) (Value.bool false) = (used0 pss.length).map .bool by unfold used0; simp] at W8
        have b8 : Below w7.heap.size w7 w8 := (bl_alloc (Below.refl w7.heap.size w7) (.cells #[.slice (some ⟨F, 0, none⟩) bs.length bs.length] 27)).grown hgrow8 (by simp) (fun k hk => by cases hk)
        have cF8 : w8.cell? ⟨w7.heap.size, 0, none⟩ = some (.slice (some ⟨F, 0, none⟩) bs.length bs.length) :=
          cellH (hgrow8.block w7.heap.size (by simp) (fun e => by cases e)) (by rw [cell_of_row _ _ _ _ _ _ (heap_alloc_new w7 _)]; rfl)
        have bW1 := bl_alloc (Below.refl w8.heap.size w8) (.cells #[.slice (some ⟨w7.heap.size + 1, 0, none⟩) pss.length pss.length] 23)
        have bW2 := bl_alloc bW1 (.cells #[.slice none 0 0] 33)
        have bW : Below w8.heap.size w8 (((w8.alloc (.cells #[.slice (some ⟨w7.heap.size + 1, 0, none⟩) pss.length pss.length] 23)).alloc (.cells #[.slice none 0 0] 33)).alloc (.cells #[.func (.func 76) #[] #[.pointer (some ⟨w7.heap.size, 0, none⟩), .pointer (some ⟨w.heap.size, 0, none⟩), .pointer (some ⟨w8.heap.size + 1, 0, none⟩), .pointer (some ⟨w.heap.size + 1, 0, none⟩), .pointer (some ⟨N, 0, none⟩), .pointer (some ⟨w8.heap.size, 0, none⟩), .pointer (some ⟨w8.heap.size + 1 + 1, 0, none⟩)]] 1)) := bl_alloc bW2 _
        have zW1 : (w8.alloc (.cells #[.slice (some ⟨w7.heap.size + 1, 0, none⟩) pss.length pss.length] 23)).heap.size = w8.heap.size + 1 := by simp
        have zW2 : ((w8.alloc (.cells #[.slice (some ⟨w7.heap.size + 1, 0, none⟩) pss.length pss.length] 23)).alloc (.cells #[.slice none 0 0] 33)).heap.size = w8.heap.size + 1 + 1 := by simp
        have zW : ((((w8.alloc (.cells #[.slice (some ⟨w7.heap.size + 1, 0, none⟩) pss.length pss.length] 23)).alloc (.cells #[.slice none 0 0] 33)).alloc (.cells #[.func (.func 76) #[] #[.pointer (some ⟨w7.heap.size, 0, none⟩), .pointer (some ⟨w.heap.size, 0, none⟩), .pointer (some ⟨w8.heap.size + 1, 0, none⟩), .pointer (some ⟨w.heap.size + 1, 0, none⟩), .pointer (some ⟨N, 0, none⟩), .pointer (some ⟨w8.heap.size, 0, none⟩), .pointer (some ⟨w8.heap.size + 1 + 1, 0, none⟩)]] 1))).heap.size = w8.heap.size + 1 + 1 + 1 := by simp
        have cU : ((((w8.alloc (.cells #[.slice (some ⟨w7.heap.size + 1, 0, none⟩) pss.length pss.length] 23)).alloc (.cells #[.slice none 0 0] 33)).alloc (.cells #[.func (.func 76) #[] #[.pointer (some ⟨w7.heap.size, 0, none⟩), .pointer (some ⟨w.heap.size, 0, none⟩), .pointer (some ⟨w8.heap.size + 1, 0, none⟩), .pointer (some ⟨w.heap.size + 1, 0, none⟩), .pointer (some ⟨N, 0, none⟩), .pointer (some ⟨w8.heap.size, 0, none⟩), .pointer (some ⟨w8.heap.size + 1 + 1, 0, none⟩)]] 1))).cell? ⟨w8.heap.size, 0, none⟩ = some (.slice (some ⟨w7.heap.size + 1, 0, none⟩) pss.length pss.length) := by
          rw [World.cell?_alloc_old _ _ _ (by rw [zW2]; simp only; omega), World.cell?_alloc_old _ _ _ (by rw [zW1]; simp only; omega), cell_of_row _ _ _ _ _ _ (heap_alloc_new w8 _)]; rfl
        have oO : ((((w8.alloc (.cells #[.slice (some ⟨w7.heap.size + 1, 0, none⟩) pss.length pss.length] 23)).alloc (.cells #[.slice none 0 0] 33)).alloc (.cells #[.func (.func 76) #[] #[.pointer (some ⟨w7.heap.size, 0, none⟩), .pointer (some ⟨w.heap.size, 0, none⟩), .pointer (some ⟨w8.heap.size + 1, 0, none⟩), .pointer (some ⟨w.heap.size + 1, 0, none⟩), .pointer (some ⟨N, 0, none⟩), .pointer (some ⟨w8.heap.size, 0, none⟩), .pointer (some ⟨w8.heap.size + 1 + 1, 0, none⟩)]] 1))).heap[w8.heap.size + 1]? = some (.cells #[.slice none 0 0] 33 (0, 0)) := by
          have h := heap_alloc_new (w8.alloc (.cells #[.slice (some ⟨w7.heap.size + 1, 0, none⟩) pss.length pss.length] 23)) (.cells #[.slice none 0 0] 33)
          rw [zW1] at h
          rw [← h]
          exact (bl_alloc (Below.refl _ _) _).block _ (by rw [zW2]; omega)
        have cK : ((((w8.alloc (.cells #[.slice (some ⟨w7.heap.size + 1, 0, none⟩) pss.length pss.length] 23)).alloc (.cells #[.slice none 0 0] 33)).alloc (.cells #[.func (.func 76) #[] #[.pointer (some ⟨w7.heap.size, 0, none⟩), .pointer (some ⟨w.heap.size, 0, none⟩), .pointer (some ⟨w8.heap.size + 1, 0, none⟩), .pointer (some ⟨w.heap.size + 1, 0, none⟩), .pointer (some ⟨N, 0, none⟩), .pointer (some ⟨w8.heap.size, 0, none⟩), .pointer (some ⟨w8.heap.size + 1 + 1, 0, none⟩)]] 1))).cell? ⟨w8.heap.size + 1 + 1, 0, none⟩ = some (.func (.func 76) #[] #[.pointer (some ⟨w7.heap.size, 0, none⟩), .pointer (some ⟨w.heap.size, 0, none⟩), .pointer (some ⟨w8.heap.size + 1, 0, none⟩), .pointer (some ⟨w.heap.size + 1, 0, none⟩), .pointer (some ⟨N, 0, none⟩), .pointer (some ⟨w8.heap.size, 0, none⟩), .pointer (some ⟨w8.heap.size + 1 + 1, 0, none⟩)]) := by
          rw [← zW2, cell_of_row _ _ _ _ _ _ (heap_alloc_new _ _)]; rfl
        have b7z := b7'.size
        have b78 : Below wr.heap.size wr (((w8.alloc (.cells #[.slice (some ⟨w7.heap.size + 1, 0, none⟩) pss.length pss.length] 23)).alloc (.cells #[.slice none 0 0] 33)).alloc (.cells #[.func (.func 76) #[] #[.pointer (some ⟨w7.heap.size, 0, none⟩), .pointer (some ⟨w.heap.size, 0, none⟩), .pointer (some ⟨w8.heap.size + 1, 0, none⟩), .pointer (some ⟨w.heap.size + 1, 0, none⟩), .pointer (some ⟨N, 0, none⟩), .pointer (some ⟨w8.heap.size, 0, none⟩), .pointer (some ⟨w8.heap.size + 1 + 1, 0, none⟩)]] 1)) := bl_go (bl_go b7' b8) bW
        have WF := ((W7.belo b8).belo bW).lower (show wr.heap.size ≤ (wr.alloc (.cells #[.int .i64 (-1)] 3)).heap.size by simp)
        have WU := (W8.belo bW).lower (show wr.heap.size ≤ w7.heap.size + 1 by omega)
        have Fl0 : FlSt wr (w8.heap.size + 1 + 1 + 1) F (w7.heap.size + 1) w7.heap.size (w8.heap.size + 1) w8.heap.size (w8.heap.size + 1 + 1) bs.length pss.length bs.length pss.length (.func (.func 76) #[] #[.pointer (some ⟨w7.heap.size, 0, none⟩), .pointer (some ⟨w.heap.size, 0, none⟩), .pointer (some ⟨w8.heap.size + 1, 0, none⟩), .pointer (some ⟨w.heap.size + 1, 0, none⟩), .pointer (some ⟨N, 0, none⟩), .pointer (some ⟨w8.heap.size, 0, none⟩), .pointer (some ⟨w8.heap.size + 1 + 1, 0, none⟩)]) (fill0 bs.length) (used0 pss.length) (.slice none 0 0) [] [] (((w8.alloc (.cells #[.slice (some ⟨w7.heap.size + 1, 0, none⟩) pss.length pss.length] 23)).alloc (.cells #[.slice none 0 0] 33)).alloc (.cells #[.func (.func 76) #[] #[.pointer (some ⟨w7.heap.size, 0, none⟩), .pointer (some ⟨w.heap.size, 0, none⟩), .pointer (some ⟨w8.heap.size + 1, 0, none⟩), .pointer (some ⟨w.heap.size + 1, 0, none⟩), .pointer (some ⟨N, 0, none⟩), .pointer (some ⟨w8.heap.size, 0, none⟩), .pointer (some ⟨w8.heap.size + 1 + 1, 0, none⟩)]] 1)) :=
          ⟨b78, cellB bW cF8, cU, cK, WF, WU, oO, GrL.nil _ _, fun _ h => absurd h AtL.nil, RowsI.nil _ _, by rw [zW]; exact Nat.le_refl _, by unfold FlD; omega⟩
        have FC : FlC W T bs.length c bs A pss A' c' (some ⟨w2.heap.size, 0, none⟩) pss.length w.heap.size (w.heap.size + 1) N wr :=
          ⟨X4, rX, y4, cA, fun k hk => by
            obtain ⟨Bk, ck, h1, h2⟩ := FX k hk
            obtain ⟨hxk, h1⟩ := List.getElem?_eq_some_iff.1 h1
            have h3 := Wx.rd.cellE hxk
            rw [Nat.zero_add, h1] at h3
            exact ⟨w2.heap.size, 0, Bk, ck, rfl, by rw [Nat.zero_add]; exact h3, h2.ss⟩⟩
        have HCL := Lib.hid (fl_all FC ⟨q1, q6, t1, t6, HLEN.out⟩ rfl HOK.out P6 rfl pss.length _ _ _ _ _ _ Fl0 (st_0 bs pss.length) (by rw [unN_0]; exact Nat.le_refl _) (by have := fills_max W T bs pss false P6 P6 (fill0 bs.length) (used0 pss.length); simp; omega))
        have HV2 := Lib.hid (fillsV_chk (W := W) (T := T) (bs := bs) (pss := pss) ⟨q1, q6, t1, t6, HLEN.out⟩ HOK.out HSUM.out)
        have ZZ := bl_go (bl_go Z2 BX) b78
        refine HCL.out.mono ?_
        rintro e w9 ⟨rfl, v9, xs9, S9, T9⟩
        rw [List.nil_append, HV2.out] at S9
        obtain ⟨xo9, -⟩ := boxF S9.out
        obtain ⟨A9, c9, rfl, hc9, -, -⟩ := S9.gr.form
        obtain ⟨A9', c9', e9, own9⟩ := id S9.gr.own
        have hl9 := S9.gr.hd.1
        injection e9 with e9 e9b e9c
        subst e9
        subst e9c
        rw [hl9] at own9
        have RD9 : Rd w9 A9 xs9 := Rd.own own9
        have HRES := Lib.hid (show NewRI (fillsV W T bs pss) w (.returned (.slice A9 (fillsV W T bs pss).length (fillsV W T bs pss).length)) w9 from by
          refine ⟨A9, _, xs9, rfl, Nat.le_refl _, RD9, S9.gr.hd, S9.row.lower (by have := X4.lt; omega), fun ad ha => ?_, bl_go (bl_go Z2 BX) S9.ok⟩
          have h1 := S9.gr.own.lt ad.block (by rw [ha]; rfl)
          refine ⟨by have := X4.lt; omega, h1.2, fun h => (S9.gr.pt _ h).2 (by rw [ha]; rfl)⟩)
        clear S9 T9 own9 RD9 hl9 ZZ HCL e9b Fl0 FC WF WU b78 cU oO cK zW zW1 zW2 bW bW1 bW2 cF8 b8 W8 hown8 hgrow8 hU8 b7z y7 hy7 W7 b7 b7' x0 x1 x2 X4 y4 r4' cA Wx FX rX
        go_wp2_with (go_at_call 79; refine (clipLL_any _ _ _ _ hc9).mono ?_; rintro e w' ⟨rfl, rfl⟩)
        go_ret
        exact HRES.out
      · have HNO := Lib.hid (fillsV_none (W := W) (T := T) (bs := bs) (pss := pss) ⟨q1, q6, t1, t6, HLEN.out⟩ (by rw [← sumT_all]; exact hsum))
        have hq : (((sumT pss pss.length : Nat) : Int) == cnt bs) = false := by rw [beq_eq_false_iff_ne]; exact hsum
        go_wp2_with fail
        go_ret
        rw [HNO.out]
        exact NewRI.nil (bl_go Z2 BX)
theorem iFillsAll_any (W T : Int) (A A' : Option Addr) (c c' : Nat) (bs : List Bool) (pss : List (List Ce)) (w : World) (hr : Rd w A (bs.map .bool)) (hn : bs.length ≤ maxLen) (hr' : RdSS w A' pss) (hn' : pss.length ≤ maxLen) :
    Calls Tryz.prog 15 #[.agg #[.int .i64 W, .int .i64 T, .slice A bs.length c], .slice A' pss.length c'] w (NewRI (fillsW W T bs pss) w) := by
  cases h1 : validB W T bs with
  | false =>
    rw [fillsW_f (fun h => by rw [h1] at h; cases h.1)]
    exact iFillsAll_f W T A A' c c' bs pss w hr hn hr' hn' (.inl h1)
  | true =>
    cases h2 : (decide (pss.length ≤ 6) && piecesB pss) with
    | false =>
      rw [fillsW_f (fun h => by rw [h2] at h; cases h.2)]
      exact iFillsAll_f W T A A' c c' bs pss w hr hn hr' hn' (.inr h2)
    | true =>
      rw [fillsW_t h1 h2]
      exact iFillsAll_t W T A A' c c' bs pss w hr hn hr' hn' h1 h2
end Go.Proofs.YtejkbjcmndnfeaaGreat
