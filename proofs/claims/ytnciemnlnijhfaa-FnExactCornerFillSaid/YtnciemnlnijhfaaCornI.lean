/- Contract: the program's CornerFill. -/
import Derived.Test.YtnciemnlnijhfaaCornN
import Derived.Test.YtnciemnlnijhfaaRepI
import Derived.Test.YtnciemnlnijhfaaAlive
namespace Go.Proofs.Ytnciemnlnijhfaa
open Go.RowKit

/-- all but two blocks is as it was -/
structure Two (g b : Nat) (w w' : World) : Prop where
  os : w'.os = w.os
  tape : w'.tape = w.tape
  output : w'.output = w.output
  size : w.heap.size ≤ w'.heap.size
  block : ∀ i, i < w.heap.size → i ≠ g → i ≠ b → w'.heap[i]? = w.heap[i]?
theorem Two.refl (g b : Nat) (w : World) : Two g b w w := ⟨rfl, rfl, rfl, Nat.le_refl _, fun _ _ _ _ => rfl⟩
theorem Two.trans {g b : Nat} {w1 w2 w3 : World} (h : Two g b w1 w2) (k : Two g b w2 w3) : Two g b w1 w3 :=
  ⟨k.os.trans h.os, k.tape.trans h.tape, k.output.trans h.output, Nat.le_trans h.size k.size, fun i hi h1 h2 => (k.block i (Nat.lt_of_lt_of_le hi h.size) h1 h2).trans (h.block i hi h1 h2)⟩
theorem Two.below {g b : Nat} {w w' : World} (h : Below w.heap.size w w') : Two g b w w' := ⟨h.os, h.tape, h.output, h.size, fun i hi _ _ => h.block i hi⟩
theorem Two.set {g b : Nat} (w : World) {p : Addr} (hp : p.block = g ∨ p.block = b) (u : Value) : Two g b w (w.setCell p u) :=
  ⟨rfl, rfl, rfl, by simp [World.setCell], fun i _ h1 h2 => Below.heap_setCell _ _ _ _ (by rcases hp with h | h <;> omega)⟩
theorem Two.cell {g b : Nat} {w w' : World} (h : Two g b w w') {i k : Nat} {v : Value} (hc : w.cell? ⟨i, k, none⟩ = some v) (h1 : i ≠ g) (h2 : i ≠ b) : w'.cell? ⟨i, k, none⟩ = some v := by
  have hlt : i < w.heap.size := by have := World.block_lt_of_cell? w _ hc; simpa using this
  rw [World.cell?_of_block (h.block i hlt h1 h2)]; exact hc
theorem heap_ltC {w : World} {b : Nat} {o : Obj} (h : w.heap[b]? = some o) : b < w.heap.size := by
  rcases Nat.lt_or_ge b w.heap.size with h1 | h1
  · exact h1
  · rw [Array.getElem?_eq_none h1] at h; cases h
theorem Two.alloc {g b : Nat} {w w' : World} (h : Two g b w w') (o : Obj) : Two g b w (w'.alloc o) := h.trans (.below (bl_alloc (Below.refl _ _) o))
theorem Two.setB {g b : Nat} {w w' : World} (h : Two g b w w') (i : Nat) (u : Value) : Two g b w (w'.setCell ⟨b, i, none⟩ u) := h.trans (Two.set (g := g) (b := b) w' (p := ⟨b, i, none⟩) (.inr rfl) u)
theorem Two.setG {g b : Nat} {w w' : World} (h : Two g b w w') (i : Nat) (u : Value) : Two g b w (w'.setCell ⟨g, i, none⟩ u) := h.trans (Two.set (g := g) (b := b) w' (p := ⟨g, i, none⟩) (.inl rfl) u)
structure CrnSt (side : Nat) (c g bn bf bs bk lo : Nat) (F : List Int) (n : Nat) (w : World) : Prop where
  sd : w.cell? ⟨bs, 0, none⟩ = some (.int .i64 side)
  fl : w.cell? ⟨bf, 0, none⟩ = some (.slice (some ⟨g, 0, none⟩) (side * side) c)
  nx : w.heap[bn]? = some (.cells #[.int .i64 n] 3 (0, 0))
  wk : w.cell? ⟨bk, 0, none⟩ = some (.func (.func 84) #[] #[.pointer (some ⟨bn, 0, none⟩), .pointer (some ⟨bf, 0, none⟩), .pointer (some ⟨bs, 0, none⟩), .pointer (some ⟨bk, 0, none⟩)])
  row : Wr w lo 3 (some ⟨g, 0, none⟩) (F.map (.int .i64))
  len : Hid (F.length = side * side)
  d1 : bs ≠ g ∧ bs ≠ bn
  d2 : bf ≠ g ∧ bf ≠ bn
  d3 : bk ≠ g ∧ bk ≠ bn
  d4 : g ≠ bn
theorem CrnSt.two {side c g bn bf bs bk lo n : Nat} {F : List Int} {w w' : World} (h : CrnSt side c g bn bf bs bk lo F n w) (hb : Below w.heap.size w w') : CrnSt side c g bn bf bs bk lo F n w' :=
  ⟨(hb.cell (p := ⟨bs, 0, none⟩) (World.block_lt_of_cell? w _ h.sd)).trans h.sd, (hb.cell (p := ⟨bf, 0, none⟩) (World.block_lt_of_cell? w _ h.fl)).trans h.fl,
    (hb.block bn (heap_ltC h.nx)).trans h.nx, (hb.cell (p := ⟨bk, 0, none⟩) (World.block_lt_of_cell? w _ h.wk)).trans h.wk, h.row.belo hb, h.len, h.d1, h.d2, h.d3, h.d4⟩
theorem CrnSt.lt {side c g bn bf bs bk lo n : Nat} {F : List Int} {w : World} (h : CrnSt side c g bn bf bs bk lo F n w) : bs < w.heap.size ∧ bf < w.heap.size ∧ bn < w.heap.size ∧ bk < w.heap.size :=
  ⟨by have := World.block_lt_of_cell? w _ h.sd; simpa using this, by have := World.block_lt_of_cell? w _ h.fl; simpa using this, heap_ltC h.nx, by have := World.block_lt_of_cell? w _ h.wk; simpa using this⟩
/-- a number written -/
theorem CrnSt.put {side c g bn bf bs bk lo n : Nat} {F : List Int} {w : World} (h : CrnSt side c g bn bf bs bk lo F n w) (j : Nat) (v : Int) : CrnSt side c g bn bf bs bk lo (F.set j v) n (w.setCell ⟨g, j, none⟩ (.int .i64 v)) := by
  have hk : ∀ i, i ≠ g → ∀ q : Nat, (w.setCell ⟨g, j, none⟩ (.int .i64 v)).cell? ⟨i, q, none⟩ = w.cell? ⟨i, q, none⟩ := fun i hi q => World.cell?_setCell_other w _ _ _ (fun e => hi (by injection e with e1; exact e1.symm))
  refine ⟨(hk _ h.d1.1 0).trans h.sd, (hk _ h.d2.1 0).trans h.fl, (Below.heap_setCell _ _ _ _ (by simp; exact fun e => h.d4 e.symm)).trans h.nx, (hk _ h.d3.1 0).trans h.wk, ?_, ?_, h.d1, h.d2, h.d3, h.d4⟩
  · rw [List.map_set]; exact h.row.store j _
  · show _ = _; rw [List.length_set]; exact h.len.out
/-- the next number -/
theorem CrnSt.inc {side c g bn bf bs bk lo n : Nat} {F : List Int} {w : World} (h : CrnSt side c g bn bf bs bk lo F n w) (m : Nat) : CrnSt side c g bn bf bs bk lo F m (w.setCell ⟨bn, 0, none⟩ (.int .i64 m)) := by
  have hk : ∀ i, i ≠ bn → ∀ q : Nat, (w.setCell ⟨bn, 0, none⟩ (.int .i64 m)).cell? ⟨i, q, none⟩ = w.cell? ⟨i, q, none⟩ := fun i hi q => World.cell?_setCell_other w _ _ _ (fun e => hi (by injection e with e1; exact e1.symm))
  refine ⟨(hk _ h.d1.2 0).trans h.sd, (hk _ h.d2.2 0).trans h.fl, ?_, (hk _ h.d3.2 0).trans h.wk, ?_, h.len, h.d1, h.d2, h.d3, h.d4⟩
  · have := heap_setCell_same w bn 0 #[.int .i64 n] 3 (.int .i64 m) h.nx
    simpa using this
  · exact h.row.keep fun q hq _ => Below.heap_setCell _ _ _ _ (by injection hq with hq; injection hq with hq; subst hq; exact fun e => h.d4 (by simpa using e))
def CrnOk (side : Nat) (c g bn bf bs bk lo f x y : Nat) : Prop :=
  ∀ (w : World) (F : List Int) (n gx gy : Nat), CrnSt side c g bn bf bs bk lo F n w → gx < side → gy < side → n + 5 ^ f ≤ 1000 →
    Calls Try.prog 84 #[.int .i64 x, .int .i64 y, .int .i64 ((2 ^ f : Nat) : Int), .agg #[.int .i64 gx, .int .i64 gy], .pointer (some ⟨bn, 0, none⟩), .pointer (some ⟨bf, 0, none⟩), .pointer (some ⟨bs, 0, none⟩), .pointer (some ⟨bk, 0, none⟩)] w
      fun e w' => e = .returned (.tuple #[]) ∧ (∃ m : Nat, (crnI side f x y gx gy (F, n)).2 = m ∧ m ≤ n + 5 ^ f ∧ CrnSt side c g bn bf bs bk lo (crnI side f x y gx gy (F, n)).1 m w') ∧ Two g bn w w'
set_option maxHeartbeats 1000000 in
theorem crn_zero (side c g bn bf bs bk lo x y : Nat) : CrnOk side c g bn bf bs bk lo 0 x y := by
  intro w F n gx gy S h3 h4 h5
  have e0 : (((2 ^ 0 : Nat) : Int) == 1) = true := by decide
  have S1 := S.two (bl_alloc (Below.refl w.heap.size w) (.cells #[.int .i64 gx, .int .i64 gy] 49))
  have B1 : Two g bn w _ := .below (bl_alloc (Below.refl w.heap.size w) (.cells #[.int .i64 gx, .int .i64 gy] 49))
  clear S
  generalize ((2 ^ 0 : Nat) : Int) = l at *
  go_enter Try.func84, Try.ntmps84
  go_wp2
  exact bodyPost_ret (v := .tuple #[]) (by simp [results, Try.results84, go_sem]) rfl ⟨rfl, ⟨n, rfl, by omega, S1⟩, B1⟩
/-- the quarters so far -/
def crnQ (side f x y gx gy : Nat) (s : List Int × Int) (q : Nat) : List Int × Int :=
  (List.range q).foldl (fun s q => crnI side f (x + q % 2 * 2 ^ f) (y + q / 2 * 2 ^ f) (crnX x y (2 ^ f) gx gy q).1 (crnX x y (2 ^ f) gx gy q).2 s) s
theorem crnQ_step (side f x y gx gy : Nat) (s : List Int × Int) (q : Nat) : crnQ side f x y gx gy s (q + 1) = crnI side f (x + q % 2 * 2 ^ f) (y + q / 2 * 2 ^ f) (crnX x y (2 ^ f) gx gy q).1 (crnX x y (2 ^ f) gx gy q).2 (crnQ side f x y gx gy s q) := by
  unfold crnQ; rw [List.range_succ, List.foldl_append]; rfl
theorem crnI_eq (side f x y gx gy : Nat) (F : List Int) (n : Int) : crnI side (f + 1) x y gx gy (F, n) = crnQ side f x y gx gy (crnL side x y (2 ^ f) gx gy n F 4, n + 1) 4 := rfl
/-- the array of gaps -/
def gapA (G : Nat → Nat × Nat) (q : Nat) : Array Value :=
  #[.int .i64 (if 0 < q then (G 0).1 else 0 : Nat), .int .i64 (if 0 < q then (G 0).2 else 0 : Nat), .int .i64 (if 1 < q then (G 1).1 else 0 : Nat), .int .i64 (if 1 < q then (G 1).2 else 0 : Nat),
    .int .i64 (if 2 < q then (G 2).1 else 0 : Nat), .int .i64 (if 2 < q then (G 2).2 else 0 : Nat), .int .i64 (if 3 < q then (G 3).1 else 0 : Nat), .int .i64 (if 3 < q then (G 3).2 else 0 : Nat)]
theorem cells_of {w : World} {g N : Nat} {F : List Int} {lo : Nat} (h : Wr w lo 3 (some ⟨g, 0, none⟩) (F.map (.int .i64))) (hl : F.length = N) {j : Nat} (hj : j < N) : (∃ ov, w.cell? ⟨g, j, none⟩ = some ov) ∧ w.frozen? ⟨g, j, none⟩ = false := by
  have hne : F.map (Value.int .i64) ≠ [] := by intro e; have := congrArg List.length e; rw [List.length_map, hl] at this; simp at this; omega
  obtain ⟨g', e, -, -, hf⟩ := h.form hne
  injection e with e; injection e with e; subst e
  have := h.rd.cellEM (k := j) (by rw [hl]; exact hj)
  rw [Nat.zero_add] at this
  exact ⟨⟨_, this⟩, hf j⟩
theorem gap_set (G : Nat → Nat × Nat) (q : Nat) (hq : q < 4) : ((gapA G q).setIfInBounds (q * 2) (.int .i64 ((G q).1 : Nat))).setIfInBounds (q * 2 + 1) (.int .i64 ((G q).2 : Nat)) = gapA G (q + 1) := by
  rcases (show q = 0 ∨ q = 1 ∨ q = 2 ∨ q = 3 from by omega) with rfl | rfl | rfl | rfl <;> rfl
/-- the first loop: q quarters have their gaps -/
structure Lp1 (side x y h c g bn bf bs bk lo gx gy n : Nat) (F : List Int) (w : World) (q : Nat) (wr : World) : Prop where
  st : CrnSt side c g bn bf bs bk lo (crnL side x y h gx gy n F q) (n + 1) wr
  box : wr.heap[w.heap.size]? = some (.cells #[.int .i64 gx, .int .i64 gy] 49 (0, 0))
  gaps : wr.heap[w.heap.size + 1]? = some (.cells (gapA (crnX x y h gx gy) q) 96 (0, 0))
  two : Two g bn w wr
  lt : g < w.heap.size ∧ bn < w.heap.size ∧ bs < w.heap.size ∧ bf < w.heap.size ∧ bk < w.heap.size
theorem gaps_put {w wr : World} {G : Nat → Nat × Nat} {q : Nat} {t : TypeId} (hq : q < 4) (h : wr.heap[w.heap.size + 1]? = some (.cells (gapA G q) t (0, 0))) :
    ((wr.setCell ⟨w.heap.size + 1, q * 2, none⟩ (.int .i64 ((G q).1 : Nat))).setCell ⟨w.heap.size + 1, q * 2 + 1, none⟩ (.int .i64 ((G q).2 : Nat))).heap[w.heap.size + 1]? = some (.cells (gapA G (q + 1)) t (0, 0)) := by
  rw [← gap_set G q hq]
  exact heap_setCell_same _ _ _ _ _ _ (heap_setCell_same _ _ _ _ _ _ h)
theorem CrnSt.far {side c g bn bf bs bk lo n : Nat} {F : List Int} {w : World} (h : CrnSt side c g bn bf bs bk lo F n w) {b : Nat} (i : Nat) (u : Value) (hb : g < b ∧ bn < b ∧ bs < b ∧ bf < b ∧ bk < b) : CrnSt side c g bn bf bs bk lo F n (w.setCell ⟨b, i, none⟩ u) := by
  have hk : ∀ j, j < b → ∀ q : Nat, (w.setCell ⟨b, i, none⟩ u).cell? ⟨j, q, none⟩ = w.cell? ⟨j, q, none⟩ := fun j hj q => World.cell?_setCell_other w _ _ _ (fun e => by injection e with e1; omega)
  exact ⟨(hk _ hb.2.2.1 0).trans h.sd, (hk _ hb.2.2.2.1 0).trans h.fl, (Below.heap_setCell _ _ _ _ (by simp; omega)).trans h.nx, (hk _ hb.2.2.2.2 0).trans h.wk,
    h.row.keep fun q hq _ => Below.heap_setCell _ _ _ _ (by injection hq with hq; injection hq with hq; subst hq; simp; omega), h.len, h.d1, h.d2, h.d3, h.d4⟩
theorem Two.setN {g b : Nat} {w w' : World} (h : Two g b w w') {i : Nat} (k : Nat) (u : Value) (hi : w.heap.size ≤ i) : Two g b w (w'.setCell ⟨i, k, none⟩ u) :=
  ⟨h.os, h.tape, h.output, by simp [World.setCell]; exact h.size, fun j hj h1 h2 => (Below.heap_setCell _ _ _ _ (by simp; omega)).trans (h.block j hj h1 h2)⟩
theorem Lp1.keep {side x y h c g bn bf bs bk lo gx gy n : Nat} {F : List Int} {w : World} {q : Nat} {wr : World} (H : Lp1 side x y h c g bn bf bs bk lo gx gy n F w q wr) (hq : q < 4) (hin : crnIn x y h gx gy q = true) (o : Obj) :
    Lp1 side x y h c g bn bf bs bk lo gx gy n F w (q + 1) (((wr.setCell ⟨w.heap.size + 1, q * 2, none⟩ (.int .i64 gx)).setCell ⟨w.heap.size + 1, q * 2 + 1, none⟩ (.int .i64 gy)).alloc o) := by
  have hG : crnX x y h gx gy q = (gx, gy) := by unfold crnX; rw [if_pos hin]
  have hL : crnL side x y h gx gy n F (q + 1) = crnL side x y h gx gy n F q := by show crnF _ _ _ _ _ _ _ _ _ = _; unfold crnF; rw [if_pos hin]
  have e := gaps_put hq H.gaps
  rw [hG] at e
  have l := H.lt
  refine ⟨?_, ?_, ?_, ((H.two.setN _ _ (by omega)).setN _ _ (by omega)).alloc o, l⟩
  · rw [hL]; exact ((H.st.far _ _ (by omega)).far _ _ (by omega)).two (bl_alloc (Below.refl _ _) o)
  · rw [(bl_alloc (Below.refl _ _) o).block _ (by simp; have := heap_ltC H.box; omega), Below.heap_setCell _ _ _ _ (by simp), Below.heap_setCell _ _ _ _ (by simp)]; exact H.box
  · rw [(bl_alloc (Below.refl _ _) o).block _ (by simp; have := heap_ltC H.gaps; omega)]; exact e
theorem Lp1.put {side x y h c g bn bf bs bk lo gx gy n : Nat} {F : List Int} {w : World} {q : Nat} {wr : World} (H : Lp1 side x y h c g bn bf bs bk lo gx gy n F w q wr) (hq : q < 4) (hin : crnIn x y h gx gy q = false) (o : Obj) :
    Lp1 side x y h c g bn bf bs bk lo gx gy n F w (q + 1) ((((wr.setCell ⟨g, (y + h - 1 + q / 2) * side + (x + h - 1 + q % 2), none⟩ (.int .i64 n)).setCell ⟨w.heap.size + 1, q * 2, none⟩ (.int .i64 ((x + h - 1 + q % 2 : Nat) : Int))).setCell ⟨w.heap.size + 1, q * 2 + 1, none⟩ (.int .i64 ((y + h - 1 + q / 2 : Nat) : Int))).alloc o) := by
  have hG : crnX x y h gx gy q = (x + h - 1 + q % 2, y + h - 1 + q / 2) := by unfold crnX; rw [if_neg (by rw [hin]; decide)]
  have hL : crnL side x y h gx gy n F (q + 1) = (crnL side x y h gx gy n F q).set ((y + h - 1 + q / 2) * side + (x + h - 1 + q % 2)) n := by show crnF _ _ _ _ _ _ _ _ _ = _; unfold crnF; rw [if_neg (by rw [hin]; decide)]
  have l := H.lt
  have e := gaps_put (w := w) (wr := wr.setCell ⟨g, (y + h - 1 + q / 2) * side + (x + h - 1 + q % 2), none⟩ (.int .i64 n)) hq ((Below.heap_setCell _ _ _ _ (by simp; omega)).trans H.gaps)
  rw [hG] at e
  refine ⟨?_, ?_, ?_, (((H.two.setG _ _).setN _ _ (by omega)).setN _ _ (by omega)).alloc o, l⟩
  · rw [hL]; exact (((H.st.put _ _).far _ _ (by omega)).far _ _ (by omega)).two (bl_alloc (Below.refl _ _) o)
  · rw [(bl_alloc (Below.refl _ _) o).block _ (by simp; have := heap_ltC H.box; omega), Below.heap_setCell _ _ _ _ (by simp), Below.heap_setCell _ _ _ _ (by simp), Below.heap_setCell _ _ _ _ (by simp; omega)]; exact H.box
  · rw [(bl_alloc (Below.refl _ _) o).block _ (by simp; have := heap_ltC H.gaps; omega)]; exact e
theorem crnX_lt {side x y h gx gy q : Nat} (h1 : gx < side) (h2 : gy < side) (h3 : x + h - 1 + q % 2 < side) (h4 : y + h - 1 + q / 2 < side) : (crnX x y h gx gy q).1 < side ∧ (crnX x y h gx gy q).2 < side := by
  unfold crnX; split
  · exact ⟨h1, h2⟩
  · exact ⟨h3, h4⟩
/-- the second loop: q quarters are filled -/
def Lp2 (side f x y c g bn bf bs bk lo gx gy : Nat) (s : List Int × Int) (n : Nat) (w : World) (q : Nat) (wr : World) : Prop :=
  ∃ m : Nat, (crnQ side f x y gx gy s q).2 = m ∧ m ≤ n + q * 5 ^ f ∧ CrnSt side c g bn bf bs bk lo (crnQ side f x y gx gy s q).1 m wr ∧ Two g bn w wr
theorem Lp2.next {side f x y c g bn bf bs bk lo gx gy : Nat} {s : List Int × Int} {n : Nat} {w : World} {q m a b X Y : Nat} {w4 w5 : World} (hX : x + q % 2 * 2 ^ f = X) (hY : y + q / 2 * 2 ^ f = Y) (hG : Hid (crnX x y (2 ^ f) gx gy q = (a, b)))
    (hm : (crnQ side f x y gx gy s q).2 = m) (hle : m ≤ n + q * 5 ^ f) (hT : Two g bn w w4)
    (hpost : (∃ m' : Nat, (crnI side f X Y a b ((crnQ side f x y gx gy s q).1, (m : Int))).2 = m' ∧ m' ≤ m + 5 ^ f ∧ CrnSt side c g bn bf bs bk lo (crnI side f X Y a b ((crnQ side f x y gx gy s q).1, (m : Int))).1 m' w5) ∧ Two g bn w4 w5) :
    Lp2 side f x y c g bn bf bs bk lo gx gy s n w (q + 1) w5 := by
  obtain ⟨⟨m', e, hl, S⟩, T⟩ := hpost
  have e0 : ((crnQ side f x y gx gy s q).1, (m : Int)) = crnQ side f x y gx gy s q := by rw [← hm]
  have e1 : crnQ side f x y gx gy s (q + 1) = crnI side f X Y a b (crnQ side f x y gx gy s q) := by rw [crnQ_step, hG.out, hX, hY]
  rw [e0] at e S
  refine ⟨m', by rw [e1]; exact e, ?_, by rw [e1]; exact S, hT.trans T⟩
  rw [Nat.succ_mul]; omega
end Go.Proofs.Ytnciemnlnijhfaa
