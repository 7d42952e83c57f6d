
/- Contracts: the draws of truths and of regions. -/
import Derived.Test.YtohbnogmeldmpaaDraw
import Derived.Test.YtohbnogmeldmpaaBoxes
import Derived.Test.YtohbnogmeldmpaaGb
import Derived.Deep.RegionLaw
namespace Go.Proofs.Ytohbnogmeldmpaa
open Go.RowKit

section
set_option maxRecDepth 100000
variable {ops : Array Oper} {rest : List Oper} {o : Oper} {a : Act} {Q : Exit → Act → World → Prop}
theorem step_app_bool {K : Act → World → Prop} {E : Prop} (W : World) (hgd : o.guard = none) (s x : Operand) (ho : o.op = .call { callee := .builtin .append, args := #[s, x], argTypes := #[25, 25] })
    (base : Nat) (v : Value) (xs : List Bool) (hs : a.eval s = v) (hown : OwnB W base v xs) (u : Bool) (H : Nat) (hx : a.eval x = .slice (some ⟨H, 0, none⟩) 1 1) (hc : W.cell? ⟨H, 0, none⟩ = some (.bool u)) (hn : xs.length ≤ 1000000000000) (hbase : base ≤ W.heap.size)
    (h : ∀ (v' : Value) (w' : World), OwnB w' base v' (xs ++ [u]) → Below base W w' → K (a.put o.dst v') w') :
    if Region.wanted o (yielded ops a.tmps) = true then Oper.wp Try.prog o a W K Q else E := by
  obtain ⟨i0, hi, hz0, hz1, hz2⟩ := info_parts Try.infoB
  obtain ⟨A, c, e, hown⟩ := hown
  refine step_append_lies _ hgd s x 25 ho base 4 i0 (.bool false) 1 1 Try.underlying25 hi hz0 hz1 hz2 rfl (by decide) v _ _ hs hown ⟨H, 0, none⟩ 1 1 [.bool u] hx rfl ?_ ?_ (by decide) ?_ ?_ ?_ _ rfl ?_
  · intro j y hj
    match j, hj with
    | 0, hj => simp at hj; subst hj; simpa [Addr.add] using hc
  · intro y hy; simp at hy; subst hy; rfl
  · unfold maxLen; omega
  · omega
  · exact hbase
  · intro g cap w' h1 h2 h3 _
    have e1 : xs.map Value.bool ++ [.bool u] = (xs ++ [u]).map .bool := by simp
    rw [e1] at h1
    refine h _ w' ⟨_, _, by simp; exact ⟨rfl, rfl⟩, ?_⟩ ((Below.refl base W).grown h2 hbase (fun k hk => (hown.lt k hk).1))
    have e2 : (xs ++ [u]).length = xs.length + 1 := by simp
    rw [e2]; exact h1
end
/-- a truth is handed back -/
def SomeBit (g : Nat) (A : Option Addr) (c : Nat) (bytes : List Int) (p : Nat) (w : World) (e : Ending) (w' : World) : Prop :=
  ∃ (b : Bool) (p' : Nat), e = .returned (.bool b) ∧ RdS w' g A c bytes p' ∧ p' ≤ p + 1 ∧ w.grownBy w' (some g)
set_option maxHeartbeats 1000000 in
theorem odd_any (n : Int) (w : World) (g : Nat) (A : Option Addr) (c : Nat) (bytes : List Int) (p : Nat) (h : RdS w g A c bytes p) (hp : p ≤ 1000000000) (hn0 : 0 ≤ n) (hn : n ≤ 1000) :
    Calls Try.prog 38 #[.pointer (some ⟨g, 0, none⟩), .int .i64 n] w (SomeBit g A c bytes p w) := by
  by_cases h0 : n = 0
  · subst h0
    go_enter Try.func38, Try.ntmps38
    go_wp2
    go_ret
    exact ⟨false, p, rfl, h, by omega, World.grownBy.refl _ _⟩
  · have h1 : 0 < n := by omega
    clear h0
    go_enter Try.func38, Try.ntmps38
    go_wp2_with fail
    refine (pick_any n _ g A c bytes p h hp (by omega)).mono ?_
    rintro e w2 ⟨r, rfl, -, S2, G2⟩
    go_wp2
    go_ret
    exact ⟨_, p + 1, rfl, S2, by omega, G2⟩
/-- a region is handed back; the reader has gone on -/
def SomeReg (g : Nat) (A : Option Addr) (c : Nat) (bytes : List Int) (p more : Nat) (w : World) (e : Ending) (w' : World) : Prop :=
  ∃ (W T : Int) (bs : List Bool) (B : Option Addr) (k p' : Nat), e = .returned (.agg #[.int .i64 W, .int .i64 T, .slice B bs.length k]) ∧ Rd w' B (bs.map .bool) ∧ bs.length ≤ 37 ∧ RdS w' g A c bytes p' ∧ p' ≤ p + more ∧ w.grownBy w' (some g) ∧ (∀ ad, B = some ad → w.heap.size ≤ ad.block)
/-- a region under way: its box at bx, the list its own -/
structure RegI (w : World) (g bx : Nat) (A : Option Addr) (c : Nat) (bytes : List Int) (W T : Int) (q : Nat) (xs : List Bool) (v : Value) (wr : World) : Prop where
  own : OwnB wr (bx + 1) v xs
  box : wr.heap[bx]? = some (.cells #[.int .i64 W, .int .i64 T, v] 27 (0, 0))
  res : wr.heap[w.heap.size]? = some (.cells #[.int .i64 0, .int .i64 0, .slice none 0 0] 27 (0, 0))
  rds : RdS wr g A c bytes q
  ha : bytes ≠ [] → ∀ ad, A = some ad → ad.block < w.heap.size
  gb : w.grownBy wr (some g)
  hg : g < w.heap.size
  hb : w.heap.size < bx
theorem heap_lt {w : World} {b : Nat} {o : Obj} (h : w.heap[b]? = some o) : b < w.heap.size := by
  rcases Nat.lt_or_ge b w.heap.size with h1 | h1
  · exact h1
  · rw [Array.getElem?_eq_none h1] at h; cases h
section
variable {w wr w' : World} {g bx : Nat} {A : Option Addr} {c : Nat} {bytes : List Int} {W T : Int} {q : Nat} {xs : List Bool} {v : Value}
theorem RegI.pick (h : RegI w g bx A c bytes W T q xs v wr) {q' : Nat} (S : RdS w' g A c bytes q') (G : wr.grownBy w' (some g)) : RegI w g bx A c bytes W T q' xs v w' :=
  ⟨h.own.grown G (by have := h.hg; have := h.hb; omega), (G.block bx (heap_lt h.box) (by have := h.hg; have := h.hb; simp; omega)).trans h.box, (G.block _ (heap_lt h.res) (by have := h.hg; simp; omega)).trans h.res, S, h.ha, grownBy_trans' h.gb G, h.hg, h.hb⟩
theorem RegI.below (h : RegI w g bx A c bytes W T q xs v wr) (hb : Below wr.heap.size wr w') : RegI w g bx A c bytes W T q xs v w' :=
  ⟨h.own.belo hb, (hb.block bx (heap_lt h.box)).trans h.box, (hb.block _ (heap_lt h.res)).trans h.res, h.rds.below (heap_lt h.rds.1) hb, h.ha, gb_below h.gb hb, h.hg, h.hb⟩
/-- a cell of the box is written -/
theorem RegI.put (h : RegI w g bx A c bytes W T q xs v wr) {W' T' : Int} {v' u : Value} {ys : List Bool} {i : Nat} (own : OwnB w' (bx + 1) v' ys) (hb : Below (bx + 1) wr w')
    (he : (#[.int .i64 W, .int .i64 T, v] : Array Value).setIfInBounds i u = #[.int .i64 W', .int .i64 T', v']) :
    RegI w g bx A c bytes W' T' q ys v' (w'.setCell ⟨bx, i, none⟩ u) := by
  have hgb := h.hg
  have hbb := h.hb
  have e := (hb.block bx (by omega)).trans h.box
  have hk : ∀ j, j < bx + 1 → j ≠ bx → (w'.setCell ⟨bx, i, none⟩ u).heap[j]? = wr.heap[j]? := fun j hi hne => by
    rw [Below.heap_setCell _ _ _ _ (by simpa using hne)]; exact hb.block j hi
  refine ⟨own.set (by simp) _, ?_, (hk _ (by omega) (by omega)).trans h.res, ?_, h.ha, ?_, h.hg, h.hb⟩
  · rw [heap_setCell_same w' bx i _ _ _ e, he]
  · obtain ⟨r1, r2, r3, r4⟩ := h.rds
    refine ⟨(hk g (by omega) (by omega)).trans r1, fun hne => ?_, r3, r4⟩
    obtain ⟨ad, ha, hc⟩ := r2 hne
    have hlt := h.ha (by simpa using hne) ad ha
    refine ⟨ad, ha, fun j u hu => ?_⟩
    have hab : (ad.add j).block = ad.block := by unfold Addr.add; split <;> rfl
    have e1 := hk ad.block (by omega) (by omega)
    rw [← hab] at e1
    exact (World.cell?_of_block (a := ad.add j) e1).trans (hc j u hu)
  · exact ⟨hb.os.trans h.gb.os, hb.tape.trans h.gb.tape, hb.output.trans h.gb.output, by have := h.gb.size; have := hb.size; simp [World.setCell]; omega, fun i hi hn => by
      rw [Below.heap_setCell _ _ _ _ (by simp; omega)]; exact (hb.block i (by omega)).trans (h.gb.block i hi hn)⟩
/-- one truth more -/
theorem RegI.app (h : RegI w g bx A c bytes W T q xs v wr) {v' : Value} {ys : List Bool} (own : OwnB w' (bx + 1) v' ys) (hb : Below (bx + 1) wr w') :
    RegI w g bx A c bytes W T q ys v' (w'.setCell ⟨bx, 2, none⟩ v') := h.put own hb (by simp)
theorem RegI.tall (h : RegI w g bx A c bytes W T q xs v wr) (U : Int) : RegI w g bx A c bytes W U q xs v (wr.setCell ⟨bx, 1, none⟩ (.int .i64 U)) := h.put h.own (Below.refl _ _) (by simp)
theorem RegI.six (h : RegI w g bx A c bytes W T q xs v wr) : RegI w g bx A c bytes 6 6 q [] (.slice none 0 0) (((wr.setCell ⟨bx, 0, none⟩ (.int .i64 6)).setCell ⟨bx, 1, none⟩ (.int .i64 6)).setCell ⟨bx, 2, none⟩ (.slice none 0 0)) := by
  have h1 : RegI w g bx A c bytes 6 T q xs v (wr.setCell ⟨bx, 0, none⟩ (.int .i64 6)) := h.put h.own (Below.refl _ _) (by simp)
  have h2 := h1.tall 6
  exact h2.put (OwnB.nil _ _) (Below.refl _ _) (by simp)
theorem RegI.new (K : w.grownBy wr (some g)) (P : wr.heap[w.heap.size]? = some (.cells #[.int .i64 0, .int .i64 0, .slice none 0 0] 27 (0, 0))) (S : RdS wr g A c bytes q) (hA : bytes ≠ [] → ∀ ad, A = some ad → ad.block < w.heap.size) (hg : g < w.heap.size) (W T : Int) :
    RegI w g wr.heap.size A c bytes W T q [] (.slice none 0 0) (wr.alloc (.cells #[.int .i64 W, .int .i64 T, .slice none 0 0] 27)) :=
  ⟨OwnB.nil _ _, heap_alloc_new _ _, ((bl_alloc (Below.refl _ _) _).block _ (heap_lt P)).trans P, S.below (heap_lt S.1) (bl_alloc (Below.refl _ _) _), hA, gb_below K (bl_alloc (Below.refl _ _) _), hg, heap_lt P⟩
theorem RegI.cells (h : RegI w g bx A c bytes W T q xs v wr) : bx < wr.heap.size ∧ wr.cell? ⟨bx, 0, none⟩ = some (.int .i64 W) ∧ wr.cell? ⟨bx, 1, none⟩ = some (.int .i64 T) ∧ wr.cell? ⟨bx, 2, none⟩ = some v ∧ wr.frozen? ⟨bx, 2, none⟩ = false := by
  obtain ⟨a, b, c, d, e, f⟩ := blk3 h.box
  exact ⟨heap_lt h.box, a, b, c, f⟩
theorem reg_set {i : Nat} {u : Value} (o : OwnB wr (bx + 1) v xs) (r : RdS wr g A c bytes q) (k : w.grownBy wr (some g)) (ha : bytes ≠ [] → ∀ ad, A = some ad → ad.block < w.heap.size) (hg : g < w.heap.size) (hb : w.heap.size < bx) :
    OwnB (wr.setCell ⟨w.heap.size, i, none⟩ u) (bx + 1) v xs ∧ RdS (wr.setCell ⟨w.heap.size, i, none⟩ u) g A c bytes q ∧ w.grownBy (wr.setCell ⟨w.heap.size, i, none⟩ u) (some g) := by
  have hk : ∀ j, j < w.heap.size → (wr.setCell ⟨w.heap.size, i, none⟩ u).heap[j]? = wr.heap[j]? := fun j hi => Below.heap_setCell _ _ _ _ (by simp; omega)
  refine ⟨o.set (by simp; omega) _, ?_, ⟨k.os, k.tape, k.output, by have := k.size; simp [World.setCell]; omega, fun j hi hn => (hk j hi).trans (k.block j hi hn)⟩⟩
  obtain ⟨r1, r2, r3, r4⟩ := r
  refine ⟨(hk g hg).trans r1, fun hne => ?_, r3, r4⟩
  obtain ⟨ad, h1, hc⟩ := r2 hne
  have hlt := ha (by simpa using hne) ad h1
  refine ⟨ad, h1, fun j u hu => ?_⟩
  have hab : (ad.add j).block = ad.block := by unfold Addr.add; split <;> rfl
  have e1 := hk ad.block (by omega)
  rw [← hab] at e1
  exact (World.cell?_of_block (a := ad.add j) e1).trans (hc j u hu)
/-- it is handed back -/
theorem RegI.done (h : RegI w g bx A c bytes W T q xs v wr) {W' T' : Int} {ys : List Bool} {B : Option Addr} {k p more : Nat} (own : OwnB wr (bx + 1) (.slice B ys.length k) ys) (hn : ys.length ≤ 37) (hq : q ≤ p + more) :
    SomeReg g A c bytes p more w (.returned (.agg #[.int .i64 W', .int .i64 T', .slice B ys.length k])) (((wr.setCell ⟨w.heap.size, 0, none⟩ (.int .i64 W')).setCell ⟨w.heap.size, 1, none⟩ (.int .i64 T')).setCell ⟨w.heap.size, 2, none⟩ (.slice B ys.length k)) := by
  obtain ⟨o1, r1, k1⟩ := reg_set (i := 0) (u := .int .i64 W') own h.rds h.gb h.ha h.hg h.hb
  obtain ⟨o2, r2, k2⟩ := reg_set (i := 1) (u := .int .i64 T') o1 r1 k1 h.ha h.hg h.hb
  obtain ⟨o3, r3, k3⟩ := reg_set (i := 2) (u := .slice B ys.length k) o2 r2 k2 h.ha h.hg h.hb
  have hb := h.hb
  obtain ⟨A', c', e, o⟩ := id o3
  injection e with e1 e2 e3
  subst e1; subst e3
  exact ⟨W', T', ys, _, _, q, rfl, Rd.own o, hn, r3, hq, k3, fun ad ha => by subst ha; have := (o.lt ad.block rfl).1; omega⟩
end
end Go.Proofs.Ytohbnogmeldmpaa
