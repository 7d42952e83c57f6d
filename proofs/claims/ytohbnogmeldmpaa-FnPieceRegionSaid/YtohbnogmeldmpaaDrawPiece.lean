
/- Contract: spec.l20Piece: some list of cells that are near. (printed by wip/gen_piece.py) -/
import Derived.Test.YtohbnogmeldmpaaDrawReg
import Derived.Test.YtohbnogmeldmpaaCellHas
import Derived.Test.YtohbnogmeldmpaaCellApp
import Derived.Test.YtohbnogmeldmpaaRegZ
namespace Go.Proofs.Ytohbnogmeldmpaa
open Go.RowKit

theorem OwnC.grown {w w' : World} {base g : Nat} {v : Value} {ps : List Ce} (h : OwnC w base v ps) (hg : w.grownBy w' (some g)) (hlt : g < base) : OwnC w' base v ps := by
  obtain ⟨A, c, e, h⟩ := h
  refine ⟨A, c, e, h.kept hg ?_⟩
  rcases h.2 with ⟨h', _⟩ | ⟨g', cap', cur, h', hb, _⟩
  · left; rw [h']; rfl
  · right; rw [h']; intro e2; simp [Value.ownBlock] at e2; omega
/-- all cells are near -/
def NearC (b : Int) (ps : List Ce) : Prop := ∀ q ∈ ps, -b ≤ q.1 ∧ q.1 ≤ b ∧ -b ≤ q.2 ∧ q.2 ≤ b
theorem OwnC.cap {w : World} {base n c : Nat} {A : Option Addr} {ps : List Ce} (h : OwnC w base (.slice A n c) ps) : n ≤ c := by
  obtain ⟨A', c', e, h⟩ := h
  injection e with e1 e2 e3
  rcases h.2 with ⟨h', h0⟩ | ⟨g', cap', cur, h', hb, hh, hle, _⟩
  · rw [e2, h0]; exact Nat.zero_le _
  · injection h' with h1 h2 h3
    omega
theorem gb_app {w wr w' : World} {row : Option Nat} (h : w.grownBy wr row) (hb : Below w.heap.size wr w') : w.grownBy w' row :=
  ⟨hb.os.trans h.os, hb.tape.trans h.tape, hb.output.trans h.output, Nat.le_trans h.size hb.size, fun k hk hn => (hb.block k hk).trans (h.block k hk hn)⟩
theorem RdS.app {w w' : World} {B g : Nat} {A : Option Addr} {c : Nat} {bytes : List Int} {p : Nat} (h : RdS w g A c bytes p) (hg : g < B) (hA : bytes ≠ [] → ∀ ad, A = some ad → ad.block < B) (hb : Below B w w') : RdS w' g A c bytes p := by
  refine ⟨(hb.block g hg).trans h.1, fun hne => ?_, h.2.2⟩
  obtain ⟨ad, e, hc⟩ := h.2.1 hne
  refine ⟨ad, e, fun j u hu => ?_⟩
  have hlt := hA (by intro e2; subst e2; exact hne rfl) ad e
  rw [hb.cell (by unfold Addr.add; split <;> simpa using hlt)]
  exact hc j u hu
theorem NearC.more {b b' : Int} {ps : List Ce} {x y : Int} (h : NearC b ps) (hb : b ≤ b') (h1 : -b' ≤ x) (h2 : x ≤ b') (h3 : -b' ≤ y) (h4 : y ≤ b') : NearC b' (ps ++ [(x, y)]) := by
  intro a ha
  rcases List.mem_append.1 ha with ha | ha
  · have := h a ha; omega
  · simp at ha; subst ha; exact ⟨h1, h2, h3, h4⟩
theorem set_grownZ (w : World) (p : Addr) (u : Value) : w.grownBy (w.setCell p u) (some p.block) :=
  ⟨rfl, rfl, rfl, by simp [World.setCell], fun i _ hn => Below.heap_setCell _ _ _ _ (fun e => hn (by simp [e]))⟩
/-- a piece under way: its cells, the box of the next one -/
structure PcI (w : World) (g bq : Nat) (A : Option Addr) (c : Nat) (bytes : List Int) (q : Nat) (ps : List Ce) (v : Value) (x y : Int) (wr : World) : Prop where
  own : OwnC wr w.heap.size v ps
  sep : v.ownBlock ≠ some bq
  box : wr.heap[bq]? = some (.cells #[.int .i64 x, .int .i64 y] 42 (0, 0))
  rds : RdS wr g A c bytes q
  ha : bytes ≠ [] → ∀ ad, A = some ad → ad.block < w.heap.size
  gb : w.grownBy wr (some g)
  hg : g < w.heap.size
  hb : w.heap.size ≤ bq
section
variable {w wr w' : World} {g bq : Nat} {A : Option Addr} {c : Nat} {bytes : List Int} {q : Nat} {ps : List Ce} {v : Value} {x y : Int}
theorem PcI.pick (h : PcI w g bq A c bytes q ps v x y wr) {q' : Nat} (S : RdS w' g A c bytes q') (G : wr.grownBy w' (some g)) : PcI w g bq A c bytes q' ps v x y w' :=
  ⟨h.own.grown G h.hg, h.sep, (G.block bq (heap_lt h.box) (by have := h.hg; have := h.hb; simp; omega)).trans h.box, S, h.ha, grownBy_trans' h.gb G, h.hg, h.hb⟩
theorem PcI.below (h : PcI w g bq A c bytes q ps v x y wr) (hb : Below wr.heap.size wr w') : PcI w g bq A c bytes q ps v x y w' :=
  ⟨h.own.belo hb, h.sep, (hb.block bq (heap_lt h.box)).trans h.box, h.rds.below (heap_lt h.rds.1) hb, h.ha, gb_below h.gb hb, h.hg, h.hb⟩
theorem PcI.drew (h : PcI w g bq A c bytes q ps v x y wr) : PcI w g bq A c bytes q ps v x y wr.drew :=
  ⟨h.own, h.sep, h.box, h.rds, h.ha, ⟨h.gb.1, h.gb.2, h.gb.3, h.gb.4, h.gb.5⟩, h.hg, h.hb⟩
theorem PcI.cells (h : PcI w g bq A c bytes q ps v x y wr) : wr.cell? ⟨bq, 0, none⟩ = some (.int .i64 x) ∧ wr.cell? ⟨bq, 1, none⟩ = some (.int .i64 y) ∧ wr.frozen? ⟨bq, 0, none⟩ = false ∧ wr.frozen? ⟨bq, 1, none⟩ = false :=
  ⟨cell_of_row _ _ _ _ _ _ h.box, cell_of_row _ _ _ _ _ _ h.box, frozen_of_row _ _ _ _ _ h.box, frozen_of_row _ _ _ _ _ h.box⟩
theorem PcI.set (h : PcI w g bq A c bytes q ps v x y wr) (i : Nat) (u : Value) (x' y' : Int) (hb : (#[Value.int .i64 x, .int .i64 y].setIfInBounds i u) = #[.int .i64 x', .int .i64 y']) : PcI w g bq A c bytes q ps v x' y' (wr.setCell ⟨bq, i, none⟩ u) := by
  have G := set_grownZ wr ⟨bq, i, none⟩ u
  have hne : g ≠ bq := by have := h.hg; have := h.hb; omega
  refine ⟨?_, h.sep, ?_, ⟨?_, ?_, h.rds.2.2⟩, h.ha, ?_, h.hg, h.hb⟩
  · obtain ⟨B, c', e, ho⟩ := h.own
    exact ⟨B, c', e, ho.kept G (.inr h.sep)⟩
  · rw [heap_setCell_same wr bq i _ _ _ h.box, hb]
  · rw [Below.heap_setCell _ _ _ _ hne]; exact h.rds.1
  · exact h.rds.2.1.grownBelow G (fun hn ad ha e => by have := h.ha (by simpa using hn) ad ha; have := h.hb; have e' : ad.block = bq := (by simpa using e); omega)
  · have hs := h.gb.size
    refine ⟨h.gb.1, h.gb.2, h.gb.3, by simp [World.setCell]; exact hs, fun i' h1 h2 => ?_⟩
    rw [Below.heap_setCell _ _ _ _ (by have := h.hb; intro e; simp at e; omega)]
    exact h.gb.block i' h1 h2
theorem PcI.put (h : PcI w g bq A c bytes q ps v x y wr) (x' y' : Int) : PcI w g bq A c bytes q ps v x' y' ((wr.setCell ⟨bq, 0, none⟩ (.int .i64 x')).setCell ⟨bq, 1, none⟩ (.int .i64 y')) :=
  (h.set 0 (.int .i64 x') x' y rfl).set 1 (.int .i64 y') x' y' rfl
end
/-- what l20Piece leaves: a list of its own of at most 7 cells -/
def Piecy (g : Nat) (A : Option Addr) (c : Nat) (bytes : List Int) (p : Nat) (w : World) (e : Ending) (w' : World) : Prop :=
  ∃ (B : Option Addr) (c' : Nat) (ps : List Ce) (p' : Nat), e = .returned (.slice B ps.length c') ∧ OwnC w' w.heap.size (.slice B ps.length c') ps ∧ ps.length ≤ c' ∧ ps.length ≤ 7 ∧ NearC 10 ps ∧ RdS w' g A c bytes p' ∧ p' ≤ p + 20 ∧ w.grownBy w' (some g)
set_option maxRecDepth 100000 in
set_option maxHeartbeats 4000000 in
theorem piece_any (g : Nat) (A : Option Addr) (c : Nat) (bytes : List Int) (p : Nat) (most n : Int) (w : World) (h : RdS w g A c bytes p) (hgw : g < w.heap.size) (hp : p ≤ 100000000) (hm : 1 ≤ most ∧ most ≤ 6) (hn : 0 ≤ n ∧ n ≤ 20) :
    Calls Try.prog 16 #[.pointer (some ⟨g, 0, none⟩), .int .i64 most, .int .i64 n] w (Piecy g A c bytes p w) := by
  obtain ⟨m1, m2⟩ := hm
  have hA : bytes ≠ [] → ∀ ad, A = some ad → ad.block < w.heap.size := fun hne ad ha => h.2.1.lt ha (by simpa using hne)
  go_enter Try.func16, Try.ntmps16
  go_wp2_with fail
  refine (pick_any 7 _ g A c bytes p h (by omega) (by omega)).mono ?_
  rintro e w2 ⟨r1, rfl, ⟨p1, q1⟩, S2, G2⟩
  have q1' : r1 ≤ 6 := by omega
  clear q1 h
  go_wp2_with fail
  refine (pick_any 7 _ g A c bytes _ S2 (by omega) (by omega)).mono ?_
  rintro e w3 ⟨r2, rfl, ⟨p2, q2⟩, S3, G3⟩
  have q2' : r2 ≤ 6 := by omega
  have T3 := grownBy_trans' G2 G3
  have N3 := T3.size
  clear q2 S2 G2 G3
  have ws1 : IntKind.i64.wrap (r1 - 3) = r1 - 3 := IntWalk.i64_in _ (by omega)
  have ws2 : IntKind.i64.wrap (r2 - 3) = r2 - 3 := IntWalk.i64_in _ (by omega)
  have B3 := (Below.refl w3.heap.size w3).alloc (Nat.le_refl _) (.cells #[.int .i64 (r1 - 3), .int .i64 (r2 - 3)] 42)
  have S4 := S3.below (heap_lt S3.1) B3
  have T4 := gb_below T3 B3
  have W3 := OwnC.one w3 (r1 - 3, r2 - 3)
  have z3 : w3.heap.size < (w3.alloc (.cells #[.int .i64 (r1 - 3), .int .i64 (r2 - 3)] 42)).heap.size := by simp
  clear S3 T3 B3
  go_wp2_with fail
  generalize w3.alloc (.cells #[.int .i64 (r1 - 3), .int .i64 (r2 - 3)] 42) = w4 at *
  refine (pick_any most _ g A c bytes _ S4 (by omega) (by omega)).mono ?_
  rintro e w5 ⟨r3, rfl, ⟨p3, q3⟩, S5, G5⟩
  have T5 := grownBy_trans' T4 G5
  have W5 := (W3.grown G5 (by omega)).base (base' := w.heap.size) (by omega)
  have q3' : r3 ≤ 5 := by omega
  clear q3 S4 W3 G5 T4
  go_wp2_with fail
  go_loopw [7, 8] (fun v i wr => ∃ (ps : List Ce) (k q : Nat), i = .int .i64 k ∧ k ≤ 5 ∧ OwnC wr w.heap.size v ps ∧ 1 ≤ ps.length ∧ ps.length + k ≤ 6 ∧ q + 2 * k ≤ p + 14 ∧ NearC (8 - k) ps ∧ RdS wr g A c bytes q ∧ w.grownBy wr (some g)) (fun _ i _ => (intOf i).toNat)
  case atStart =>
    obtain ⟨k, rfl⟩ := Int.eq_ofNat_of_zero_le p3
    exact ⟨_, k, _, rfl, by omega, W5, Nat.le_refl _, by simp; omega, by omega, by intro q hq; simp at hq; subst hq; simp only; omega, S5, T5⟩
  case round =>
    clear W5 S5 T5
    obtain ⟨ps, k, q, rfl, hk, W5, l1, l2, hq, near, S5, T5⟩ := hrel
    obtain ⟨Ak, ck, rfl, hwk⟩ := id W5
    have hcap := W5.cap
    clear hwk
    by_cases h0 : 0 < k
    · have hk0 : (0 : Int) < (k : Int) := by omega
      go_wp2_with fail
      refine (pick_any ps.length _ g A c bytes _ S5 (by omega) (by omega)).mono ?_
      rintro e w6 ⟨r4, rfl, ⟨p4, q4⟩, S6, G6⟩
      have W6 := W5.grown G6 hgw
      have T6 := grownBy_trans' T5 G6
      obtain ⟨j, rfl⟩ := Int.eq_ofNat_of_zero_le p4
      have hj : j < ps.length := by omega
      have hjI : (j : Int) < (ps.length : Int) := by omega
      obtain ⟨b, off, rfl, c0, c1⟩ := RdC.at_ (w := w6) (OwnC.rd W6) hj
      have hnear := near ps[j] (List.getElem_mem hj)
      generalize ps[j] = t at c0 c1 hnear
      obtain ⟨x, y⟩ := t
      simp only at c0 c1 hnear
      obtain ⟨n1, n2, n3, n4⟩ := hnear
      clear q4 S5 W5 T5 G6
      go_wp2_with fail
      have P7 : (w6.alloc (.cells #[.int .i64 x, .int .i64 y] 42)).heap[w6.heap.size]? = some (.cells #[.int .i64 x, .int .i64 y] 42 (0, 0)) := heap_alloc_new w6 _
      have B7 := (Below.refl w6.heap.size w6).alloc (Nat.le_refl _) (.cells #[.int .i64 x, .int .i64 y] 42)
      have H7 : PcI w g w6.heap.size A c bytes (q + 1) ps (.slice (some ⟨b, off, none⟩) ps.length ck) x y (w6.alloc (.cells #[.int .i64 x, .int .i64 y] 42)) :=
        ⟨W6.belo B7, by obtain ⟨B', c', e, ho⟩ := id W6; intro e2; have := (ho.lt _ e2).2; omega, P7, S6.below (heap_lt S6.1) B7, hA, gb_below T6 B7, hgw, T6.size⟩
      clear S6 W6 B7 c0 c1 T6 P7
      generalize w6.heap.size = bq at *
      have e1 : IntKind.i64.wrap (x + 1) = x + 1 := IntWalk.i64_in _ (by omega)
      have e2 : IntKind.i64.wrap (y + 1) = y + 1 := IntWalk.i64_in _ (by omega)
      have e3 : IntKind.i64.wrap (x - 1) = x - 1 := IntWalk.i64_in _ (by omega)
      have e4 : IntKind.i64.wrap (y - 1) = y - 1 := IntWalk.i64_in _ (by omega)
      refine region_anyZ (fun z => z.cell? ⟨bq, 0, none⟩ = some (.int .i64 x) ∧ z.cell? ⟨bq, 1, none⟩ = some (.int .i64 y)) 29 (by kernel_rfl) ?_
      have H7 := H7.drew
      generalize (w6.alloc (.cells #[.int .i64 x, .int .i64 y] 42)).drew = wd at *
      obtain ⟨x0, x1, -, -⟩ := H7.cells
      have hS0 : wd.cell? ⟨bq, 0, none⟩ = some (.int .i64 x) ∧ wd.cell? ⟨bq, 1, none⟩ = some (.int .i64 y) := ⟨x0, x1⟩
      have hbq : bq < wd.heap.size := heap_lt H7.box
      refine anyZ_take 0 (v := ?_) rfl (by kernel_rfl) (by kernel_rfl) (by kernel_rfl) (by kernel_rfl) (fun _ _ _ h => h) (by rfl) (fun w hSw => ?_) (by assumption) ?_
      rotate_left
      · obtain ⟨hs0, hs1⟩ := hSw; go_simp; try with_reducible rfl
      try simp only [Act.put, List.setIfInBounds_toArray, List.set_cons_zero, List.set_cons_succ]
      refine anyZ_take 1 (v := ?_) rfl (by kernel_rfl) (by kernel_rfl) (by kernel_rfl) (by kernel_rfl) (fun _ _ _ h => h) (by rfl) (fun w hSw => ?_) (by assumption) ?_
      rotate_left
      · obtain ⟨hs0, hs1⟩ := hSw; go_simp; try with_reducible rfl
      try simp only [Act.put, List.setIfInBounds_toArray, List.set_cons_zero, List.set_cons_succ]
      refine anyZ_take 2 (v := ?_) rfl (by kernel_rfl) (by kernel_rfl) (by kernel_rfl) (by kernel_rfl) (fun _ _ _ h => h) (by rfl) (fun w hSw => ?_) (by assumption) ?_
      rotate_left
      · obtain ⟨hs0, hs1⟩ := hSw; go_simp; try with_reducible rfl
      try simp only [Act.put, List.setIfInBounds_toArray, List.set_cons_zero, List.set_cons_succ]
      refine anyZ_take 3 (v := ?_) rfl (by kernel_rfl) (by kernel_rfl) (by kernel_rfl) (by kernel_rfl) (fun _ _ _ h => h) (by rfl) (fun w hSw => ?_) (by assumption) ?_
      rotate_left
      · obtain ⟨hs0, hs1⟩ := hSw; go_simp; try with_reducible rfl
      try simp only [Act.put, List.setIfInBounds_toArray, List.set_cons_zero, List.set_cons_succ]
      refine anyZ_take 4 (v := ?_) rfl (by kernel_rfl) (by kernel_rfl) (by kernel_rfl) (by kernel_rfl) (fun _ _ _ h => h) (by rfl) (fun w hSw => ?_) (by assumption) ?_
      rotate_left
      · obtain ⟨hs0, hs1⟩ := hSw; go_simp; try with_reducible rfl
      try simp only [Act.put, List.setIfInBounds_toArray, List.set_cons_zero, List.set_cons_succ]
      refine anyZ_take 5 (v := ?_) rfl (by kernel_rfl) (by kernel_rfl) (by kernel_rfl) (by kernel_rfl) (fun _ _ _ h => h) (by rfl) (fun w hSw => ?_) (by assumption) ?_
      rotate_left
      · obtain ⟨hs0, hs1⟩ := hSw; go_simp; try with_reducible rfl
      try simp only [Act.put, List.setIfInBounds_toArray, List.set_cons_zero, List.set_cons_succ]
      refine anyZ_take 6 (v := ?_) rfl (by kernel_rfl) (by kernel_rfl) (by kernel_rfl) (by kernel_rfl) (fun _ _ _ h => h) (by rfl) (fun w hSw => ?_) (by assumption) ?_
      rotate_left
      · obtain ⟨hs0, hs1⟩ := hSw; go_simp; try with_reducible rfl
      try simp only [Act.put, List.setIfInBounds_toArray, List.set_cons_zero, List.set_cons_succ]
      refine anyZ_take 7 (v := ?_) rfl (by kernel_rfl) (by kernel_rfl) (by kernel_rfl) (by kernel_rfl) (fun _ _ _ h => h) (by rfl) (fun w hSw => ?_) (by assumption) ?_
      rotate_left
      · obtain ⟨hs0, hs1⟩ := hSw; go_simp; try with_reducible rfl
      try simp only [Act.put, List.setIfInBounds_toArray, List.set_cons_zero, List.set_cons_succ]
      refine anyZ_take 8 (v := ?_) rfl (by kernel_rfl) (by kernel_rfl) (by kernel_rfl) (by kernel_rfl) (fun _ _ _ h => h) (by rfl) (fun w hSw => ?_) (by assumption) ?_
      rotate_left
      · obtain ⟨hs0, hs1⟩ := hSw; go_simp; try with_reducible rfl
      try simp only [Act.put, List.setIfInBounds_toArray, List.set_cons_zero, List.set_cons_succ]
      refine anyZ_take 9 (v := ?_) rfl (by kernel_rfl) (by kernel_rfl) (by kernel_rfl) (by kernel_rfl) (fun _ _ _ h => h) (by rfl) (fun w hSw => ?_) (by assumption) ?_
      rotate_left
      · obtain ⟨hs0, hs1⟩ := hSw; go_simp; try with_reducible rfl
      try simp only [Act.put, List.setIfInBounds_toArray, List.set_cons_zero, List.set_cons_succ]
      refine anyZ_take 10 (v := ?_) rfl (by kernel_rfl) (by kernel_rfl) (by kernel_rfl) (by kernel_rfl) (fun _ _ _ h => h) (by rfl) (fun w hSw => ?_) (by assumption) ?_
      rotate_left
      · obtain ⟨hs0, hs1⟩ := hSw; go_simp; try with_reducible rfl
      try simp only [Act.put, List.setIfInBounds_toArray, List.set_cons_zero, List.set_cons_succ]
      refine anyZ_take 11 (v := ?_) rfl (by kernel_rfl) (by kernel_rfl) (by kernel_rfl) (by kernel_rfl) (fun _ _ _ h => h) (by rfl) (fun w hSw => ?_) (by assumption) ?_
      rotate_left
      · obtain ⟨hs0, hs1⟩ := hSw; go_simp; try with_reducible rfl
      try simp only [Act.put, List.setIfInBounds_toArray, List.set_cons_zero, List.set_cons_succ]
      refine anyZ_take 12 (v := ?_) rfl (by kernel_rfl) (by kernel_rfl) (by kernel_rfl) (by kernel_rfl) (fun _ _ _ h => h) (by rfl) (fun w hSw => ?_) (by assumption) ?_
      rotate_left
      · obtain ⟨hs0, hs1⟩ := hSw; go_simp; try with_reducible rfl
      try simp only [Act.put, List.setIfInBounds_toArray, List.set_cons_zero, List.set_cons_succ]
      refine anyZ_take 13 (v := ?_) rfl (by kernel_rfl) (by kernel_rfl) (by kernel_rfl) (by kernel_rfl) (fun _ _ _ h => h) (by rfl) (fun w hSw => ?_) (by assumption) ?_
      rotate_left
      · obtain ⟨hs0, hs1⟩ := hSw; go_simp; try with_reducible rfl
      try simp only [Act.put, List.setIfInBounds_toArray, List.set_cons_zero, List.set_cons_succ]
      refine anyZ_take 14 (v := ?_) rfl (by kernel_rfl) (by kernel_rfl) (by kernel_rfl) (by kernel_rfl) (fun _ _ _ h => h) (by rfl) (fun w hSw => ?_) (by assumption) ?_
      rotate_left
      · obtain ⟨hs0, hs1⟩ := hSw; go_simp; try with_reducible rfl
      try simp only [Act.put, List.setIfInBounds_toArray, List.set_cons_zero, List.set_cons_succ]
      refine anyZ_take 15 (v := ?_) rfl (by kernel_rfl) (by kernel_rfl) (by kernel_rfl) (by kernel_rfl) (fun _ _ _ h => h) (by rfl) (fun w hSw => ?_) (by assumption) ?_
      rotate_left
      · obtain ⟨hs0, hs1⟩ := hSw; go_simp; try with_reducible rfl
      try simp only [Act.put, List.setIfInBounds_toArray, List.set_cons_zero, List.set_cons_succ]
      refine anyZ_take 16 (v := ?_) rfl (by kernel_rfl) (by kernel_rfl) (by kernel_rfl) (by kernel_rfl) (fun _ _ _ h => h) (by rfl) (fun w hSw => ?_) (by assumption) ?_
      rotate_left
      · obtain ⟨hs0, hs1⟩ := hSw; go_simp; try with_reducible rfl
      try simp only [Act.put, List.setIfInBounds_toArray, List.set_cons_zero, List.set_cons_succ]
      refine anyZ_take 17 (v := ?_) rfl (by kernel_rfl) (by kernel_rfl) (by kernel_rfl) (by kernel_rfl) (fun _ _ _ h => h) (by rfl) (fun w hSw => ?_) (by assumption) ?_
      rotate_left
      · obtain ⟨hs0, hs1⟩ := hSw; go_simp; try with_reducible rfl
      try simp only [Act.put, List.setIfInBounds_toArray, List.set_cons_zero, List.set_cons_succ]
      refine anyZ_take 18 (v := ?_) rfl (by kernel_rfl) (by kernel_rfl) (by kernel_rfl) (by kernel_rfl) (fun _ _ _ h => h) (by rfl) (fun w hSw => ?_) (by assumption) ?_
      rotate_left
      · obtain ⟨hs0, hs1⟩ := hSw; go_simp; try with_reducible rfl
      try simp only [Act.put, List.setIfInBounds_toArray, List.set_cons_zero, List.set_cons_succ]
      refine anyZ_take 19 (v := ?_) rfl (by kernel_rfl) (by kernel_rfl) (by kernel_rfl) (by kernel_rfl) (fun _ _ _ h => h) (by rfl) (fun w hSw => ?_) (by assumption) ?_
      rotate_left
      · obtain ⟨hs0, hs1⟩ := hSw; go_simp; try with_reducible rfl
      try simp only [Act.put, List.setIfInBounds_toArray, List.set_cons_zero, List.set_cons_succ]
      refine anyZ_take 20 (v := ?_) rfl (by kernel_rfl) (by kernel_rfl) (by kernel_rfl) (by kernel_rfl) (fun _ _ _ h => h) (by rfl) (fun w hSw => ?_) (by assumption) ?_
      rotate_left
      · obtain ⟨hs0, hs1⟩ := hSw; go_simp; try with_reducible rfl
      try simp only [Act.put, List.setIfInBounds_toArray, List.set_cons_zero, List.set_cons_succ]
      refine anyZ_take 21 (v := ?_) rfl (by kernel_rfl) (by kernel_rfl) (by kernel_rfl) (by kernel_rfl) (fun _ _ _ h => h) (by rfl) (fun w hSw => ?_) (by assumption) ?_
      rotate_left
      · obtain ⟨hs0, hs1⟩ := hSw; go_simp; try with_reducible rfl
      try simp only [Act.put, List.setIfInBounds_toArray, List.set_cons_zero, List.set_cons_succ]
      refine anyZ_take 22 (v := ?_) rfl (by kernel_rfl) (by kernel_rfl) (by kernel_rfl) (by kernel_rfl) (fun _ _ _ h => h) (by rfl) (fun w hSw => ?_) (by assumption) ?_
      rotate_left
      · obtain ⟨hs0, hs1⟩ := hSw; go_simp; try with_reducible rfl
      try simp only [Act.put, List.setIfInBounds_toArray, List.set_cons_zero, List.set_cons_succ]
      refine anyZ_take 23 (v := ?_) rfl (by kernel_rfl) (by kernel_rfl) (by kernel_rfl) (by kernel_rfl) (fun _ _ _ h => h) (by rfl) (fun w hSw => ?_) (by assumption) ?_
      rotate_left
      · obtain ⟨hs0, hs1⟩ := hSw; go_simp; try with_reducible rfl
      try simp only [Act.put, List.setIfInBounds_toArray, List.set_cons_zero, List.set_cons_succ]
      refine anyZ_take 25 (v := ?_) rfl (by kernel_rfl) (by kernel_rfl) (by kernel_rfl) (by kernel_rfl) (fun _ _ _ h => h) (by rfl) (fun w hSw => ?_) (by assumption) ?_
      rotate_left
      · obtain ⟨hs0, hs1⟩ := hSw; go_simp; try with_reducible rfl
      try simp only [Act.put, List.setIfInBounds_toArray, List.set_cons_zero, List.set_cons_succ]
      refine anyZ_all [24, 26] (by kernel_rfl) (by simp) (fun i hi => ?_)
      simp only [List.mem_cons, List.not_mem_nil, or_false] at hi
      rcases hi with rfl | rfl
      · refine wpOp_by 24 rfl (fun K hK => ?_)
        go_simp
        have P8 : (wd.alloc (.cells #[.int .i64 (x + 1), .int .i64 y, .int .i64 x, .int .i64 (y + 1), .int .i64 (x - 1), .int .i64 y, .int .i64 x, .int .i64 (y - 1)] 42)).heap[wd.heap.size]? = some (.cells #[.int .i64 (x + 1), .int .i64 y, .int .i64 x, .int .i64 (y + 1), .int .i64 (x - 1), .int .i64 y, .int .i64 x, .int .i64 (y - 1)] 42 (0, 0)) := heap_alloc_new wd _
        have H8 := H7.below ((Below.refl wd.heap.size wd).alloc (Nat.le_refl _) (.cells #[.int .i64 (x + 1), .int .i64 y, .int .i64 x, .int .i64 (y + 1), .int .i64 (x - 1), .int .i64 y, .int .i64 x, .int .i64 (y - 1)] 42))
        refine hK.out _ _ ⟨.inr ⟨H8.cells.1, H8.cells.2.1⟩, ?_⟩
        clear hK K
        generalize wd.alloc (.cells #[.int .i64 (x + 1), .int .i64 y, .int .i64 x, .int .i64 (y + 1), .int .i64 (x - 1), .int .i64 y, .int .i64 x, .int .i64 (y - 1)] 42) = we at *
        try simp only [Act.put, List.setIfInBounds_toArray, List.set_cons_zero, List.set_cons_succ]
        generalize wd.heap.size = hz at *
        refine anyZ_all [26] (by kernel_rfl) (by simp) (fun i hi => ?_)
        simp only [List.mem_cons, List.not_mem_nil, or_false] at hi
        subst hi
        refine wpOp_by 26 rfl (fun K hK => ?_)
        go_simp
        refine (pick_any 4 _ g A c bytes _ H8.rds (by omega) (by omega)).mono ?_
        rintro e wz ⟨r5, rfl, ⟨p5, q5⟩, S9, G9⟩
        have H9 := H8.pick S9 G9
        have P9 := (G9.block hz (heap_lt P8) (by have := H7.hg; have := H7.hb; simp; omega)).trans P8
        refine hK.out _ _ ⟨.inr ⟨H9.cells.1, H9.cells.2.1⟩, ?_⟩
        clear hK K S9 G9 P8 H8 hS0 x0 x1
        try simp only [Act.put, List.setIfInBounds_toArray, List.set_cons_zero, List.set_cons_succ]
        obtain ⟨i5, rfl⟩ := Int.eq_ofNat_of_zero_le p5
        have q5' : (i5 : Int) < 4 := by omega
        have q5n : i5 < 4 := by omega
        obtain ⟨x', y', d1, d2, d3, d4, d5, d6⟩ : ∃ x' y' : Int, wz.cell? ⟨hz, i5 * 2, none⟩ = some (.int .i64 x') ∧ wz.cell? ⟨hz, i5 * 2 + 1, none⟩ = some (.int .i64 y') ∧ x - 1 ≤ x' ∧ x' ≤ x + 1 ∧ y - 1 ≤ y' ∧ y' ≤ y + 1 := by
          rcases (show i5 = 0 ∨ i5 = 1 ∨ i5 = 2 ∨ i5 = 3 from by omega) with rfl | rfl | rfl | rfl
          · exact ⟨x + 1, y, cell_of_row _ _ _ _ _ _ P9, cell_of_row _ _ _ _ _ _ P9, by omega, by omega, by omega, by omega⟩
          · exact ⟨x, y + 1, cell_of_row _ _ _ _ _ _ P9, cell_of_row _ _ _ _ _ _ P9, by omega, by omega, by omega, by omega⟩
          · exact ⟨x - 1, y, cell_of_row _ _ _ _ _ _ P9, cell_of_row _ _ _ _ _ _ P9, by omega, by omega, by omega, by omega⟩
          · exact ⟨x, y - 1, cell_of_row _ _ _ _ _ _ P9, cell_of_row _ _ _ _ _ _ P9, by omega, by omega, by omega, by omega⟩
        obtain ⟨h90, h91, h92, h93⟩ := H9.cells
        have HZ := H9.put x' y'
        clear P9
        refine anyZ_all [27] (by kernel_rfl) (by simp) (fun i hi => ?_)
        simp only [List.mem_cons, List.not_mem_nil, or_false] at hi
        subst hi
        refine wpOp_by 27 rfl (fun K hK => ?_)
        go_simp
        refine hK.out _ _ ⟨.inr ⟨h90, h91⟩, ?_⟩
        clear hK K
        try simp only [Act.put, List.setIfInBounds_toArray, List.set_cons_zero, List.set_cons_succ]
        refine anyZ_all [28] (by kernel_rfl) (by simp) (fun i hi => ?_)
        simp only [List.mem_cons, List.not_mem_nil, or_false] at hi
        subst hi
        refine wpOp_by 28 rfl (fun K hK => ?_)
        go_simp
        refine hK.out _ _ ⟨.inr ⟨h90, h91⟩, ?_⟩
        clear hK K
        try simp only [Act.put, List.setIfInBounds_toArray, List.set_cons_zero, List.set_cons_succ]
        refine anyZ_all [29] (by kernel_rfl) (by simp) (fun i hi => ?_)
        simp only [List.mem_cons, List.not_mem_nil, or_false] at hi
        subst hi
        refine wpOp_by 29 rfl (fun K hK => ?_)
        go_simp
        refine hK.out _ _ ⟨.inl rfl, ?_⟩
        clear hK K
        try simp only [Act.put, List.setIfInBounds_toArray, List.set_cons_zero, List.set_cons_succ]
        refine anyZ_done (by kernel_rfl) ?_ _
        generalize (wz.setCell _ _).setCell _ _ = wy at *
        clear d1 d2 h90 h91 h92 h93 H9 H7
        obtain ⟨hz0, hz1, -, -⟩ := HZ.cells
        cases hx : decide ((x', y') ∈ ps) with
        | true =>
          have HX := Lib.hid hx
          clear hx
          go_wp2_with (go_at_call 25; refine (l8Has_any _ _ ps (x', y') _ HZ.own.rd (by omega)).mono ?_; rintro e wh ⟨rfl, bh⟩; rw [HX.out])
          have HH := HZ.below bh
          go_roundw
          case rel => exact ⟨ps, k - 1, q + 2, by go_num, by omega, HH.own, l1, by omega, by omega, fun a ha => by have := near a ha; omega, HH.rds, HH.gb⟩
          case measure => simp [intOf]; omega
        | false =>
          have HX := Lib.hid hx
          clear hx
          go_wp2_with (first | (go_at_call 25; refine (l8Has_any _ _ ps (x', y') _ HZ.own.rd (by omega)).mono ?_; rintro e wh ⟨rfl, bh⟩; rw [HX.out]; have HH := HZ.below bh; obtain ⟨hy0, hy1, -, -⟩ := HH.cells; clear hz0 hz1) | (at_builtin; refine app_cell _ rfl _ _ rfl w.heap.size _ ps rfl HH.own _ _ rfl (by omega) HH.gb.size ?_; intro A' c' w9 own9 b9))
          have HJ := HH.below ((Below.refl wh.heap.size wh).alloc (Nat.le_refl _) (.cells #[.int .i64 x', .int .i64 y'] 42))
          go_roundw
          case rel => exact ⟨ps ++ [(x', y')], k - 1, q + 2, by go_num, by omega, by simpa using own9, by simp, by simp; omega, by omega, NearC.more near (by omega) (by omega) (by omega) (by omega) (by omega), HJ.rds.app hgw hA b9, gb_app HJ.gb b9⟩
          case measure => simp [intOf]; omega
      · refine wpOp_by 26 rfl (fun K hK => ?_)
        go_simp
        refine (pick_any 4 _ g A c bytes _ H7.rds (by omega) (by omega)).mono ?_
        rintro e w8 ⟨r5, rfl, ⟨p5, q5⟩, S8, G8⟩
        have H8 := H7.pick S8 G8
        refine hK.out _ _ ⟨.inr ⟨H8.cells.1, H8.cells.2.1⟩, ?_⟩
        clear hK K
        try simp only [Act.put, List.setIfInBounds_toArray, List.set_cons_zero, List.set_cons_succ]
        refine anyZ_all [24] (by kernel_rfl) (by simp) (fun i hi => ?_)
        simp only [List.mem_cons, List.not_mem_nil, or_false] at hi
        subst hi
        refine wpOp_by 24 rfl (fun K hK => ?_)
        go_simp
        have P9 : (w8.alloc (.cells #[.int .i64 (x + 1), .int .i64 y, .int .i64 x, .int .i64 (y + 1), .int .i64 (x - 1), .int .i64 y, .int .i64 x, .int .i64 (y - 1)] 42)).heap[w8.heap.size]? = some (.cells #[.int .i64 (x + 1), .int .i64 y, .int .i64 x, .int .i64 (y + 1), .int .i64 (x - 1), .int .i64 y, .int .i64 x, .int .i64 (y - 1)] 42 (0, 0)) := heap_alloc_new w8 _
        have H9 := H8.below ((Below.refl w8.heap.size w8).alloc (Nat.le_refl _) (.cells #[.int .i64 (x + 1), .int .i64 y, .int .i64 x, .int .i64 (y + 1), .int .i64 (x - 1), .int .i64 y, .int .i64 x, .int .i64 (y - 1)] 42))
        refine hK.out _ _ ⟨.inr ⟨H9.cells.1, H9.cells.2.1⟩, ?_⟩
        clear hK K H8 hS0 x0 x1
        generalize w8.alloc (.cells #[.int .i64 (x + 1), .int .i64 y, .int .i64 x, .int .i64 (y + 1), .int .i64 (x - 1), .int .i64 y, .int .i64 x, .int .i64 (y - 1)] 42) = wz at *
        generalize w8.heap.size = hz at *
        try simp only [Act.put, List.setIfInBounds_toArray, List.set_cons_zero, List.set_cons_succ]
        obtain ⟨i5, rfl⟩ := Int.eq_ofNat_of_zero_le p5
        have q5' : (i5 : Int) < 4 := by omega
        have q5n : i5 < 4 := by omega
        obtain ⟨x', y', d1, d2, d3, d4, d5, d6⟩ : ∃ x' y' : Int, wz.cell? ⟨hz, i5 * 2, none⟩ = some (.int .i64 x') ∧ wz.cell? ⟨hz, i5 * 2 + 1, none⟩ = some (.int .i64 y') ∧ x - 1 ≤ x' ∧ x' ≤ x + 1 ∧ y - 1 ≤ y' ∧ y' ≤ y + 1 := by
          rcases (show i5 = 0 ∨ i5 = 1 ∨ i5 = 2 ∨ i5 = 3 from by omega) with rfl | rfl | rfl | rfl
          · exact ⟨x + 1, y, cell_of_row _ _ _ _ _ _ P9, cell_of_row _ _ _ _ _ _ P9, by omega, by omega, by omega, by omega⟩
          · exact ⟨x, y + 1, cell_of_row _ _ _ _ _ _ P9, cell_of_row _ _ _ _ _ _ P9, by omega, by omega, by omega, by omega⟩
          · exact ⟨x - 1, y, cell_of_row _ _ _ _ _ _ P9, cell_of_row _ _ _ _ _ _ P9, by omega, by omega, by omega, by omega⟩
          · exact ⟨x, y - 1, cell_of_row _ _ _ _ _ _ P9, cell_of_row _ _ _ _ _ _ P9, by omega, by omega, by omega, by omega⟩
        obtain ⟨h90, h91, h92, h93⟩ := H9.cells
        have HZ := H9.put x' y'
        clear P9
        refine anyZ_all [27] (by kernel_rfl) (by simp) (fun i hi => ?_)
        simp only [List.mem_cons, List.not_mem_nil, or_false] at hi
        subst hi
        refine wpOp_by 27 rfl (fun K hK => ?_)
        go_simp
        refine hK.out _ _ ⟨.inr ⟨h90, h91⟩, ?_⟩
        clear hK K
        try simp only [Act.put, List.setIfInBounds_toArray, List.set_cons_zero, List.set_cons_succ]
        refine anyZ_all [28] (by kernel_rfl) (by simp) (fun i hi => ?_)
        simp only [List.mem_cons, List.not_mem_nil, or_false] at hi
        subst hi
        refine wpOp_by 28 rfl (fun K hK => ?_)
        go_simp
        refine hK.out _ _ ⟨.inr ⟨h90, h91⟩, ?_⟩
        clear hK K
        try simp only [Act.put, List.setIfInBounds_toArray, List.set_cons_zero, List.set_cons_succ]
        refine anyZ_all [29] (by kernel_rfl) (by simp) (fun i hi => ?_)
        simp only [List.mem_cons, List.not_mem_nil, or_false] at hi
        subst hi
        refine wpOp_by 29 rfl (fun K hK => ?_)
        go_simp
        refine hK.out _ _ ⟨.inl rfl, ?_⟩
        clear hK K
        try simp only [Act.put, List.setIfInBounds_toArray, List.set_cons_zero, List.set_cons_succ]
        refine anyZ_done (by kernel_rfl) ?_ _
        generalize (wz.setCell _ _).setCell _ _ = wy at *
        clear d1 d2 h90 h91 h92 h93 H9 H7
        obtain ⟨hz0, hz1, -, -⟩ := HZ.cells
        cases hx : decide ((x', y') ∈ ps) with
        | true =>
          have HX := Lib.hid hx
          clear hx
          go_wp2_with (go_at_call 25; refine (l8Has_any _ _ ps (x', y') _ HZ.own.rd (by omega)).mono ?_; rintro e wh ⟨rfl, bh⟩; rw [HX.out])
          have HH := HZ.below bh
          go_roundw
          case rel => exact ⟨ps, k - 1, q + 2, by go_num, by omega, HH.own, l1, by omega, by omega, fun a ha => by have := near a ha; omega, HH.rds, HH.gb⟩
          case measure => simp [intOf]; omega
        | false =>
          have HX := Lib.hid hx
          clear hx
          go_wp2_with (first | (go_at_call 25; refine (l8Has_any _ _ ps (x', y') _ HZ.own.rd (by omega)).mono ?_; rintro e wh ⟨rfl, bh⟩; rw [HX.out]; have HH := HZ.below bh; obtain ⟨hy0, hy1, -, -⟩ := HH.cells; clear hz0 hz1) | (at_builtin; refine app_cell _ rfl _ _ rfl w.heap.size _ ps rfl HH.own _ _ rfl (by omega) HH.gb.size ?_; intro A' c' w9 own9 b9))
          have HJ := HH.below ((Below.refl wh.heap.size wh).alloc (Nat.le_refl _) (.cells #[.int .i64 x', .int .i64 y'] 42))
          go_roundw
          case rel => exact ⟨ps ++ [(x', y')], k - 1, q + 2, by go_num, by omega, by simpa using own9, by simp, by simp; omega, by omega, NearC.more near (by omega) (by omega) (by omega) (by omega) (by omega), HJ.rds.app hgw hA b9, gb_app HJ.gb b9⟩
          case measure => simp [intOf]; omega
    · obtain rfl : k = 0 := by omega
      go_wp2_with fail
      refine (odd_any n _ g A c bytes _ S5 (by omega) (by omega) (by omega)).mono ?_
      rintro e w6 ⟨bit, p6, rfl, S6, hp6, G6⟩
      have W6 := W5.grown G6 hgw
      have T6 := grownBy_trans' T5 G6
      have near' : NearC 10 ps := fun a ha => by have := near a ha; omega
      clear S5 W5 T5 G6 near
      cases bit with
      | false =>
        go_wp2
        go_ret
        exact ⟨_, ck, ps, p6, rfl, W6, hcap, by omega, near', S6, by omega, T6⟩
      | true =>
        go_wp2_with fail
        refine (pick_any 4 _ g A c bytes _ S6 (by omega) (by omega)).mono ?_
        rintro e w7 ⟨r, rfl, ⟨p7, q7⟩, S7, G7⟩
        have W7 := W6.grown G7 hgw
        have T7 := grownBy_trans' T6 G7
        have hs7 := T7.size
        clear S6 W6 T6 G7
        rcases (show r = 0 ∨ r = 1 ∨ r = 2 ∨ r = 3 from by omega) with rfl | rfl | rfl | rfl
        · have B8 := (Below.refl w7.heap.size w7).alloc (Nat.le_refl _) (.cells #[] 42)
          go_wp2
          go_ret
          exact ⟨_, 0, [], p6 + 1, rfl, ⟨_, _, rfl, World.ownsRow_lit w7 #[] 0 hs7 (by unfold maxLen; omega) (by simp)⟩, Nat.le_refl _, by simp, (by intro a ha; cases ha), S7.below (heap_lt S7.1) B8, by omega, gb_below T7 B8⟩
        · obtain ⟨b, off, rfl, c0, c1⟩ := RdC.at_ (w := w7) (OwnC.rd W7) (show 0 < ps.length by omega)
          have hnear := near' ps[0] (List.getElem_mem (by omega))
          generalize ps[0] = t at c0 c1 hnear
          obtain ⟨x, y⟩ := t
          simp only [Nat.zero_mul, Nat.add_zero] at c0 c1 hnear
          obtain ⟨n1, n2, n3, n4⟩ := hnear
          have hpos : (0 : Int) < (ps.length : Int) := by omega
          have B8 := (Below.refl w7.heap.size w7).alloc (Nat.le_refl _) (.cells #[.int .i64 x, .int .i64 y] 42)
          go_wp2_with (at_builtin; refine app_cell _ rfl _ _ rfl w.heap.size _ ps rfl W7 _ _ rfl (by omega) hs7 ?_; intro A' c' w9 own9 b9)
          go_ret
          have hc9 := own9.cap
          refine ⟨A', c', ps ++ [(x, y)], p6 + 1, by simp, by simpa using own9, by simpa using hc9, by simp; omega, NearC.more (b := 10) near' (Int.le_refl _) (by omega) (by omega) (by omega) (by omega), (S7.below (heap_lt S7.1) B8).app hgw hA b9, by omega, gb_app (gb_below T7 B8) b9⟩
        · have B8 := (Below.refl w7.heap.size w7).alloc (Nat.le_refl _) (.cells #[.int .i64 0, .int .i64 0, .int .i64 2, .int .i64 0] 42)
          go_wp2
          go_ret
          exact ⟨_, 2, [(0, 0), (2, 0)], p6 + 1, rfl, ⟨_, _, rfl, World.ownsRow_lit w7 #[.int .i64 0, .int .i64 0, .int .i64 2, .int .i64 0] 2 hs7 (by unfold maxLen; omega) (by simp)⟩, Nat.le_refl _, by simp, (by intro a ha; simp at ha; rcases ha with rfl | rfl <;> simp only <;> omega), S7.below (heap_lt S7.1) B8, by omega, gb_below T7 B8⟩
        · have B8 := (Below.refl w7.heap.size w7).alloc (Nat.le_refl _) (.cells #[.int .i64 10, .int .i64 0] 42)
          go_wp2
          go_ret
          exact ⟨_, 1, [(10, 0)], p6 + 1, rfl, ⟨_, _, rfl, World.ownsRow_lit w7 #[.int .i64 10, .int .i64 0] 1 hs7 (by unfold maxLen; omega) (by simp)⟩, Nat.le_refl _, by simp, (by intro a ha; simp at ha; subst ha; simp only; omega), S7.below (heap_lt S7.1) B8, by omega, gb_below T7 B8⟩
end Go.Proofs.Ytohbnogmeldmpaa
