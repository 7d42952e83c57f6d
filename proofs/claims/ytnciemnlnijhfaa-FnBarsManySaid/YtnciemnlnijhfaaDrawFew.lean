/- Contract: the draw of a region with few dark cells. -/
import Derived.Test.YtnciemnlnijhfaaDrawSome
import Derived.Test.YtnciemnlnijhfaaDrawCol
import Derived.Test.YtnciemnlnijhfaaDark
namespace Go.Proofs.Ytnciemnlnijhfaa
open Go.RowKit

section
variable {w wr w' : World} {g : Nat} {A : Option Addr} {c : Nat} {bytes : List Int} {q : Nat}
theorem Rs.setb (h : Rs w g A c bytes q wr) {bx i : Nat} (hb : w.heap.size < bx) (u : Value) : Rs w g A c bytes q (wr.setCell ⟨bx, i, none⟩ u) := by
  have hg := h.hg
  have hs : ∀ k, k ≠ bx → (wr.setCell ⟨bx, i, none⟩ u).heap[k]? = wr.heap[k]? := fun k hk => Below.heap_setCell _ _ _ _ hk
  refine ⟨⟨(hs g (by omega)).trans h.rds.1, ?_, h.rds.2.2.1, h.rds.2.2.2⟩, (hs _ (by omega)).trans h.res, ⟨h.gb.os, h.gb.tape, h.gb.output, ?_, fun k hk hn => (hs k (by omega)).trans (h.gb.block k hk hn)⟩, h.hg, h.ha⟩
  · refine h.rds.2.1.grownBelow (set_grownR wr ⟨bx, i, none⟩ u) (fun hne ad ha e => ?_)
    have := h.ha (by simpa using hne) ad ha
    have e' : ad.block = bx := by simpa using e
    omega
  · have := h.gb.size
    simpa [World.setCell] using this
end
theorem box3_set {w : World} {b : Nat} {x y z : Value} {t : TypeId} (h : w.heap[b]? = some (.cells #[x, y, z] t (0, 0))) (x' y' z' : Value) : (((w.setCell ⟨b, 0, none⟩ x').setCell ⟨b, 1, none⟩ y').setCell ⟨b, 2, none⟩ z').heap[b]? = some (.cells #[x', y', z'] t (0, 0)) :=
  heap_setCell_same _ b 2 _ _ z' (heap_setCell_same _ b 1 _ _ y' (heap_setCell_same _ b 0 _ _ x' h))
set_option maxRecDepth 100000 in
set_option maxHeartbeats 8000000 in
theorem few_any (n : Int) (w : World) (g : Nat) (A : Option Addr) (c : Nat) (bytes : List Int) (p : Nat) (h : RdS w g A c bytes p) (hp : p ≤ 30000) (hn0 : 0 ≤ n) (hn : n ≤ 1000) :
    Calls Try.prog 49 #[.pointer (some ⟨g, 0, none⟩), .int .i64 n] w (SomeReg g A c bytes p 130 w) := by
  have hg := heap_lt h.1
  have hA : bytes ≠ [] → ∀ ad, A = some ad → ad.block < w.heap.size := by
    intro hne ad ha
    obtain ⟨ad', ha', hc⟩ := h.2.1 (by simpa using hne)
    obtain rfl := Option.some.inj (ha.symm.trans ha')
    obtain ⟨x, ys, rfl⟩ := List.exists_cons_of_ne_nil hne
    have := World.block_lt_of_cell? w _ (hc 0 _ rfl)
    simpa [Addr.add] using this
  have H0 : Rs w g A c bytes p (w.alloc (.cells #[.int .i64 0, .int .i64 0, .slice none 0 0] 25)) :=
    ⟨h.below hg (bl_alloc (Below.refl _ _) _), heap_alloc_new w _, gb_below (World.grownBy.refl _ _) (bl_alloc (Below.refl _ _) _), hg, hA⟩
  go_enter Try.func49, Try.ntmps49
  go_wp2_with fail
  have hsa : (w.alloc (.cells #[.int .i64 0, .int .i64 0, .slice none 0 0] 25)).heap.size = w.heap.size + 1 := by simp
  generalize w.alloc (.cells #[.int .i64 0, .int .i64 0, .slice none 0 0] 25) = wa at *
  refine (region_any n _ g A c bytes p H0.rds (by omega) hn0 hn).mono ?_
  rintro e w1 ⟨W, T, bs, B, kb, q, rfl, hrd, hl37, S1, hq, G1, hB⟩
  have hB1 : ∀ ad, B = some ad → w.heap.size < ad.block := fun ad ha => by have := hB ad ha; omega
  have H1 := (H0.pick S1 G1).alloc (.cells #[.int .i64 W, .int .i64 T, .slice B bs.length kb] 25)
  have R1 := hrd.alloc (.cells #[.int .i64 W, .int .i64 T, .slice B bs.length kb] 25)
  have X1 : (w1.alloc (.cells #[.int .i64 W, .int .i64 T, .slice B bs.length kb] 25)).heap[w1.heap.size]? = some (.cells #[.int .i64 W, .int .i64 T, .slice B bs.length kb] 25 (0, 0)) := heap_alloc_new w1 _
  have hbx : w.heap.size < w1.heap.size := by have := heap_lt (H0.pick S1 G1).res; omega
  have hB1' : ∀ ad, B = some ad → g ≠ ad.block := fun ad ha => by have := hB1 ad ha; omega
  clear H0 S1 G1 hrd hB
  go_wp2_with fail
  generalize w1.alloc (.cells #[.int .i64 W, .int .i64 T, .slice B bs.length kb] 25) = wb at *
  generalize w1.heap.size = bx at *
  refine (pick_any 3 _ g A c bytes q H1.rds (by omega) (by omega)).mono ?_
  rintro e w2 ⟨r, rfl, hr, S2, G2⟩
  have H2 := H1.pick S2 G2
  have R2 := R1.grownBelow G2 (fun _ ad ha e => hB1' ad ha (by have e' : ad.block = g := (by simpa using e); exact e'.symm))
  have X2 := (G2.block bx (heap_lt X1) (by simp; omega)).trans X1
  clear H1 S2 G2 R1 X1
  obtain ⟨s0, s1, s2, t0, t1, t2⟩ := blk3 X2
  by_cases hr0 : r = 0
  · subst hr0
    go_wp2_with fail
    refine (some_any n _ g A c bytes (q + 1) H2.rds (by omega) hn0 hn).mono ?_
    rintro e w3 ⟨W', T', bs', B', kb', q', rfl, hrd', hl37', S3, hq', G3, hB'⟩
    have H3 := H2.pick S3 G3
    have X3 := (G3.block bx (heap_lt X2) (by simp; omega)).trans X2
    have hbx2 := heap_lt X2
    have hK := fun (v : World) (i : Nat) (u : Value) (R : Rd v B' (bs'.map .bool)) => R.grownBelow (set_grownR v ⟨bx, i, none⟩ u) (fun _ ad ha e => by have := hB' ad ha; have e' : ad.block = bx := (by simpa using e); omega)
    have R4 := hK _ 2 (.slice B' bs'.length kb') (hK _ 1 (.int .i64 T') (hK _ 0 (.int .i64 W') hrd'))
    have H4 := ((H3.setb (i := 0) hbx (.int .i64 W')).setb (i := 1) hbx (.int .i64 T')).setb (i := 2) hbx (.slice B' bs'.length kb')
    have X4 := box3_set X3 (.int .i64 W') (.int .i64 T') (.slice B' bs'.length kb')
    have hB4 : ∀ ad, B' = some ad → w.heap.size < ad.block := fun ad ha => by have := hB' ad ha; omega
    have hq4 : q' ≤ p + 121 := by omega
    clear s0 s1 s2 t0 t1 t2 H2 R2 hK
    obtain ⟨s0, s1, s2, t0, t1, t2⟩ := blk3 X3
    clear H3 hrd' S3 G3 X2
    have hmx : bs'.length ≤ maxLen := by unfold maxLen; omega
    have CD := Lib.hid (fun (z : World) (R : Rd z B' (bs'.map .bool)) => sDarkCells_any W' T' B' kb' bs' z R hmx)
    have hdl := darkV_len W' T' bs' hl37'
    generalize darkV W' T' bs' = D at CD hdl
    go_wp2_with fail
    generalize ((w3.setCell ⟨bx, 0, none⟩ (.int .i64 W')).setCell ⟨bx, 1, none⟩ (.int .i64 T')).setCell ⟨bx, 2, none⟩ (.slice B' bs'.length kb') = w4 at *
    clear s0 s1 s2 t0 t1 t2
    obtain ⟨s0, s1, s2, t0, t1, t2⟩ := blk3 X4
    skip
    refine (CD.out _ R4).mono ?_
    rintro e w5 ⟨A5, k5, rfl, -, b5, -⟩
    have H5 := H4.below b5
    have R5 := R4.belo b5
    have X5 := (b5.block bx (heap_lt X4)).trans X4
    clear H4 R4 X4 b5 s0 s1 s2 t0 t1 t2
    by_cases hd : 10 < D.length
    · have hgt : decide ((10 : Int) < (D.length : Int)) = true := by simp; omega
      go_wp2_with fail
      refine (pick_any 4 _ g A c bytes _ H5.rds (by omega) (by omega)).mono ?_
      rintro e w6 ⟨r6, rfl, ⟨c6, d6⟩, S6, G6⟩
      have H6 := H5.pick S6 G6
      have d6' : r6 ≤ 3 := by omega
      clear H5 S6 G6 R5 X5
      go_wp2_with fail
      refine (pick_any 4 _ g A c bytes _ H6.rds (by omega) (by omega)).mono ?_
      rintro e w7 ⟨r7, rfl, ⟨c7, d7⟩, S7, G7⟩
      have H7 := H6.pick S7 G7
      have d7' : r7 ≤ 3 := by omega
      clear H6 S7 G7
      go_wp2_with fail
      refine (sRegionBox_any (1 + r6) (1 + r7) _).mono ?_
      rintro e w8 ⟨B8, k8, rfl, o8, b8⟩
      have H8 := H7.below b8
      have hB8 : ∀ ad, B8 = some ad → w.heap.size < ad.block := fun ad ha => by have t := o8.1 ad ha; have := heap_lt H7.res; omega
      obtain ⟨s0, s1, s2, t0, t1, t2⟩ := blk3 H8.res
      clear H7 b8
      go_wp2_with fail
      refine bodyPost_ret (v := .agg #[.int .i64 (boxW (1 + r6) (1 + r7)), .int .i64 (boxT (1 + r6) (1 + r7)), .slice B8 (boxB (1 + r6) (1 + r7)).length k8]) (by simp [results, Try.results49, go_sem, s0, s1, s2]) rfl ?_
      exact H8.done o8.rd hB8 (by have := box_len (1 + r6) (1 + r7); omega) (by omega)
    · have hgt : decide ((10 : Int) < (D.length : Int)) = false := by simp; omega
      obtain ⟨x0, x1, x2, -, -, -⟩ := blk3 X5
      obtain ⟨s0, s1, s2, t0, t1, t2⟩ := blk3 H5.res
      go_wp2_with fail
      refine bodyPost_ret (v := .agg #[.int .i64 W', .int .i64 T', .slice B' bs'.length kb']) (by simp [results, Try.results49, go_sem, s0, s1, s2]) rfl ?_
      exact H5.done R5 hB4 hl37' (by omega)
  · have hr0' : (r == 0) = false := by simpa using hr0
    have H4 := H2
    have R4 := R2
    have X4 := X2
    have hq4 : q + 1 ≤ p + 121 := by omega
    clear H2 R2 X2
    have hmx : bs.length ≤ maxLen := by unfold maxLen; omega
    have CD := Lib.hid (fun (z : World) (R : Rd z B (bs.map .bool)) => sDarkCells_any W T B kb bs z R hmx)
    have hdl := darkV_len W T bs hl37
    generalize darkV W T bs = D at CD hdl
    go_wp2_with fail
    skip
    clear s0 s1 s2 t0 t1 t2
    obtain ⟨s0, s1, s2, t0, t1, t2⟩ := blk3 X4
    skip
    refine (CD.out _ R4).mono ?_
    rintro e w5 ⟨A5, k5, rfl, -, b5, -⟩
    have H5 := H4.below b5
    have R5 := R4.belo b5
    have X5 := (b5.block bx (heap_lt X4)).trans X4
    clear H4 R4 X4 b5 s0 s1 s2 t0 t1 t2
    by_cases hd : 10 < D.length
    · have hgt : decide ((10 : Int) < (D.length : Int)) = true := by simp; omega
      go_wp2_with fail
      refine (pick_any 4 _ g A c bytes _ H5.rds (by omega) (by omega)).mono ?_
      rintro e w6 ⟨r6, rfl, ⟨c6, d6⟩, S6, G6⟩
      have H6 := H5.pick S6 G6
      have d6' : r6 ≤ 3 := by omega
      clear H5 S6 G6 R5 X5
      go_wp2_with fail
      refine (pick_any 4 _ g A c bytes _ H6.rds (by omega) (by omega)).mono ?_
      rintro e w7 ⟨r7, rfl, ⟨c7, d7⟩, S7, G7⟩
      have H7 := H6.pick S7 G7
      have d7' : r7 ≤ 3 := by omega
      clear H6 S7 G7
      go_wp2_with fail
      refine (sRegionBox_any (1 + r6) (1 + r7) _).mono ?_
      rintro e w8 ⟨B8, k8, rfl, o8, b8⟩
      have H8 := H7.below b8
      have hB8 : ∀ ad, B8 = some ad → w.heap.size < ad.block := fun ad ha => by have t := o8.1 ad ha; have := heap_lt H7.res; omega
      obtain ⟨s0, s1, s2, t0, t1, t2⟩ := blk3 H8.res
      clear H7 b8
      go_wp2_with fail
      refine bodyPost_ret (v := .agg #[.int .i64 (boxW (1 + r6) (1 + r7)), .int .i64 (boxT (1 + r6) (1 + r7)), .slice B8 (boxB (1 + r6) (1 + r7)).length k8]) (by simp [results, Try.results49, go_sem, s0, s1, s2]) rfl ?_
      exact H8.done o8.rd hB8 (by have := box_len (1 + r6) (1 + r7); omega) (by omega)
    · have hgt : decide ((10 : Int) < (D.length : Int)) = false := by simp; omega
      obtain ⟨x0, x1, x2, -, -, -⟩ := blk3 X5
      obtain ⟨s0, s1, s2, t0, t1, t2⟩ := blk3 H5.res
      go_wp2_with fail
      refine bodyPost_ret (v := .agg #[.int .i64 W, .int .i64 T, .slice B bs.length kb]) (by simp [results, Try.results49, go_sem, s0, s1, s2]) rfl ?_
      exact H5.done R5 hB1 hl37 (by omega)
end Go.Proofs.Ytnciemnlnijhfaa
