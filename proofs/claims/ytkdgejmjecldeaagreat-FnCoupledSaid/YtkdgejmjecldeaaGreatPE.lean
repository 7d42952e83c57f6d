
/- FnBoth: joined from DrawPlain, Open, Cells, CellMark, PuX, DrawPush, DrawCou, CatI, CatS, LCoupledAt, ManI, LCoupled, LBoth. -/
import Derived.Test.YtkdgejmjecldeaaGreatPG
import Derived.Test.YtkdgejmjecldeaaGreatPT
import Derived.Deep.CutRange
import Derived.Test.YtkdgejmjecldeaaGreatMem
import Derived.Test.YtkdgejmjecldeaaGreatRows
import Derived.ProofKit
import Derived.OpenShut
import Derived.ChangeOld
import Derived.Deep.Grids
import Derived.Deep.Slices
import Derived.Lib.SmallJoins
import Derived.Test.YtkdgejmjecldeaaGreatBw
import Derived.Test.YtkdgejmjecldeaaGreatEq
import Derived.Deep.SlicePairs
import Derived.Test.YtkdgejmjecldeaaGreatCellApp
import Derived.Test.YtkdgejmjecldeaaGreatPA
import Derived.Test.YtkdgejmjecldeaaGreatPB
import Derived.Test.YtkdgejmjecldeaaGreatHgtI
import Derived.Test.YtkdgejmjecldeaaGreatDrawReg
import Derived.Deep.Cut
import Derived.Deep.RegionHeld3
import Derived.Test.YtkdgejmjecldeaaGreatPC
import Derived.Test.YtkdgejmjecldeaaGreatAlive
import Derived.Maps.AppendAt
/- Contract: the draw of a region for the pushes (l20Plain). -/
namespace Go.Proofs.YtkdgejmjecldeaaGreat
open Go.RowKit

theorem set_grownP (w : World) (p : Addr) (u : Value) : w.grownBy (w.setCell p u) (some p.block) :=
  ⟨rfl, rfl, rfl, by simp [World.setCell], fun i _ hn => Below.heap_setCell _ _ _ _ (fun e => hn (by simp [e]))⟩

section
variable {w wr w' : World} {g : Nat} {A : Option Addr} {c : Nat} {bytes : List Int} {q : Nat}
theorem Rs.setc (h : Rs w g A c bytes q wr) {bx i : Nat} (hb : w.heap.size < bx) (u : Value) : Rs w g A c bytes q (wr.setCell ⟨bx, i, none⟩ u) := by
  have hg := h.hg
  have hs : ∀ k, k ≠ bx → (wr.setCell ⟨bx, i, none⟩ u).heap[k]? = wr.heap[k]? := fun k hk => Below.heap_setCell _ _ _ _ hk
  refine ⟨⟨(hs g (by omega)).trans h.rds.1, ?_, h.rds.2.2.1, h.rds.2.2.2⟩, (hs _ (by omega)).trans h.res, ⟨h.gb.os, h.gb.tape, h.gb.output, ?_, fun k hk hn => (hs k (by omega)).trans (h.gb.block k hk hn)⟩, h.hg, h.ha⟩
  · refine h.rds.2.1.grownBelow (set_grownP wr ⟨bx, i, none⟩ u) (fun hne ad ha e => ?_)
    have := h.ha (by simpa using hne) ad ha
    have e' : ad.block = bx := by simpa using e
    omega
  · have := h.gb.size
    simpa [World.setCell] using this
end
theorem box3_put {w : World} {b : Nat} {x y z : Value} {t : TypeId} (h : w.heap[b]? = some (.cells #[x, y, z] t (0, 0))) (x' y' z' : Value) : (((w.setCell ⟨b, 0, none⟩ x').setCell ⟨b, 1, none⟩ y').setCell ⟨b, 2, none⟩ z').heap[b]? = some (.cells #[x', y', z'] t (0, 0)) :=
  heap_setCell_same _ b 2 _ _ z' (heap_setCell_same _ b 1 _ _ y' (heap_setCell_same _ b 0 _ _ x' h))
theorem arrP (rn : Nat) (h : rn ≤ 3) : ∃ d : Int, (∀ w : World, (w.alloc (.cells #[.int .i64 2, .int .i64 3, .int .i64 4, .int .i64 5] 3)).cell? ⟨w.heap.size, rn, none⟩ = some (.int .i64 d)) ∧ 2 ≤ d ∧ d ≤ 6 := by
  rcases (show rn = 0 ∨ rn = 1 ∨ rn = 2 ∨ rn = 3 from by omega) with rfl | rfl | rfl | rfl
  · exact ⟨2, fun w => cell_of_row _ _ _ _ _ _ (heap_alloc_new w _), by omega, by omega⟩
  · exact ⟨3, fun w => cell_of_row _ _ _ _ _ _ (heap_alloc_new w _), by omega, by omega⟩
  · exact ⟨4, fun w => cell_of_row _ _ _ _ _ _ (heap_alloc_new w _), by omega, by omega⟩
  · exact ⟨5, fun w => cell_of_row _ _ _ _ _ _ (heap_alloc_new w _), by omega, by omega⟩
set_option maxRecDepth 100000 in
set_option maxHeartbeats 8000000 in
theorem plain_any (n : Int) (w : World) (g : Nat) (A : Option Addr) (c : Nat) (bytes : List Int) (p : Nat) (h : RdS w g A c bytes p) (hp : p ≤ 20000) (hn0 : 0 ≤ n) (hn : n ≤ 1000) :
    Calls Tryz.prog 39 #[.pointer (some ⟨g, 0, none⟩), .int .i64 n] w (SomeReg g A c bytes p 140 w) := by
  have hg := heap_lt h.1
  have hA : bytes ≠ [] → ∀ ad, A = some ad → ad.block < w.heap.size := by
    intro hne ad ha
    obtain ⟨ad', ha', hc⟩ := h.2.1 (by simpa using hne)
    obtain rfl := Option.some.inj (ha.symm.trans ha')
    obtain ⟨x, ys, rfl⟩ := List.exists_cons_of_ne_nil hne
    have := World.block_lt_of_cell? w _ (hc 0 _ rfl)
    simpa [Addr.add] using this
  have H0 : Rs w g A c bytes p (w.alloc (.cells #[.int .i64 0, .int .i64 0, .slice none 0 0] 25)) :=
    ⟨h.below hg (bl_alloc (Below.refl _ _) _), heap_alloc_new w _, gb_below (World.grownBy.refl _ _) (bl_alloc (Below.refl _ _) _), hg, hA⟩
  go_enter Tryz.func39, Tryz.ntmps39
  go_wp2_with fail
  have hsa : (w.alloc (.cells #[.int .i64 0, .int .i64 0, .slice none 0 0] 25)).heap.size = w.heap.size + 1 := by simp
  generalize w.alloc (.cells #[.int .i64 0, .int .i64 0, .slice none 0 0] 25) = wa at *
  refine (small_any 0 _ g A c bytes p H0.rds (by omega) (by omega) (by omega)).mono ?_
  rintro e w1 ⟨W, T, bs, B, kb, q, rfl, hrd, hl37, S1, hq, G1, hB⟩
  have hB1 : ∀ ad, B = some ad → w.heap.size < ad.block := fun ad ha => by have := hB ad ha; omega
  have H1 := (H0.pick S1 G1).alloc (.cells #[.int .i64 W, .int .i64 T, .slice B bs.length kb] 25)
  have R1 := hrd.alloc (.cells #[.int .i64 W, .int .i64 T, .slice B bs.length kb] 25)
  have X1 : (w1.alloc (.cells #[.int .i64 W, .int .i64 T, .slice B bs.length kb] 25)).heap[w1.heap.size]? = some (.cells #[.int .i64 W, .int .i64 T, .slice B bs.length kb] 25 (0, 0)) := heap_alloc_new w1 _
  have hbx : w.heap.size < w1.heap.size := by have := heap_lt (H0.pick S1 G1).res; omega
  have hmx : bs.length ≤ maxLen := by unfold maxLen; omega
  clear H0 S1 G1 hrd hB
  go_upto_region 2 with fail
  generalize w1.alloc (.cells #[.int .i64 W, .int .i64 T, .slice B bs.length kb] 25) = wb at *
  generalize w1.heap.size = bx at *
  obtain ⟨x0, x1, x2, y0, y1, y2⟩ := blk3 X1
  go_cut [15] from 6 to 28 (fun s15 wx => ∃ cb : Bool, s15 = .bool cb ∧ Rs w g A c bytes q wx ∧ Rd wx B (bs.map .bool) ∧ wx.heap[bx]? = some (.cells #[.int .i64 W, .int .i64 T, .slice B bs.length kb] 25 (0, 0)))
  case first =>
    go_wp2_with fail
    refine (sSimple_any W T B kb bs.length bs _ R1 rfl hmx).mono ?_
    rintro e w2 ⟨rfl, b2⟩
    have H2 := H1.below b2
    have R2 := R1.belo b2
    have X2 := (b2.block bx (heap_lt X1)).trans X1
    clear H1 R1 X1 b2 x0 x1 x2 y0 y1 y2
    cases hs : simpB W T bs with
    | false =>
      go_wp2_with fail
      go_meet
      exact ⟨true, rfl, H2, R2, X2⟩
    | true =>
      have CT := Lib.hid (tilMany_int W T B kb bs.length bs _ R2 (simp_iff.1 hs).1 rfl)
      obtain ⟨x0, x1, x2, y0, y1, y2⟩ := blk3 X2
      clear hs
      go_wp2_with fail
      refine CT.out.mono ?_
      rintro e w3 ⟨z, rfl, b3⟩
      have H3 := H2.below b3
      have R3 := R2.belo b3
      have X3 := (b3.block bx (heap_lt X2)).trans X2
      clear H2 R2 X2 b3 x0 x1 x2 y0 y1 y2 CT
      go_wp2_with fail
      go_meet
      exact ⟨_, rfl, H3, R3, X3⟩
  case rest =>
    clear H1 R1 X1 x0 x1 x2 y0 y1 y2
    obtain ⟨cb, rfl, H1, R1, X1⟩ := hcut
    obtain ⟨wd, hwd⟩ : ∃ wd : World, wd = wc := ⟨_, rfl⟩
    subst hwd
    go_upto_if 15 with fail
    go_cut [15] from 15 to 28 (fun _ wx => ∃ (W T : Int) (bs : List Bool) (B : Option Addr) (kb q : Nat), q ≤ p + 100 ∧ bs.length ≤ 37 ∧ (∀ ad, B = some ad → w.heap.size < ad.block) ∧ Rs w g A c bytes q wx ∧ Rd wx B (bs.map .bool) ∧ wx.heap[bx]? = some (.cells #[.int .i64 W, .int .i64 T, .slice B bs.length kb] 25 (0, 0)))
    case first =>
      cases cb with
      | false =>
        go_wp2_with fail
        go_meet
        exact ⟨W, T, bs, B, kb, q, by omega, hl37, hB1, H1, R1, X1⟩
      | true =>
        obtain ⟨rn, e1, h1⟩ : ∃ rn : Nat, pickV 4 bytes q = rn ∧ rn ≤ 3 := by
          have := pickV_bd (n := 4) bytes q (by omega)
          exact ⟨(pickV 4 bytes q).toNat, by omega, by omega⟩
        obtain ⟨d, f, a1, a2⟩ := arrP rn h1
        have H2 := H1.alloc (.cells #[.int .i64 2, .int .i64 3, .int .i64 4, .int .i64 5] 3)
        have X2 := ((bl_alloc (Below.refl wd.heap.size wd) (.cells #[.int .i64 2, .int .i64 3, .int .i64 4, .int .i64 5] 3)).block bx (heap_lt X1)).trans X1
        have CP := Lib.hid (show Calls Tryz.prog 70 #[.pointer (some ⟨g, 0, none⟩), .int .i64 4] (wd.alloc (.cells #[.int .i64 2, .int .i64 3, .int .i64 4, .int .i64 5] 3)) fun e w' => e = .returned (.int .i64 rn) ∧ RdS w' g A c bytes (q + 1) ∧ (wd.alloc (.cells #[.int .i64 2, .int .i64 3, .int .i64 4, .int .i64 5] 3)).grownBy w' (some g) from by
          have := pickV_any 4 _ g A c bytes q H2.rds (by omega) (by omega)
          unfold PickedV at this; rw [e1] at this; exact this)
        have hrn : (rn : Int) < 4 := by omega
        have fw := f wd
        have hgd : g < wd.heap.size := heap_lt H1.rds.1
        have hgn : g ≠ wd.heap.size := by omega
        clear e1 f H1 R1 X1
        go_wp2_with fail
        refine CP.out.mono ?_
        rintro e w3 ⟨rfl, S3, G3⟩
        have H3 := H2.pick S3 G3
        have X3 := (G3.block bx (heap_lt X2) (by have := H2.hg; simp; omega)).trans X2
        have f3 := gb_cell G3 (by omega) fw
        clear H2 S3 G3 X2 CP fw
        go_wp2_with fail
        refine (sRegionBox_any d 2 _).mono ?_
        rintro e w4 ⟨B4, k4, rfl, o4, b4⟩
        have H4 := H3.below b4
        have X4 := (b4.block bx (heap_lt X3)).trans X3
        have hB4 : ∀ ad, B4 = some ad → w.heap.size < ad.block := fun ad ha => by have t := o4.1 ad ha; have := heap_lt H3.res; omega
        have hB4n : ∀ ad, B4 = some ad → ad.block ≠ bx := fun ad ha => by have t := o4.1 ad ha; have := heap_lt X3; omega
        have R4 := o4.rd
        have hl4 := box_len d 2
        generalize boxW d 2 = W4 at *
        generalize boxT d 2 = T4 at *
        generalize boxB d 2 = bs4 at *
        have K := fun (v : World) (i : Nat) (u : Value) (R : Rd v B4 (bs4.map .bool)) => R.grownBelow (set_grownP v ⟨bx, i, none⟩ u) (fun _ ad ha e => hB4n ad ha (by simpa using e))
        have R5 := K _ 2 (.slice B4 bs4.length k4) (K _ 1 (.int .i64 T4) (K _ 0 (.int .i64 W4) R4))
        have H5 := ((H4.setc (i := 0) hbx (.int .i64 W4)).setc (i := 1) hbx (.int .i64 T4)).setc (i := 2) hbx (.slice B4 bs4.length k4)
        have X5 := box3_put X4 (.int .i64 W4) (.int .i64 T4) (.slice B4 bs4.length k4)
        obtain ⟨s0, s1, s2, t0, t1, t2⟩ := blk3 X4
        clear H3 f3 X3 o4 b4 H4 K R4
        go_wp2_with fail
        go_meet
        exact ⟨W4, T4, bs4, B4, k4, q + 1, by omega, by omega, hB4, H5, R5, X5⟩
    case rest =>
      clear H1 R1 X1 hB1 hl37 hq hmx
      obtain ⟨W, T, bs, B, kb, q, hq, hl37, hB1, H1, R1, X1⟩ := hcut
      obtain ⟨we, hwe⟩ : ∃ we : World, we = wc := ⟨_, rfl⟩
      subst hwe
      go_wp2_with fail
      refine (odd_any n _ g A c bytes q H1.rds (by omega) hn0 hn).mono ?_
      rintro e w6 ⟨b, q', rfl, S6, hq6, G6⟩
      have hgb : g ≠ bx := by have := H1.hg; omega
      have H6 := H1.pick S6 G6
      have hBg : ∀ ad, B = some ad → g ≠ ad.block := fun ad ha => by have := hB1 ad ha; have := H1.hg; omega
      have R6 := R1.grownBelow G6 (fun _ ad ha e => hBg ad ha (by have e' : ad.block = g := (by simpa using e); exact e'.symm))
      have X6 := (G6.block bx (heap_lt X1) (by simp; omega)).trans X1
      clear H1 R1 X1 S6 G6
      cases b with
      | true =>
        go_wp2_with fail
        refine (region_any 4 _ g A c bytes q' H6.rds (by omega) (by omega) (by omega)).mono ?_
        rintro e w7 ⟨W', T', bs', B', kb', q7, rfl, hrd', hl37', S7, hq7, G7, hB'⟩
        have z1 := heap_lt H6.res
        have H7 := H6.pick S7 G7
        obtain ⟨s0, s1, s2, t0, t1, t2⟩ := blk3 H7.res
        have hB7 : ∀ ad, B' = some ad → w.heap.size < ad.block := fun ad ha => by have := hB' ad ha; omega
        clear H6 R6 X6
        go_wp2_with fail
        refine bodyPost_ret (v := .agg #[.int .i64 W', .int .i64 T', .slice B' bs'.length kb']) (by simp [results, Tryz.results39, go_sem, s0, s1, s2]) rfl ?_
        exact H7.done hrd' hB7 hl37' (by omega)
      | false =>
        obtain ⟨x0, x1, x2, -, -, -⟩ := blk3 X6
        obtain ⟨s0, s1, s2, t0, t1, t2⟩ := blk3 H6.res
        go_wp2_with fail
        refine bodyPost_ret (v := .agg #[.int .i64 W, .int .i64 T, .slice B bs.length kb]) (by simp [results, Tryz.results39, go_sem, s0, s1, s2]) rfl ?_
        exact H6.done R6 hB1 hl37 (by omega)
end Go.Proofs.YtkdgejmjecldeaaGreat

/- The arguments of a law, opened: regions by value, slices. -/
namespace Go.Proofs.YtkdgejmjecldeaaGreat
open Go.ChangeShapes Go.WideShapes Go.ChangeAt Go.RowKit Go.Deep

theorem own_knob : ownKnob Tryz.prog.godebug = none := by kernel_rfl
theorem laid_out : laidOutB Tryz.prog = true := by kernel_rfl

/-- a list of cells that are there lies in a block that is there -/
theorem rd_of_cells {w : World} {a : Addr} {xs : List Value} (h : ∀ j u, xs[j]? = some u → w.cell? (a.add j) = some u) : Rd w (some a) xs := fun _ => ⟨a, rfl, h⟩

section
variable {H : Type} {enc : TypeId × Value → H} {w : World} {r : Reach} {b0 base : Nat} {v : Value} {d : DataW H} {p : List MemPlace} {held : Bool} {fuel : Nat} {cs : List Value} {x : DataW H × List MemPlace}

theorem rd_bools (h : DataW.trod enc Tryz.prog w 0 (fun _ => true) held fuel 23 cs = some x) :
    ∃ (A : Option Addr) (c : Nat) (bs : List Bool), cs = [.slice A bs.length c] ∧ bs.length ≤ maxLen ∧ Rd w A (bs.map .bool) := by
  rcases open_bools Tryz.underlying23 Tryz.underlying4 (by kernel_rfl) h with ⟨hcs, _⟩ | ⟨a, len, cap, Z, hcs, _, hl, hm, _, hcell⟩
  · exact ⟨none, 0, [], by simpa using hcs, by simp, Rd.nil _ _⟩
  · refine ⟨some a, cap, (List.range len).map Z, by simpa using hcs, by simpa using (by omega : len ≤ maxLen), rd_of_cells fun j u hu => ?_⟩
    have hj : j < len := by
      rcases Nat.lt_or_ge j len with h1 | h1
      · exact h1
      · rw [List.getElem?_eq_none (by simpa using h1)] at hu; cases hu
    rw [hcell j (by omega)]
    simpa [List.getElem?_eq_getElem, hj] using hu
theorem rd_ints {t e : TypeId} {k : IntKind} (ht : Tryz.prog.underlying t = some (.slice e)) (he : Tryz.prog.underlying e = some (.int k)) (hc : Tryz.prog.cellsOf e = 1) (h : DataW.trod enc Tryz.prog w 0 (fun _ => true) held fuel t cs = some x) :
    ∃ (A : Option Addr) (c : Nat) (zs : List Int), cs = [.slice A zs.length c] ∧ zs.length ≤ maxLen ∧ Rd w A (zs.map (.int k)) ∧ ∀ n ∈ zs, (Lit.int k n).wf = true := by
  rcases open_ints ht he hc h with ⟨hcs, _⟩ | ⟨a, len, cap, zs, hcs, _, hl, hm, hz, _, hcell, hwf⟩
  · exact ⟨none, 0, [], by simpa using hcs, by simp, Rd.nil _ _, by simp⟩
  · have hz' : zs.length = cap := by simpa using hz
    have hlen : (zs.take len).length = len := by simp; omega
    refine ⟨some a, cap, zs.take len, by rw [hlen]; exact hcs, by rw [hlen]; omega, rd_of_cells fun j u hu => ?_, fun n hn => hwf n (List.mem_of_mem_take hn)⟩
    have hj : j < len := by
      rcases Nat.lt_or_ge j len with h1 | h1
      · exact h1
      · rw [List.getElem?_eq_none (by rw [List.length_map, hlen]; exact h1)] at hu; cases hu
    rw [hcell j (by omega)]
    rw [List.getElem?_map, List.getElem?_take_of_lt hj] at hu
    rw [List.getD_eq_getElem?_getD, List.getElem?_eq_getElem (by omega)]
    rw [List.getElem?_eq_getElem (by omega)] at hu
    simpa using hu

set_option maxRecDepth 100000 in
theorem open_ints_arg {t e : TypeId} {k : IntKind} (ht : Tryz.prog.underlying t = some (.slice e)) (he : Tryz.prog.underlying e = some (.int k)) (hc : Tryz.prog.cellsOf e = 1)
    (hv : Value.okWide Tryz.prog w r b0 t v) (h : DataW.Trod enc Tryz.prog w 0 (fun _ => true) held t v d p) :
    ∃ (A : Option Addr) (c : Nat) (zs : List Int), v = .slice A zs.length c ∧ zs.length ≤ maxLen ∧ Rd w A (zs.map (.int k)) ∧ ∀ n ∈ zs, (Lit.int k n).wf = true := by
  obtain ⟨a0, len0, cap0, rfl⟩ := okWide_slice ht hv
  obtain ⟨fuel, hf⟩ := h
  obtain ⟨A, c, zs, hcs, h1, h2, h3⟩ := rd_ints ht he hc hf
  simp only [Value.cells, List.cons.injEq, Value.slice.injEq, and_true] at hcs
  obtain ⟨rfl, rfl, rfl⟩ := hcs
  exact ⟨_, _, zs, rfl, h1, h2, h3⟩
set_option maxRecDepth 100000 in
/-- a slice of bytes that came in -/
theorem open_bytes {t e : TypeId} (ht : Tryz.prog.underlying t = some (.slice e)) (he : Tryz.prog.underlying e = some (.int .u8)) (hc : Tryz.prog.cellsOf e = 1)
    (hv : Value.okWide Tryz.prog w r b0 t v) (h : DataW.Trod enc Tryz.prog w 0 (fun _ => true) held t v d p) :
    ∃ (A : Option Addr) (c : Nat) (zs : List Int), v = .slice A zs.length c ∧ zs.length ≤ c ∧ zs.length ≤ maxLen ∧ Rd w A (zs.map (.int .u8)) ∧ ∀ n ∈ zs, 0 ≤ n ∧ n ≤ 255 := by
  obtain ⟨a0, len0, cap0, rfl⟩ := okWide_slice ht hv
  obtain ⟨fuel, hf⟩ := h
  have bd : ∀ n : Int, (Lit.int .u8 n).wf = true → 0 ≤ n ∧ n ≤ 255 := fun n hn => bounds_u8 hn
  rcases open_ints ht he hc hf with ⟨hcs, _⟩ | ⟨a, len, cap, zs, hcs, _, hl, hm, hz, _, hcell, hwf⟩
  · simp [Value.cells] at hcs
    obtain ⟨rfl, rfl, rfl⟩ := hcs
    exact ⟨none, 0, [], rfl, by simp, by simp, Rd.nil _ _, by simp⟩
  · simp [Value.cells] at hcs
    obtain ⟨rfl, rfl, rfl⟩ := hcs
    have hz' : zs.length = cap0 := by simpa using hz
    have hlen : (zs.take len0).length = len0 := by simp; omega
    refine ⟨some a, cap0, zs.take len0, by rw [hlen], by omega, by omega, rd_of_cells fun j u hu => ?_, fun n hn => bd n (hwf n (List.mem_of_mem_take hn))⟩
    have hj : j < len0 := by
      rcases Nat.lt_or_ge j len0 with h1 | h1
      · exact h1
      · rw [List.getElem?_eq_none (by rw [List.length_map, hlen]; exact h1)] at hu; cases hu
    rw [hcell j (by omega)]
    rw [List.getElem?_map, List.getElem?_take_of_lt hj] at hu
    rw [List.getD_eq_getElem?_getD, List.getElem?_eq_getElem (by omega)]
    rw [List.getElem?_eq_getElem (by omega)] at hu
    simpa using hu
set_option maxRecDepth 100000 in
theorem open_region (hv : Value.okWide Tryz.prog w r b0 35 v) (h : DataW.Trod enc Tryz.prog w 0 (fun _ => true) held 35 v d p) :
    ∃ (W T : Int) (A : Option Addr) (c : Nat) (bs : List Bool), v = .agg #[.int .i64 W, .int .i64 T, .slice A bs.length c] ∧ (Lit.int .i64 W).wf = true ∧ (Lit.int .i64 T).wf = true ∧ bs.length ≤ maxLen ∧ Rd w A (bs.map .bool) := by
  obtain ⟨v0, v1, v2, y0, y1, y2, n, rfl, rfl, rfl, h0, h1, h2⟩ := Go.Joins.open_agg3 Tryz.underlying35 (by kernel_rfl) (by kernel_rfl) hv h
  obtain ⟨W, e0, _, w0⟩ := DataW.trod_int Tryz.underlying3 h0
  obtain ⟨T, e1, _, w1⟩ := DataW.trod_int Tryz.underlying3 h1
  obtain ⟨A, c, bs, e2, h3, h4⟩ := rd_bools h2
  simp at e0 e1 e2
  subst e0 e1 e2
  exact ⟨W, T, A, c, bs, rfl, w0, w1, h3, h4⟩
end
end Go.Proofs.YtkdgejmjecldeaaGreat

/- Contracts: copies, comparisons and sizes of lists of cells, as the laws make them; such an argument opened. -/
namespace Go.Proofs.YtkdgejmjecldeaaGreat
open Go.RowKit

/-- two cells more of a row -/
theorem set2_take (l : List Ce) (k : Nat) (h : k < l.length) :
    ((cellsV (l.take k) ++ List.replicate ((l.length - k) * 2) (Value.int .i64 0)).set (k * 2) (.int .i64 l[k].1)).set (k * 2 + 1) (.int .i64 l[k].2) = cellsV (l.take (k + 1)) ++ List.replicate ((l.length - (k + 1)) * 2) (Value.int .i64 0) := by
  have h1 : (cellsV (l.take k)).length = k * 2 := by rw [cellsV_len, List.length_take]; omega
  obtain ⟨m, hm⟩ : ∃ m, (l.length - k) * 2 = m + 1 + 1 := ⟨(l.length - k) * 2 - 2, by omega⟩
  have hm2 : (l.length - (k + 1)) * 2 = m := by omega
  rw [take_one_more l k h, cellsV_append, hm, hm2, List.replicate_succ, List.replicate_succ, List.set_append_right _ _ (by omega), h1, Nat.sub_self, List.set_cons_zero, List.set_append_right _ _ (by omega), h1,
    show k * 2 + 1 - k * 2 = 0 + 1 by omega, List.set_cons_succ, List.set_cons_zero, List.append_assoc]
  rfl
theorem zero_at (l : List Ce) (k : Nat) (h : k < l.length) :
    (cellsV (l.take k) ++ List.replicate ((l.length - k) * 2) (Value.int .i64 0))[k * 2]? = some (.int .i64 0) ∧ (cellsV (l.take k) ++ List.replicate ((l.length - k) * 2) (Value.int .i64 0))[k * 2 + 1]? = some (.int .i64 0) := by
  have h1 : (cellsV (l.take k)).length = k * 2 := by rw [cellsV_len, List.length_take]; omega
  rw [List.getElem?_append_right (by omega), List.getElem?_append_right (by omega), List.getElem?_replicate, List.getElem?_replicate, if_pos (by omega), if_pos (by omega)]
  exact ⟨rfl, rfl⟩
theorem made2 (n : Nat) : (madeCells #[Value.int .i64 0, .int .i64 0] (n * 2)).toList = cellsV [] ++ List.replicate (n * 2) (Value.int .i64 0) := by
  apply List.ext_getElem?
  intro j
  by_cases hj : j < n * 2
  · rcases Nat.mod_two_eq_zero_or_one j with h | h <;> simp [madeCells, hj, h, cellsV]
  · simp [madeCells, hj, cellsV]
end Go.Proofs.YtkdgejmjecldeaaGreat

/- Slices of cells that may be written: marks. -/
namespace Go.Proofs.YtkdgejmjecldeaaGreat
open Go.RowKit

theorem Wr.of_ownC {w : World} {lo : Nat} {e : TypeId} {A : Option Addr} {size n c : Nat} {xs : List Value} (h : w.ownsRow lo e size (.slice A n c) n xs) : Wr w lo e A xs := by
  refine ⟨fun ad ha => ?_, fun hne => ?_⟩
  · subst ha; exact (h.lt ad.block rfl).1
  have hl : xs.length = n * size := h.1
  rcases h.2 with ⟨_, h0⟩ | ⟨g, cap, cur, hv, hg, hh, _, _, _, ht⟩
  · subst h0; exact absurd (List.eq_nil_of_length_eq_zero (by simpa using hl)) hne
  · have hA : A = some ⟨g, 0, none⟩ := by injection hv
    exact ⟨g, cur, hA, hh, by rw [hl]; exact ht⟩
theorem set_grown (w : World) (g k : Nat) (u : Value) : w.grownBy (w.setCell ⟨g, k, none⟩ u) (some g) :=
  ⟨rfl, rfl, rfl, by simp [World.setCell], fun i _ hn => Below.heap_setCell _ _ _ _ (fun e => hn (by simp [e]))⟩
/-- a slice of cells that may be read -/
def NewRdC (ps : List Ce) (w : World) (e : Ending) (w' : World) : Prop :=
  ∃ (A : Option Addr) (c : Nat), e = .returned (.slice A ps.length c) ∧ RdC w' A ps ∧ Below w.heap.size w w' ∧ ∀ ad, A = some ad → w.heap.size ≤ ad.block
theorem own_ltS {w : World} {base e size n c : Nat} {A : Option Addr} {xs : List Value} (h : w.ownsRow base e size (.slice A n c) n xs) : ∀ ad, A = some ad → ad.block < w.heap.size := by
  rintro ad rfl; exact (h.lt ad.block rfl).2
end Go.Proofs.YtkdgejmjecldeaaGreat

/- Contracts: copies, comparisons, sizes and marks of lists of pushes, as the laws make them; such an argument opened. -/
namespace Go.Proofs.YtkdgejmjecldeaaGreat
open Go.RowKit

theorem Tryz.infoPu : (Tryz.prog.info? 31).map (fun i => (i.zero, i.size, i.bytes)) = some (some (.agg #[.int .i64 0, .bool false]), 2, 16) := by kernel_rfl
def OwnPu (w : World) (base : Nat) (v : Value) (ps : List Pu) : Prop :=
  ∃ (A : Option Addr) (c : Nat), v = .slice A ps.length c ∧ w.ownsRow base 31 2 v ps.length (pushV ps)
theorem OwnPu.belo {w w' : World} {base : Nat} {v : Value} {ps : List Pu} (h : OwnPu w base v ps) (hb : Below w.heap.size w w') : OwnPu w' base v ps := by
  obtain ⟨A, c, e, h⟩ := h; exact ⟨A, c, e, own_below h hb (Nat.le_refl _)⟩
theorem OwnPu.rd {w : World} {base n c : Nat} {A : Option Addr} {ps : List Pu} (h : OwnPu w base (.slice A n c) ps) : RdP w A ps := fun hne => by
  obtain ⟨A', c', e, h⟩ := h
  have hl := pushV_len ps
  have h0 : 0 < ps.length := by
    rcases Nat.eq_zero_or_pos ps.length with h0 | h0
    · exact absurd (List.eq_nil_of_length_eq_zero (by omega)) hne
    · exact h0
  obtain ⟨g, cap, hv, _, _⟩ := h.form h0
  have hA : A = some ⟨g, 0, none⟩ := by injection hv
  subst hA
  exact ⟨_, rfl, h.cells (g := g) rfl⟩
theorem pushV_set (xs ys : List Pu) (q u : Pu) : ((pushV (xs ++ q :: ys)).set (xs.length * 2) (.int .i64 u.1)).set (xs.length * 2 + 1) (.bool u.2) = pushV (xs ++ u :: ys) := by
  have h1 : (pushV xs).length = xs.length * 2 := pushV_len xs
  have e : ∀ q : Pu, pushV (q :: ys) = .int .i64 q.1 :: .bool q.2 :: pushV ys := fun q => rfl
  rw [pushV_append, pushV_append, e q, e u, List.set_append_right _ _ (by omega), h1, Nat.sub_self, List.set_cons_zero, List.set_append_right _ _ (by omega), h1, show xs.length * 2 + 1 - xs.length * 2 = 0 + 1 by omega, List.set_cons_succ, List.set_cons_zero]
theorem madeP (n : Nat) : (madeCells #[Value.int .i64 0, .bool false] (n * 2)).toList = pushV (List.replicate n (0, false)) := by
  apply List.ext_getElem?
  intro j
  by_cases hj : j < n * 2
  · have hk : j / 2 < (List.replicate n ((0, false) : Pu)).length := by simp; omega
    obtain ⟨g0, g1⟩ := pushV_get (List.replicate n ((0, false) : Pu)) (j / 2) hk
    rw [List.getElem_replicate] at g0 g1
    rcases Nat.mod_two_eq_zero_or_one j with h | h
    · rw [show j / 2 * 2 = j by omega] at g0
      rw [g0]
      simp [madeCells, hj, h]
    · rw [show j / 2 * 2 + 1 = j by omega] at g1
      rw [g1]
      simp [madeCells, hj, h]
  · have h2 : (pushV (List.replicate n ((0, false) : Pu)))[j]? = none := List.getElem?_eq_none (by rw [pushV_len]; simp; omega)
    rw [h2]
    simp [madeCells, hj]
set_option maxRecDepth 100000 in
theorem toPush_any (x : Int) (y : Bool) (w : World) : Calls Tryz.prog 64 #[.agg #[.int .i64 x, .bool y]] w fun e w' => e = .returned (.agg #[.int .i64 x, .bool y]) ∧ Below w.heap.size w w' := by
  go_enter Tryz.func64, Tryz.ntmps64
  go_wp2
  refine bodyPost_ret (v := .agg #[.int .i64 x, .bool y]) (by simp [results, Tryz.results64, go_sem]) rfl ⟨rfl, ?_⟩
  repeat (first | exact Below.refl _ _ | refine Below.setCell ?_ ?_ _ | refine Below.alloc ?_ ?_ _)
  all_goals (simp <;> omega)
theorem szPushS_t (A : Option Addr) (n c : Nat) (left : Int) (w : World) (h0 : left ≤ 1048576) (h : (n : Int) ≤ left) :
    Calls Tryz.prog 17 #[.slice A n c, .int .i64 left] w fun e w' => e = .returned (.int .i64 (left - n)) ∧ w = w' := by
  go_enter Tryz.func17, Tryz.ntmps17
  go_wp2
  go_ret
  exact ⟨rfl, rfl⟩
theorem szPushS_f (A : Option Addr) (n c : Nat) (left : Int) (w : World) (h0 : 0 ≤ left) (hn : n ≤ maxLen) (h : left < n) :
    Calls Tryz.prog 17 #[.slice A n c, .int .i64 left] w fun e w' => e = .returned (.int .i64 (-1)) ∧ w = w' := by
  unfold maxLen at hn
  go_enter Tryz.func17, Tryz.ntmps17
  go_wp2
  go_ret
  exact ⟨rfl, rfl⟩
theorem eqPush_t (a : Pu) (w : World) : Calls Tryz.prog 66 #[.agg #[.int .i64 a.1, .bool a.2], .agg #[.int .i64 a.1, .bool a.2]] w fun e w' => e = .returned (.bool true) ∧ Below w.heap.size w w' := by
  obtain ⟨x, y⟩ := a
  have hb : (y != y) = false := by simp
  go_enter Tryz.func66, Tryz.ntmps66
  go_wp2
  go_ret
  exact ⟨rfl, bl_alloc (bl_alloc (Below.refl _ _) _) _⟩
set_option maxRecDepth 100000 in
set_option maxHeartbeats 2000000 in
theorem toPushS_any (A : Option Addr) (c n : Nat) (ps : List Pu) (w : World) (hr : RdP w A ps) (hm : ps.length = n) (hn : n ≤ 10000000) :
    Calls Tryz.prog 20 #[.slice A n c] w fun e w' => ∃ A' : Option Addr, e = .returned (.slice A' n n) ∧ OwnPu w' w.heap.size (.slice A' n n) ps ∧ Below w.heap.size w w' := by
  obtain ⟨i0, hi, hz0, hz1, hz2⟩ := info_parts Tryz.infoPu
  have hb1 : i0.bytes * n ≤ 281474976710656 := by rw [hz2]; omega
  have HZ := Lib.hid (And.intro hz0 (And.intro hz1 hz2))
  have HM := Lib.hid hm
  clear hz0 hz1 hz2 hm
  go_enter Tryz.func20, Tryz.ntmps20
  go_wp2_with (at_make; refine wpList_make_full _ rfl _ _ 26 rfl w.heap.size 31 i0 (.agg #[.int .i64 0, .bool false]) 2 Tryz.underlying26 hi HZ.out.1 HZ.out.2.1 .i64 .i64 _ _ n rfl rfl rfl rfl hb1 (by unfold maxLen; omega) (Nat.le_refl _) ?_; intro w1 hown1 hgrow1)
  go_loopw [4] (fun i wr => ∃ k : Nat, k ≤ n ∧ i = .int .i64 k ∧ wr.ownsRow w.heap.size 31 2 (.slice (some ⟨w.heap.size, 0, none⟩) n n) n (pushV (ps.take k ++ List.replicate (n - k) (0, false))) ∧ Below w.heap.size w wr) (fun i _ => n - (intOf i).toNat)
  case atStart =>
    refine ⟨0, Nat.zero_le _, rfl, ?_, (Below.refl _ _).grown hgrow1 (Nat.le_refl _) (fun k hk => by cases hk)⟩
    rw [show (Value.agg #[.int .i64 0, .bool false]).cells = #[.int .i64 0, .bool false] from rfl, madeP] at hown1
    simpa using hown1
  case round =>
    clear hgrow1 hown1
    obtain ⟨k, hk, rfl, hown, hbel⟩ := hrel
    by_cases hlt : k < n
    · have hkp : k < ps.length := by rw [HM.out]; exact hlt
      obtain ⟨b, off, rfl, c0, c1⟩ := RdP.at_ (w := wr) (show RdP wr A ps from RdP.belo hr hbel) hkp
      have hkI : (k : Int) < (n : Int) := by omega
      obtain ⟨m, hnm⟩ : ∃ m, n - k = m + 1 := ⟨n - k - 1, by omega⟩
      have hlt2 : (ps.take k).length = k := by rw [List.length_take]; omega
      have HS := Lib.hid (pushV_set (ps.take k) (List.replicate m (0, false)) (0, false) ps[k])
      have HTK := Lib.hid (show ps.take k ++ ps[k] :: List.replicate m ((0, false) : Pu) = ps.take (k + 1) ++ List.replicate (n - (k + 1)) ((0, false) : Pu) by
        rw [take_one_more ps k hkp, List.append_assoc, show n - (k + 1) = m by omega]; rfl)
      rw [HTK.out, hlt2] at HS
      rw [hnm, List.replicate_succ] at hown
      have hzl : k < (ps.take k ++ ((0, false) : Pu) :: List.replicate m (0, false)).length := by rw [List.length_append, List.length_cons]; omega
      obtain ⟨z0, z1⟩ := pushV_get (ps.take k ++ ((0, false) : Pu) :: List.replicate m (0, false)) k hzl
      have hze : (ps.take k ++ ((0, false) : Pu) :: List.replicate m (0, false))[k] = (0, false) := by
        rw [List.getElem_append_right (by omega)]
        simp [hlt2]
      rw [hze] at z0 z1
      generalize ps[k] = q at *
      obtain ⟨x, y⟩ := q
      simp only at c0 c1 HS
      have HNM := Lib.hid hnm
      clear hze hnm HTK hlt2
      go_wp2_with (go_at_call 64; refine (toPush_any x y _).mono ?_; rintro e w3 ⟨rfl, b3⟩; have own3 := own_below hown b3 (Nat.le_refl _); have hf1 := own3.frozenAt (k * 2); have hf2 := own3.frozenAt (k * 2 + 1); have hc1 := (own3.cellAt (k * 2) (by omega)).trans z0; have hc2 := (own3.cellAt (k * 2 + 1) (by omega)).trans z1)
      go_roundw
      case rel =>
        refine ⟨k + 1, by omega, by go_num, ?_, ((hbel.trans (b3.mono hbel.size)).setCell (Nat.le_refl _) _).setCell (Nat.le_refl _) _⟩
        have h1 := ((own3.stored (k * 2) (.int .i64 x)).1.stored (k * 2 + 1) (.bool y)).1
        rw [HS.out] at h1
        exact h1
      case measure => simp [intOf]; omega
    · go_wp2_with fail
      go_ret
      obtain rfl : k = n := by omega
      have e : ps.take k ++ List.replicate (k - k) ((0, false) : Pu) = ps := by rw [Nat.sub_self, List.replicate_zero, List.append_nil, List.take_of_length_le (by rw [HM.out]; omega)]
      rw [e] at hown
      exact ⟨_, rfl, ⟨_, _, by rw [HM.out], by rw [HM.out]; exact hown⟩, hbel⟩
set_option maxHeartbeats 2000000 in
theorem eqPushS_t (A A' : Option Addr) (c c' n : Nat) (ps : List Pu) (w : World) (hr : RdP w A ps) (hr' : RdP w A' ps) (hm : ps.length = n) (hn : n ≤ maxLen) :
    Calls Tryz.prog 24 #[.slice A n c, .slice A' n c'] w fun e w' => e = .returned (.bool true) ∧ Below w.heap.size w w' := by
  unfold maxLen at hn
  have HM := Lib.hid hm
  clear hm
  have hnn : ((n : Int) != (n : Int)) = false := by simp
  go_enter Tryz.func24, Tryz.ntmps24
  go_wp2_with fail
  go_loopw [5] (fun i wr => ∃ k : Nat, k ≤ n ∧ i = .int .i64 k ∧ Below w.heap.size w wr) (fun i _ => n - (intOf i).toNat)
  case atStart => exact ⟨0, Nat.zero_le _, rfl, Below.refl _ _⟩
  case round =>
    obtain ⟨k, hk, rfl, hbel⟩ := hrel
    by_cases hlt : k < n
    · have hkp : k < ps.length := by rw [HM.out]; exact hlt
      obtain ⟨b, off, rfl, c0, c1⟩ := RdP.at_ (w := wr) (show RdP wr A ps from RdP.belo hr hbel) hkp
      obtain ⟨g, goff, rfl, d0, d1⟩ := RdP.at_ (w := wr) (show RdP wr A' ps from RdP.belo hr' hbel) hkp
      have hkI : (k : Int) < (n : Int) := by omega
      generalize ps[k] = q at c0 c1 d0 d1
      obtain ⟨x, y⟩ := q
      simp only at c0 c1 d0 d1
      have gs := World.block_lt_of_cell? wr _ c0
      have gt := World.block_lt_of_cell? wr _ d0
      simp only at gs gt
      have L0 : ∀ z : BW wr, z.wo.cell? ⟨b, off + k * 2, none⟩ = some (.int .i64 x) := fun z => z.cell gs c0
      have L1 : ∀ z : BW wr, z.wo.cell? ⟨b, off + k * 2 + 1, none⟩ = some (.bool y) := fun z => z.cell gs c1
      have L2 : ∀ z : BW wr, z.wo.cell? ⟨g, goff + k * 2, none⟩ = some (.int .i64 x) := fun z => z.cell gt d0
      have L3 : ∀ z : BW wr, z.wo.cell? ⟨g, goff + k * 2 + 1, none⟩ = some (.bool y) := fun z => z.cell gt d1
      go_wp2_with fail
      (refine region_bw (by kernel_rfl) (by kernel_rfl) ?_; (repeat (first | go_big_quiet_skip | (go_big_quiet_want; go_big_quiet_op; first | go_big_quiet_on | (refine ⟨.bool true, fun zz => ?_, ?_⟩; (go_at_call 66; exact zz.on (eqPush_t (x, y) _)); go_big_quiet_on)))); refine wpQuiet_nil ?_; intro wz hw'; obtain ⟨zw, hw''⟩ := hw'; subst hw'')
      go_wp2
      go_roundw
      case rel => exact ⟨k + 1, by omega, by go_num, bl_go hbel zw.ok⟩
      case measure => simp [intOf]; omega
    · go_wp2_with fail
      go_ret
      exact ⟨rfl, hbel⟩
set_option maxHeartbeats 2000000 in
theorem markPushS_any (A : Option Addr) (n c : Nat) (xs : List Value) (k : Int) (w : World) (lo : Nat) (h : Wr w lo 31 A xs) (hx : xs.length = n * 2) (hn : n ≤ 1000000000000) (k0 : 0 ≤ k) (k1 : k ≤ 1000000000000) :
    Calls Tryz.prog 26 #[.slice A n c, .int .i64 k] w fun e w' => e = .returned (.int .i64 (k + 2 * n)) ∧ w.grownBy w' (A.map (·.block)) := by
  have HX := Lib.hid hx
  clear hx
  go_enter Tryz.func26, Tryz.ntmps26
  go_wp2
  go_loopw [1, 5] (fun v i wr => ∃ (j : Nat) (ys : List Value), j ≤ n ∧ i = .int .i64 j ∧ v = .int .i64 (k + 2 * j) ∧ Hid (ys.length = n * 2) ∧ Wr wr lo 31 A ys ∧ w.grownBy wr (A.map (·.block))) (fun _ i _ => n - (intOf i).toNat)
  case atStart => exact ⟨0, xs, Nat.zero_le _, rfl, by go_num, HX, h, World.grownBy.refl _ _⟩
  case round =>
    obtain ⟨j, ys, hj, rfl, rfl, HY, hw, hg⟩ := hrel
    by_cases hlt : j < n
    · have hl := HY.out
      have hne : ys ≠ [] := by intro e; rw [e] at hl; simp at hl; omega
      obtain ⟨g, rfl, hlo, hgs, hfr⟩ := hw.form hne
      have hf := hfr (j * 2)
      have hf2 := hfr (j * 2 + 1)
      obtain ⟨ad, e, hc⟩ := hw.rd.at_ (k := j * 2) (by rw [hl]; omega)
      obtain ⟨ad2, e2, hcc⟩ := hw.rd.at_ (k := j * 2 + 1) (by rw [hl]; omega)
      have e' : ad = ⟨g, 0, none⟩ := by injection e with e; exact e.symm
      have e2' : ad2 = ⟨g, 0, none⟩ := by injection e2 with e; exact e.symm
      subst e'; subst e2'
      rw [add_off, Nat.zero_add] at hc hcc
      obtain ⟨ov, hc2⟩ : ∃ ov, wr.cell? ⟨g, j * 2, none⟩ = some ov := ⟨_, hc⟩
      obtain ⟨ov2, hc3⟩ : ∃ ov, wr.cell? ⟨g, j * 2 + 1, none⟩ = some ov := ⟨_, hcc⟩
      have hjI : (j : Int) < (n : Int) := by omega
      clear hfr e e2 hne hc hcc hl
      go_wp2
      refine ⟨⟨j + 1, _, by omega, by go_num, by go_num, ?_, (hw.store (j * 2) _).store (j * 2 + 1) _, grownBy_trans' (grownBy_trans' hg (set_grown _ g _ _)) (set_grown _ g _ _)⟩, by simp [intOf]; omega⟩
      exact Lib.hid (by rw [List.length_set, List.length_set]; exact HY.out)
    · go_wp2
      go_ret
      obtain rfl : j = n := by omega
      exact ⟨rfl, hg⟩
section
open Go.ChangeShapes Go.WideShapes Go.ChangeAt Go.RowKit Go.Deep
variable {H : Type} {enc : TypeId × Value → H} {w : World} {r : Reach} {b0 base : Nat} {v : Value} {d : DataW H} {p : List MemPlace} {held : Bool} {fuel : Nat} {cs : List Value} {x : DataW H × List MemPlace}
def boolOf : Value → Bool
  | .bool b => b
  | _ => false
set_option maxRecDepth 100000 in
theorem rd_pushes (h : DataW.trod enc Tryz.prog w 0 (fun _ => true) held fuel 36 cs = some x) :
    ∃ (A : Option Addr) (c : Nat) (ps : List Pu), cs = [.slice A ps.length c] ∧ ps.length ≤ maxLen ∧ ps.length ≤ c ∧ RdP w A ps := by
  rcases open_slice_pairs Tryz.underlying36 Tryz.underlying83 (by kernel_rfl) rfl rfl (by kernel_rfl) (by kernel_rfl) h with ⟨hcs, _⟩ | ⟨a, len, cap, m, k, V0, V1, D0, D1, P0, P1, hcs, _, hl, hm, hmm, hx, hall⟩
  · exact ⟨none, 0, [], by simpa using hcs, by simp, by simp, Rd.nil _ _⟩
  · have hmm' : m = cap := by simpa using hmm
    have hv : ∀ i, i < len → ∃ q : Pu, V0 i = .int .i64 q.1 ∧ V1 i = .bool q.2 := fun i hi => by
      obtain ⟨-, -, t0, t1⟩ := hall i (by omega)
      obtain ⟨n0, e0, -, -⟩ := DataW.trod_int Tryz.underlying3 t0
      obtain ⟨n1, e1, _⟩ := DataW.trod_bool Tryz.underlying4 t1
      simp only [List.cons.injEq, and_true] at e0 e1
      exact ⟨(n0, n1), e0, e1⟩
    have hlen : ((List.range len).map fun i => ((intOf (V0 i), boolOf (V1 i)) : Pu)).length = len := by simp
    refine ⟨some a, cap, (List.range len).map fun i => (intOf (V0 i), boolOf (V1 i)), by rw [hlen]; exact hcs, by rw [hlen]; omega, by rw [hlen]; exact hl, fun _ => ⟨a, rfl, fun j u hu => ?_⟩⟩
    have hj : j < len * 2 := by
      rcases Nat.lt_or_ge j (len * 2) with h1 | h1
      · exact h1
      · rw [List.getElem?_eq_none (by rw [pushV_len, hlen]; exact h1)] at hu; cases hu
    have hi : j / 2 < len := by omega
    obtain ⟨g0, g1⟩ := pushV_get ((List.range len).map fun i => ((intOf (V0 i), boolOf (V1 i)) : Pu)) (j / 2) (by rw [hlen]; exact hi)
    obtain ⟨q, e0, e1⟩ := hv _ hi
    obtain ⟨a0, a1, -, -⟩ := hall (j / 2) (by omega)
    rw [List.getElem_map, List.getElem_range] at g0 g1
    rw [e0] at a0 g0
    rw [e1] at a1 g1
    rcases Nat.mod_two_eq_zero_or_one j with hp | hp
    · have ej : j / 2 * 2 = j := by omega
      rw [ej] at a0 g0
      rw [a0, ← hu, g0]
      rfl
    · have ej : j / 2 * 2 + 1 = j := by omega
      rw [ej] at a1 g1
      rw [a1, ← hu, g1]
      rfl
set_option maxRecDepth 100000 in
/-- a slice of pushes that came in -/
theorem open_pushes (hv : Value.okWide Tryz.prog w r b0 36 v) (h : DataW.Trod enc Tryz.prog w 0 (fun _ => true) held 36 v d p) :
    ∃ (A : Option Addr) (c : Nat) (ps : List Pu), v = .slice A ps.length c ∧ ps.length ≤ maxLen ∧ ps.length ≤ c ∧ RdP w A ps := by
  obtain ⟨a0, len0, cap0, rfl⟩ := okWide_slice Tryz.underlying36 hv
  obtain ⟨fuel, hf⟩ := h
  obtain ⟨A, c, zs, hcs, h1, h2, h3⟩ := rd_pushes hf
  simp only [Value.cells, List.cons.injEq, Value.slice.injEq, and_true] at hcs
  obtain ⟨rfl, rfl, rfl⟩ := hcs
  exact ⟨_, _, zs, rfl, h1, h2, h3⟩
end
end Go.Proofs.YtkdgejmjecldeaaGreat

/- Contracts: the draw of a list of pushes (l20Pushes). -/
namespace Go.Proofs.YtkdgejmjecldeaaGreat
open Go.RowKit

theorem OwnPu.grown {w w' : World} {base g : Nat} {v : Value} {ps : List Pu} (h : OwnPu w base v ps) (hg : w.grownBy w' (some g)) (hlt : g < base) : OwnPu w' base v ps := by
  obtain ⟨A, c, e, h⟩ := h
  refine ⟨A, c, e, h.kept hg ?_⟩
  rcases h.2 with ⟨h', _⟩ | ⟨g', cap', cur, h', hb, _⟩
  · left; rw [h']; rfl
  · right; rw [h']; intro e2; simp [Value.ownBlock] at e2; omega
theorem OwnPu.base {w : World} {b b' : Nat} {v : Value} {ps : List Pu} (h : OwnPu w b v ps) (hB : b' ≤ b) : OwnPu w b' v ps := by
  obtain ⟨A, c, e, h⟩ := h; exact ⟨A, c, e, own_base h hB⟩
section
variable {ops : Array Oper} {rest : List Oper} {o : Oper} {a : Act} {Q : Exit → Act → World → Prop}
/-- a push is appended -/
theorem app_push (w : World) (hgd : o.guard = none) (s x : Operand) (ho : o.op = .call { callee := .builtin .append, args := #[s, x], argTypes := #[26, 26] })
    (base : Nat) (v : Value) (ps : List Pu) (hs : a.eval s = v) (hown : OwnPu w base v ps) (q1 : Int) (q2 : Bool) (hx : a.eval x = .slice (some ⟨w.heap.size, 0, none⟩) 1 1) (hn : ps.length ≤ 1000000000000) (hbase : base ≤ w.heap.size)
    (h : ∀ (A' : Option Addr) (c' : Nat) (w' : World), OwnPu w' base (.slice A' (ps.length + 1) c') (ps ++ [(q1, q2)]) → Below base (w.alloc (.cells #[.int .i64 q1, .bool q2] 31)) w' → wpList Tryz.prog ops Q rest (a.put o.dst (.slice A' (ps.length + 1) c')) w') :
    wpList Tryz.prog ops Q (o :: rest) a (w.alloc (.cells #[.int .i64 q1, .bool q2] 31)) := by
  obtain ⟨i0, hi, hz0, hz1, hz2⟩ := info_parts Tryz.infoPu
  obtain ⟨A, c, e, hown⟩ := hown
  refine wpList_append_own _ hgd s x 26 ho base 31 i0 _ 2 16 Tryz.underlying26 hi hz0 hz1 hz2 rfl (by decide) v _ _ hs (hown.alloc _) ⟨w.heap.size, 0, none⟩ 1 1 [.int .i64 q1, .bool q2] hx rfl ?_ ?_ ?_ ?_ ?_ ?_
  · intro j y hj
    rw [add_off, Nat.zero_add, cell_of_row _ _ _ _ _ _ (heap_alloc_new w _)]
    simpa using hj
  · intro y hy; simp at hy; rcases hy with rfl | rfl <;> rfl
  · unfold maxLen; omega
  · omega
  · simp; omega
  · intro v' w' h1 h2 _
    have e1 : pushV ps ++ [.int .i64 q1, .bool q2] = pushV (ps ++ [(q1, q2)]) := by rw [pushV_append]; rfl
    rw [e1] at h1
    obtain ⟨g, cap, rfl, _, _⟩ := h1.form (by omega)
    refine h _ _ w' ⟨_, _, by simp; exact ⟨rfl, rfl⟩, ?_⟩ ?_
    · have e2 : (ps ++ [(q1, q2)]).length = ps.length + 1 := by simp
      rw [e2]; exact h1
    · exact (Below.refl base _).grown h2 (by simp; omega) (fun k hk => (hown.lt k hk).1)
end
theorem own_cap {w : World} {b n c : Nat} {t : TypeId} {sz : Nat} {A : Option Addr} {xs : List Value} (h : w.ownsRow b t sz (.slice A n c) n xs) : n ≤ c := by
  rcases h.2 with ⟨h1, h2⟩ | ⟨g, cap, cur, hv, h1, h2, h3, h4⟩
  · injection h1 with a b c; omega
  · injection hv with a b c; omega
/-- a list of pushes is handed back; the reader has gone on -/
def SomePu (g : Nat) (A : Option Addr) (c : Nat) (bytes : List Int) (m : Nat) (w : World) (e : Ending) (w' : World) : Prop :=
  ∃ (P : Option Addr) (k p' : Nat) (ps : List Pu), e = .returned (.slice P ps.length k) ∧ OwnPu w' w.heap.size (.slice P ps.length k) ps ∧ ps.length ≤ m ∧ ps.length ≤ k ∧ RdS w' g A c bytes p' ∧ w.grownBy w' (some g)
/-- the state of the loop -/
structure PuL (w : World) (g : Nat) (A : Option Addr) (c : Nat) (bytes : List Int) (W T : Int) (B : Option Addr) (bs : List Bool) (k q : Nat) (v : Value) (ps : List Pu) (wr : World) : Prop where
  own : OwnPu wr (w.heap.size + 1) v ps
  box : wr.heap[w.heap.size]? = some (.cells #[.int .i64 W, .int .i64 T, .slice B bs.length k] 25 (0, 0))
  pos : wr.heap[g]? = some (.cells #[.slice A bytes.length c, .int .i64 q] 98 (0, 0))
  gb : w.grownBy wr (some g)
  rd0 : Rd w B (bs.map .bool)
  rs0 : Rd w A (bytes.map (.int .u8)) ∧ (bytes ≠ [] → ∀ ad, A = some ad → ad.block ≠ g) ∧ bytes.length ≤ 2000 ∧ ∀ x ∈ bytes, 0 ≤ x ∧ x ≤ 255
  hg : g < w.heap.size
  hB : ∀ ad, B = some ad → g ≠ ad.block
section
variable {w wr w' : World} {g : Nat} {A : Option Addr} {c : Nat} {bytes : List Int} {W T : Int} {B : Option Addr} {bs : List Bool} {k q : Nat} {v : Value} {ps : List Pu}
theorem PuL.rd (h : PuL w g A c bytes W T B bs k q v ps wr) : Rd wr B (bs.map .bool) :=
  h.rd0.grownBelow h.gb (fun _ ad ha e => h.hB ad ha (by have e' : ad.block = g := (by simpa using e); exact e'.symm))
theorem PuL.rds (h : PuL w g A c bytes W T B bs k q v ps wr) : RdS wr g A c bytes q :=
  ⟨h.pos, h.rs0.1.grownBelow h.gb (fun hne ad ha e => h.rs0.2.1 (by simpa using hne) ad ha (by simpa using e)), h.rs0.2⟩
theorem PuL.pick (h : PuL w g A c bytes W T B bs k q v ps wr) {q' : Nat} (S : RdS w' g A c bytes q') (G : wr.grownBy w' (some g)) : PuL w g A c bytes W T B bs k q' v ps w' :=
  ⟨h.own.grown G (by have := h.hg; omega), (G.block _ (heap_lt h.box) (by have := h.hg; simp; omega)).trans h.box, S.1, grownBy_trans' h.gb G, h.rd0, h.rs0, h.hg, h.hB⟩
theorem PuL.below (h : PuL w g A c bytes W T B bs k q v ps wr) (hb : Below wr.heap.size wr w') : PuL w g A c bytes W T B bs k q v ps w' :=
  ⟨h.own.belo hb, (hb.block _ (heap_lt h.box)).trans h.box, (hb.block _ (heap_lt h.pos)).trans h.pos, gb_below h.gb hb, h.rd0, h.rs0, h.hg, h.hB⟩
theorem PuL.app (h : PuL w g A c bytes W T B bs k q v ps wr) {v' : Value} {qs : List Pu} (own : OwnPu w' (w.heap.size + 1) v' qs) (hb : Below (w.heap.size + 1) wr w') : PuL w g A c bytes W T B bs k q v' qs w' :=
  ⟨own, (hb.block _ (Nat.lt_succ_self _)).trans h.box, (hb.block _ (by have := h.hg; omega)).trans h.pos,
   ⟨hb.os.trans h.gb.os, hb.tape.trans h.gb.tape, hb.output.trans h.gb.output, Nat.le_trans h.gb.size hb.size, fun i hi hn => (hb.block i (by omega)).trans (h.gb.block i hi hn)⟩, h.rd0, h.rs0, h.hg, h.hB⟩
end
set_option maxRecDepth 100000 in
set_option maxHeartbeats 4000000 in
theorem pushes_any (W T : Int) (B : Option Addr) (bs : List Bool) (k : Nat) (n : Nat) (w : World) (g : Nat) (A : Option Addr) (c : Nat) (bytes : List Int) (p : Nat) (hr : Rd w B (bs.map .bool)) (hl : bs.length ≤ 37) (hBg : ∀ ad, B = some ad → g ≠ ad.block) (h : RdS w g A c bytes p) (hp : p ≤ 30000) (hn : n ≤ 1000) :
    Calls Tryz.prog 40 #[.pointer (some ⟨g, 0, none⟩), .agg #[.int .i64 W, .int .i64 T, .slice B bs.length k], .int .i64 n] w (SomePu g A c bytes n w) := by
  have hmx : bs.length ≤ maxLen := by unfold maxLen; omega
  have hg := heap_lt h.1
  have CC := Lib.hid (fun (z : World) (R : Rd z B (bs.map .bool)) => sCorners_any W T B k bs z R hmx)
  have hc49 : (if validB W T bs = true then ((ncN W T : Nat) : Int) else -1) ≤ 1000 := by
    split
    · rename_i hv
      obtain ⟨⟨w1, w6⟩, ⟨t1, t6⟩, hlen, -⟩ := validB_iff.1 hv
      have hf : FldF W T bs.length := ⟨w1, w6, t1, t6, hlen⟩
      have := nc_bd hf
      omega
    · omega
  generalize (if validB W T bs = true then ((ncN W T : Nat) : Int) else -1) = nc at CC hc49
  have L0 : PuL w g A c bytes W T B bs k p (.slice (some ⟨w.heap.size + 1, 0, none⟩) 0 0) [] ((w.alloc (.cells #[.int .i64 W, .int .i64 T, .slice B bs.length k] 25)).alloc (.cells #[] 31)) := by
    have b1 := bl_alloc (Below.refl w.heap.size w) (.cells #[.int .i64 W, .int .i64 T, .slice B bs.length k] 25)
    have b2 := bl_alloc b1 (.cells #[] 31)
    have hz : (w.alloc (.cells #[.int .i64 W, .int .i64 T, .slice B bs.length k] 25)).heap.size = w.heap.size + 1 := by simp
    have ow := World.ownsRow_lit (w.alloc (.cells #[.int .i64 W, .int .i64 T, .slice B bs.length k] 25)) (base := w.heap.size + 1) (e := 31) (size := 2) #[] 0 (by rw [hz]; exact Nat.le_refl _) (by unfold maxLen; omega) (by simp)
    rw [hz] at ow
    exact ⟨⟨_, _, rfl, ow⟩, ((bl_alloc (Below.refl _ _) (.cells #[] 31)).block _ (by rw [hz]; omega)).trans (heap_alloc_new w _), (b2.block g hg).trans h.1, gb_below (World.grownBy.refl _ _) b2, hr, h.2, hg, hBg⟩
  clear hr h hBg hl hmx
  go_enter Tryz.func40, Tryz.ntmps40
  go_wp2_with fail
  generalize (w.alloc (.cells #[.int .i64 W, .int .i64 T, .slice B bs.length k] 25)).alloc (.cells #[] 31) = w2 at *
  refine (pick_any _ _ g A c bytes p L0.rds (by omega) (by omega)).mono ?_
  rintro e w3 ⟨r, rfl, hr, S3, G3⟩
  have L3 := L0.pick S3 G3
  obtain ⟨m, rfl, hmn⟩ : ∃ m : Nat, r = (m : Int) ∧ m ≤ n := by
    unfold Below0 at hr
    exact ⟨r.toNat, by omega, by omega⟩
  clear hr L0 S3 G3
  go_wp2_with fail
  go_loopw [7, 8] (fun s i wr => ∃ (j q : Nat) (v : Value) (ps : List Pu), v = s ∧ i = .int .i64 (j : Int) ∧ Hid (ps.length + j ≤ n ∧ q ≤ 3 * ps.length + p + 1) ∧ PuL w g A c bytes W T B bs k q v ps wr) (fun _ i _ => (intOf i).toNat)
  case atStart => exact ⟨m, p + 1, _, [], rfl, rfl, Lib.hid (by simp; omega), L3⟩
  case round =>
    clear L3 hmn
    obtain ⟨j, q, v, ps, rfl, rfl, HJ, L3⟩ := hrel
    obtain ⟨w3, hw3⟩ : ∃ w3 : World, w3 = wr := ⟨_, rfl⟩
    subst hw3
    have hpl : ps.length ≤ 1000000000000 := by have := HJ.out; omega
    have hqb : q ≤ 40000 := by have := HJ.out; omega
    obtain ⟨P3, c3, rfl, -⟩ := id L3.own
    have hjb : j ≤ 1000 := by have := HJ.out; omega
    by_cases h0 : 0 < j
    · have h0I : (0 : Int) < (j : Int) := by omega
      obtain ⟨x0, x1, x2, -, -, -⟩ := blk3 L3.box
      go_wp2_with fail
      refine (CC.out _ L3.rd).mono ?_
      rintro e w4 ⟨rfl, b4⟩
      have L4 := L3.below b4
      clear x0 x1 x2 L3 b4
      go_wp2_with fail
      refine (pick_any _ _ g A c bytes q L4.rds (by omega) (by omega)).mono ?_
      rintro e w5 ⟨r5, rfl, -, S5, G5⟩
      have L5 := L4.pick S5 G5
      clear L4 S5 G5
      go_wp2_with fail
      refine (pick_any 200 _ g A c bytes (q + 1) L5.rds (by omega) (by omega)).mono ?_
      rintro e w6 ⟨r6, rfl, -, S6, G6⟩
      have L6 := L5.pick S6 G6
      clear L5 S6 G6
      go_wp2_with fail
      refine (pick_any 2 _ g A c bytes (q + 1 + 1) L6.rds (by omega) (by omega)).mono ?_
      rintro e w7 ⟨r7, rfl, -, S7, G7⟩
      have L7 := L6.pick S7 G7
      clear L6 S7 G7
      go_wp2_with (at_builtin; refine app_push _ rfl _ _ rfl (w.heap.size + 1) _ ps rfl L7.own _ _ rfl hpl (by have := heap_lt L7.box; omega) ?_; intro A8 c8 w8 O8 b8)
      go_roundw
      case rel =>
        have hb7 : w.heap.size + 1 ≤ w7.heap.size := by have := heap_lt L7.box; omega
        exact ⟨j - 1, q + 1 + 1 + 1, _, _, rfl, by go_num, Lib.hid (by rw [List.length_append, List.length_singleton]; have := HJ.out; omega), L7.app O8 ((Below.alloc (Below.refl (w.heap.size + 1) w7) hb7 _).trans b8)⟩
      case measure => simp [intOf]; omega
    · obtain rfl : j = 0 := by omega
      have hpn : ps.length ≤ n := by have := HJ.out; omega
      go_wp2_with fail
      go_ret
      obtain ⟨P9, c9, e9, ho⟩ := id L3.own
      injection e9 with e9 e9' e9''
      subst e9; subst e9''
      exact ⟨P3, c3, q, ps, rfl, L3.own.base (Nat.le_succ _), hpn, own_cap ho, L3.rds, L3.gb⟩
end Go.Proofs.YtkdgejmjecldeaaGreat

/- Contracts: the draws of a region and a list of pushes. Written by wip/gen_drawp.py. -/
namespace Go.Proofs.YtkdgejmjecldeaaGreat
open Go.RowKit

/-- a region and pushes -/
def DrawnPu (w : World) (e : Ending) (w' : World) : Prop :=
  ∃ (W T : Int) (bs : List Bool) (B : Option Addr) (k : Nat) (P : Option Addr) (m : Nat) (ps : List Pu), e = .returned (.tuple #[.agg #[.int .i64 W, .int .i64 T, .slice B bs.length k], .slice P ps.length m]) ∧ Rd w' B (bs.map .bool) ∧ bs.length ≤ 37 ∧ RdP w' P ps ∧ ps.length ≤ 60 ∧ ps.length ≤ m ∧ Below w.heap.size w w'
set_option maxRecDepth 100000 in
set_option maxHeartbeats 4000000 in
theorem drawDrawCoupled_any (A : Option Addr) (c : Nat) (bs : List Int) (w : World) (hr : Rd w A (bs.map (.int .u8))) (hw : ∀ x ∈ bs, 0 ≤ x ∧ x ≤ 255) (hn : bs.length ≤ 1048576) (hcap : bs.length ≤ c) :
    Calls Tryz.prog 7 #[.slice A bs.length c] w (DrawnPu w) := by
  have HW := Lib.hid hw
  clear hw
  have hr1 := hr.alloc (.cells #[.int .i64 0, .int .i64 0, .slice none 0 0] 25)
  have P0 : (w.alloc (.cells #[.int .i64 0, .int .i64 0, .slice none 0 0] 25)).heap[w.heap.size]? = some (.cells #[.int .i64 0, .int .i64 0, .slice none 0 0] 25 (0, 0)) := heap_alloc_new w _
  have Z0 := bl_alloc (Below.refl w.heap.size w) (.cells #[.int .i64 0, .int .i64 0, .slice none 0 0] 25)
  have hs0 : (w.alloc (.cells #[.int .i64 0, .int .i64 0, .slice none 0 0] 25)).heap.size = w.heap.size + 1 := by simp
  go_enter Tryz.func7, Tryz.ntmps7
  go_wp2_with fail
  generalize w.alloc (.cells #[.int .i64 0, .int .i64 0, .slice none 0 0] 25) = wa at *
  refine (open_any A c bs _ hr1 HW.out hn hcap).mono ?_
  rintro e w1 ⟨g, A1, c1, by1, rfl, O1⟩
  clear hr1 HW hn hcap hr
  go_wp2_with fail
  refine (plain_any 12 _ g A1 c1 by1 0 O1.1 (by omega) (by omega) (by omega)).mono ?_
  rintro e w2 ⟨W, T, xs, B, k, p2, rfl, R2, hl2, S2, hp2, G2, f2⟩
  have hg1 := O1.lt
  have hwa : w.heap.size < w1.heap.size := by have := O1.lt; have := O1.2.1; omega
  have hgw : w.heap.size < g := by have := O1.2.1; omega
  have O2 := (O1.pick S2 G2).belo (bl_alloc (Below.refl _ _) (.cells #[.int .i64 W, .int .i64 T, .slice B xs.length k] 25))
  have R2' := R2.alloc (.cells #[.int .i64 W, .int .i64 T, .slice B xs.length k] 25)
  have X2 : (w2.alloc (.cells #[.int .i64 W, .int .i64 T, .slice B xs.length k] 25)).heap[w2.heap.size]? = some (.cells #[.int .i64 W, .int .i64 T, .slice B xs.length k] 25 (0, 0)) := heap_alloc_new w2 _
  have hbw : w.heap.size < w2.heap.size := by have := G2.size; omega
  have hgb : g < w2.heap.size := by have := G2.size; omega
  have hfB : ∀ ad, B = some ad → w.heap.size < ad.block := fun ad ha => by have := f2 ad ha; omega
  have hBg : ∀ ad, B = some ad → g ≠ ad.block := fun ad ha => by have := f2 ad ha; omega
  clear S2 G2 O1 R2 f2
  go_upto_region 3 with fail
  generalize w2.alloc (.cells #[.int .i64 W, .int .i64 T, .slice B xs.length k] 25) = wd at *
  generalize w2.heap.size = bx at *
  have CP := Lib.hid (fun (z : World) (R : Rd z B (xs.map .bool)) (S : RdS z g A1 c1 by1 p2) => show Calls Tryz.prog 40 #[.pointer (some ⟨g, 0, none⟩), .agg #[.int .i64 W, .int .i64 T, .slice B xs.length k], .int .i64 40] z (SomePu g A1 c1 by1 40 z) from pushes_any W T B xs k 40 z g A1 c1 by1 p2 R hl2 hBg S (by omega) (by omega))
  have hB := O2.2.2
  have P2 := (hB.block w.heap.size (by omega)).trans P0
  have Zw := Z0.trans (hB.mono (show w.heap.size ≤ wa.heap.size by omega))
  obtain ⟨s0, s1, s2, g0, g1, g2⟩ := blk3 P2
  obtain ⟨x0, x1, x2, y0, y1, y2⟩ := blk3 X2
  have K := Lib.hid (fun (v : World) (i : Nat) (u : Value) (R : Rd v B (xs.map .bool)) => show Rd (v.setCell ⟨w.heap.size, i, none⟩ u) B (xs.map .bool) from R.grownBelow (set_grownP v ⟨w.heap.size, i, none⟩ u) (fun _ ad ha e => by have := hfB ad ha; have e' : ad.block = w.heap.size := (by simpa using e); omega))
  have hwd : w.heap.size < wd.heap.size := heap_lt P2
  have hgd : g < wd.heap.size := heap_lt O2.1.1
  have hbd : bx < wd.heap.size := heap_lt X2
  have CQ := Lib.hid (CP.out wd.drew R2' O2.1)
  have gb0 : wd.grownBy wd.drew (some g) := gb_drew (World.grownBy.refl _ _)
  go_region_law (
    go_simp
    go_at_call 40
    refine CQ.out.mono ?_
    rintro e w4 ⟨P, kp, p4, ps, rfl, own4, hpl, hpk, S4, G4⟩
    have G5 := grownBy_trans' gb0 G4
    have P4 := (G5.block w.heap.size hwd (by simp; omega)).trans P2
    have X4 := (G5.block bx hbd (by simp; omega)).trans X2
    have R4 := R2'.grownBelow G5 (fun _ ad ha e => hBg ad ha (by have e' : ad.block = g := (by simpa using e); exact e'.symm))
    have O4 := O2.pick S4 G5
    have own5 := own4.base (show w.heap.size + 1 ≤ wd.drew.heap.size from hwd)
    obtain ⟨s0, s1, s2, g0, g1, g2⟩ := blk3 P4
    obtain ⟨x0, x1, x2, y0, y1, y2⟩ := blk3 X4)
  all_goals (
    have hB4 := O4.2.2
    have R8 := K.out _ 2 (.slice B xs.length k) (K.out _ 1 (.int .i64 T) (K.out _ 0 (.int .i64 W) R4))
    have own8 := ((own5.grown (set_grownP w4 ⟨w.heap.size, 0, none⟩ (.int .i64 W)) (Nat.lt_succ_self _)).grown (set_grownP _ ⟨w.heap.size, 1, none⟩ (.int .i64 T)) (Nat.lt_succ_self _)).grown (set_grownP _ ⟨w.heap.size, 2, none⟩ (.slice B xs.length k)) (Nat.lt_succ_self _)
    have B8 := (((Z0.trans (hB4.mono (show w.heap.size ≤ wa.heap.size by omega))).setCell (p := ⟨w.heap.size, 0, none⟩) (Nat.le_refl _) (.int .i64 W)).setCell (p := ⟨w.heap.size, 1, none⟩) (Nat.le_refl _) (.int .i64 T)).setCell (p := ⟨w.heap.size, 2, none⟩) (Nat.le_refl _) (.slice B xs.length k)
    go_wp2
    refine bodyPost_ret (v := .tuple #[.agg #[.int .i64 W, .int .i64 T, .slice B xs.length k], .slice P ps.length kp]) (by simp [results, Tryz.results7, go_sem, s0, s1, s2]) rfl ?_
    exact ⟨W, T, xs, B, k, P, kp, ps, rfl, R8, hl2, own8.rd, by omega, hpk, B8⟩)
set_option maxRecDepth 100000 in
set_option maxHeartbeats 4000000 in
theorem drawDrawCoupledAt_any (A : Option Addr) (c : Nat) (bs : List Int) (w : World) (hr : Rd w A (bs.map (.int .u8))) (hw : ∀ x ∈ bs, 0 ≤ x ∧ x ≤ 255) (hn : bs.length ≤ 1048576) (hcap : bs.length ≤ c) :
    Calls Tryz.prog 13 #[.slice A bs.length c] w (DrawnPu w) := by
  have HW := Lib.hid hw
  clear hw
  have hr1 := hr.alloc (.cells #[.int .i64 0, .int .i64 0, .slice none 0 0] 25)
  have P0 : (w.alloc (.cells #[.int .i64 0, .int .i64 0, .slice none 0 0] 25)).heap[w.heap.size]? = some (.cells #[.int .i64 0, .int .i64 0, .slice none 0 0] 25 (0, 0)) := heap_alloc_new w _
  have Z0 := bl_alloc (Below.refl w.heap.size w) (.cells #[.int .i64 0, .int .i64 0, .slice none 0 0] 25)
  have hs0 : (w.alloc (.cells #[.int .i64 0, .int .i64 0, .slice none 0 0] 25)).heap.size = w.heap.size + 1 := by simp
  go_enter Tryz.func13, Tryz.ntmps13
  go_wp2_with fail
  generalize w.alloc (.cells #[.int .i64 0, .int .i64 0, .slice none 0 0] 25) = wa at *
  refine (open_any A c bs _ hr1 HW.out hn hcap).mono ?_
  rintro e w1 ⟨g, A1, c1, by1, rfl, O1⟩
  clear hr1 HW hn hcap hr
  go_wp2_with fail
  refine (plain_any 12 _ g A1 c1 by1 0 O1.1 (by omega) (by omega) (by omega)).mono ?_
  rintro e w2 ⟨W, T, xs, B, k, p2, rfl, R2, hl2, S2, hp2, G2, f2⟩
  have hg1 := O1.lt
  have hwa : w.heap.size < w1.heap.size := by have := O1.lt; have := O1.2.1; omega
  have hgw : w.heap.size < g := by have := O1.2.1; omega
  have O2 := (O1.pick S2 G2).belo (bl_alloc (Below.refl _ _) (.cells #[.int .i64 W, .int .i64 T, .slice B xs.length k] 25))
  have R2' := R2.alloc (.cells #[.int .i64 W, .int .i64 T, .slice B xs.length k] 25)
  have X2 : (w2.alloc (.cells #[.int .i64 W, .int .i64 T, .slice B xs.length k] 25)).heap[w2.heap.size]? = some (.cells #[.int .i64 W, .int .i64 T, .slice B xs.length k] 25 (0, 0)) := heap_alloc_new w2 _
  have hbw : w.heap.size < w2.heap.size := by have := G2.size; omega
  have hgb : g < w2.heap.size := by have := G2.size; omega
  have hfB : ∀ ad, B = some ad → w.heap.size < ad.block := fun ad ha => by have := f2 ad ha; omega
  have hBg : ∀ ad, B = some ad → g ≠ ad.block := fun ad ha => by have := f2 ad ha; omega
  clear S2 G2 O1 R2 f2
  go_upto_region 3 with fail
  generalize w2.alloc (.cells #[.int .i64 W, .int .i64 T, .slice B xs.length k] 25) = wd at *
  generalize w2.heap.size = bx at *
  have CP := Lib.hid (fun (z : World) (R : Rd z B (xs.map .bool)) (S : RdS z g A1 c1 by1 p2) => show Calls Tryz.prog 40 #[.pointer (some ⟨g, 0, none⟩), .agg #[.int .i64 W, .int .i64 T, .slice B xs.length k], .int .i64 60] z (SomePu g A1 c1 by1 60 z) from pushes_any W T B xs k 60 z g A1 c1 by1 p2 R hl2 hBg S (by omega) (by omega))
  have hB := O2.2.2
  have P2 := (hB.block w.heap.size (by omega)).trans P0
  have Zw := Z0.trans (hB.mono (show w.heap.size ≤ wa.heap.size by omega))
  obtain ⟨s0, s1, s2, g0, g1, g2⟩ := blk3 P2
  obtain ⟨x0, x1, x2, y0, y1, y2⟩ := blk3 X2
  have K := Lib.hid (fun (v : World) (i : Nat) (u : Value) (R : Rd v B (xs.map .bool)) => show Rd (v.setCell ⟨w.heap.size, i, none⟩ u) B (xs.map .bool) from R.grownBelow (set_grownP v ⟨w.heap.size, i, none⟩ u) (fun _ ad ha e => by have := hfB ad ha; have e' : ad.block = w.heap.size := (by simpa using e); omega))
  have hwd : w.heap.size < wd.heap.size := heap_lt P2
  have hgd : g < wd.heap.size := heap_lt O2.1.1
  have hbd : bx < wd.heap.size := heap_lt X2
  have CQ := Lib.hid (CP.out wd.drew R2' O2.1)
  have gb0 : wd.grownBy wd.drew (some g) := gb_drew (World.grownBy.refl _ _)
  go_region_law (
    go_simp
    go_at_call 40
    refine CQ.out.mono ?_
    rintro e w4 ⟨P, kp, p4, ps, rfl, own4, hpl, hpk, S4, G4⟩
    have G5 := grownBy_trans' gb0 G4
    have P4 := (G5.block w.heap.size hwd (by simp; omega)).trans P2
    have X4 := (G5.block bx hbd (by simp; omega)).trans X2
    have R4 := R2'.grownBelow G5 (fun _ ad ha e => hBg ad ha (by have e' : ad.block = g := (by simpa using e); exact e'.symm))
    have O4 := O2.pick S4 G5
    have own5 := own4.base (show w.heap.size + 1 ≤ wd.drew.heap.size from hwd)
    obtain ⟨s0, s1, s2, g0, g1, g2⟩ := blk3 P4
    obtain ⟨x0, x1, x2, y0, y1, y2⟩ := blk3 X4)
  all_goals (
    have hB4 := O4.2.2
    have R8 := K.out _ 2 (.slice B xs.length k) (K.out _ 1 (.int .i64 T) (K.out _ 0 (.int .i64 W) R4))
    have own8 := ((own5.grown (set_grownP w4 ⟨w.heap.size, 0, none⟩ (.int .i64 W)) (Nat.lt_succ_self _)).grown (set_grownP _ ⟨w.heap.size, 1, none⟩ (.int .i64 T)) (Nat.lt_succ_self _)).grown (set_grownP _ ⟨w.heap.size, 2, none⟩ (.slice B xs.length k)) (Nat.lt_succ_self _)
    have B8 := (((Z0.trans (hB4.mono (show w.heap.size ≤ wa.heap.size by omega))).setCell (p := ⟨w.heap.size, 0, none⟩) (Nat.le_refl _) (.int .i64 W)).setCell (p := ⟨w.heap.size, 1, none⟩) (Nat.le_refl _) (.int .i64 T)).setCell (p := ⟨w.heap.size, 2, none⟩) (Nat.le_refl _) (.slice B xs.length k)
    go_wp2
    refine bodyPost_ret (v := .tuple #[.agg #[.int .i64 W, .int .i64 T, .slice B xs.length k], .slice P ps.length kp]) (by simp [results, Tryz.results13, go_sem, s0, s1, s2]) rfl ?_
    exact ⟨W, T, xs, B, k, P, kp, ps, rfl, R8, hl2, own8.rd, by omega, hpk, B8⟩)
end Go.Proofs.YtkdgejmjecldeaaGreat

/- Contract: after how many of the pushes the lowest and the highest tiling meet, in the program. -/
namespace Go.Proofs.YtkdgejmjecldeaaGreat
open Go.RowKit

theorem at_no1 {W T : Int} {bs : List Bool} {ps : List Pu} (h : psvB W T bs ps = false) : atV W T bs ps = -1 := by
  unfold atV; rw [h]; rfl
theorem at_no2 {W T : Int} {bs : List Bool} {ps : List Pu} (h : tlsV W T bs = []) : atV W T bs ps = -1 := by
  unfold atV
  rw [if_neg]
  rw [Bool.and_eq_true, decide_eq_true_eq]
  exact fun c => c.2 h
theorem at_yes {W T : Int} {bs : List Bool} {ps : List Pu} {k : Nat} (hv : psvB W T bs ps = true) (hne : tlsV W T bs ≠ []) (hk : k ≤ ps.length) (hj : ∀ j, j < k → meetB W T bs (ps.take j) = false) (hm : meetB W T bs (ps.take k) = true) : atV W T bs ps = k := by
  unfold atV
  rw [if_pos (by rw [hv, decide_eq_true hne]; rfl), findN_some (q := fun n => meetB W T bs (ps.take n)) hk hj hm]
theorem at_none {W T : Int} {bs : List Bool} {ps : List Pu} (hj : ∀ j, j ≤ ps.length → meetB W T bs (ps.take j) = false) : atV W T bs ps = -1 := by
  unfold atV
  split
  · rw [findN_none (q := fun n => meetB W T bs (ps.take n)) hj]
  · rfl
set_option maxRecDepth 100000 in
set_option maxHeartbeats 4000000 in
theorem iCoupledAt_any (W T : Int) (A P : Option Addr) (c cp n m : Nat) (bs : List Bool) (ps : List Pu) (w : World) (hr : Rd w A (bs.map .bool)) (hp : RdP w P ps) (hn : bs.length = n) (hnm : n ≤ maxLen) (hm : ps.length = m) (hmm : m ≤ maxLen) :
    Calls Tryz.prog 14 #[.agg #[.int .i64 W, .int .i64 T, .slice A n c], .slice P m cp] w fun e w' => e = .returned (.int .i64 (atV W T bs ps)) ∧ Below w.heap.size w w' := by
  have X0 := C3.new w (.int .i64 W) (.int .i64 T) (.slice A n c) 25
  have B0 := bl_alloc (Below.refl w.heap.size w) (.cells #[.int .i64 W, .int .i64 T, .slice A n c] 25)
  have r0 := hr.belo B0
  have p0 := hp.belo B0
  have CV := Lib.hid (iPushesValid_any W T A P c cp n m bs ps _ r0 p0 hn hnm hm hmm)
  have CL := Lib.hid (fun (z : World) (R : Rd z A (bs.map .bool)) => iLowest_any W T A c n bs z R hn hnm)
  have CH := Lib.hid (fun (z : World) (R : Rd z A (bs.map .bool)) => iHighest_any W T A c n bs z R hn hnm)
  obtain ⟨x0, x1, x2⟩ := id X0
  cases hv : psvB W T bs ps with
  | false =>
    have HF := Lib.hid (at_no1 hv)
    rw [hv] at CV
    clear hv hr hp CL CH hn hm hnm hmm
    go_enter Tryz.func14, Tryz.ntmps14
    go_wp2_with fail
    generalize w.alloc (.cells #[.int .i64 W, .int .i64 T, .slice A n c] 25) = u at *
    refine CV.out.mono ?_
    rintro e w2 ⟨rfl, b2⟩
    clear x0 x1 x2
    go_wp2_with fail
    go_ret
    exact ⟨ret_i HF.out.symm, bl_go B0 b2⟩
  | true =>
    rw [hv] at CV
    obtain ⟨hs, h128, hpv⟩ := psv_iff.1 hv
    have HV := Lib.hid hv
    have n36 : n ≤ 36 := by
      obtain ⟨⟨w1, w6⟩, ⟨t1, t6⟩, hlen, -⟩ := validB_iff.1 (simp_iff.1 hs).1
      have := (mul_bd w1 w6 t1 t6).2
      omega
    have m128 : m ≤ 128 := by omega
    have HM := Lib.hid hm
    have HS := Lib.hid hs
    have HLO := Lib.hid (fun (hne : tlsV W T bs ≠ []) => low_hgt hs hne)
    have HRT := Lib.hid (fun (L : List Int) (hL : tilingB W T bs L = true) (qs : List Pu) => show tilingB W T bs (runL W T L (psN qs)) = true ∧ (runL W T L (psN qs)).length = n from ⟨run_til hs (psN qs) L hL, by rw [(tiling_til (run_til hs (psN qs) L hL)).2.1]; exact hn⟩)
    have HTK := Lib.hid (fun (L : List Int) (k : Nat) (hk : k < ps.length) => run_take W T L ps hk)
    have CP := Lib.hid (fun (M : List Int) (v : Nat) (up : Bool) (g B : Nat) (z : World) (R : Rd z A (bs.map .bool)) (D : Wr z B 3 (some ⟨g, 0, none⟩) (M.map (.int .i64))) (ht : tilingB W T bs M = true) (hv : v < ncN W T) (h1 : B ≤ z.heap.size) (h2 : B ≤ g) (h3 : g < z.heap.size) => push_any W T A c n bs M v up g B z R D hs ht hn hv h1 h2 h3)
    have HPV := Lib.hid (fun (k : Nat) (hk : k < ps.length) => show ∃ v : Nat, ps[k].1 = v ∧ v < ncN W T from by
      obtain ⟨a, b⟩ := hpv _ (List.getElem_mem hk)
      exact ⟨ps[k].1.toNat, by omega, by omega⟩)
    have HMB := Lib.hid (fun qs => show decide (runL W T (lowT W T bs) (psN qs) = runL W T (highT W T bs) (psN qs)) = meetB W T bs qs from rfl)
    clear hv hr hp hs hpv h128 hn hm hnm hmm
    go_enter Tryz.func14, Tryz.ntmps14
    go_wp2_with fail
    generalize w.alloc (.cells #[.int .i64 W, .int .i64 T, .slice A n c] 25) = u at *
    refine CV.out.mono ?_
    rintro e w1 ⟨rfl, b1⟩
    have X1 := X0.belo b1
    have R1 := r0.belo b1
    have P1 := p0.belo b1
    have B1 := bl_go B0 b1
    clear x0 x1 x2 X0 r0 p0 B0 b1 CV
    obtain ⟨x0, x1, x2⟩ := id X1
    go_wp2_with fail
    refine (CL.out _ R1).mono ?_
    rintro e w2 (⟨⟨-, hne⟩, g2, rfl, W2, hg2, hgs2, b2⟩ | ⟨hno, rfl, b2⟩)
    · have X2 := X1.belo b2
      have R2 := R1.belo b2
      have P2 := P1.belo b2
      have B2 := bl_go B1 b2
      obtain ⟨hl1, hl2, -⟩ := HLO.out hne
      have HNE := Lib.hid hne
      have h1w := B1.size
      clear x0 x1 x2 X1 R1 P1 HLO hne
      obtain ⟨x0, x1, x2⟩ := id X2
      go_wp2_with fail
      refine (CH.out _ R2).mono ?_
      rintro e w3 (⟨-, g3, rfl, W3, hg3, hgs3, b3⟩ | ⟨hno, -⟩)
      · have X3 := X2.belo b3
        have R3 := R2.belo b3
        have P3 := P2.belo b3
        have B3 := bl_go B2 b3
        have h2w := B2.size
        have h3w := B3.size
        have D5 := (W2.belo b3).lower h1w
        have D7 := W3.lower h2w
        have hg2w : w.heap.size ≤ g2 := by omega
        have hg3w : w.heap.size ≤ g3 := by omega
        have hg2s : g2 < w3.heap.size := by have := b3.size; omega
        have HL1 := Lib.hid hl1
        have HL2 := Lib.hid hl2
        clear x0 x1 x2 X2 R2 P2 W2 W3 CL CH hg2 hg3 hl1 hl2 b2 b3 B2 hgs2 h1w h2w
        go_wp2_with fail
        go_loopw [5, 7, 9] (fun s5 s7 i wr => ∃ (k g5 g7 : Nat), k ≤ m ∧ s5 = .slice (some ⟨g5, 0, none⟩) n n ∧ s7 = .slice (some ⟨g7, 0, none⟩) n n ∧ i = .int .i64 k ∧ Wr wr w.heap.size 3 (some ⟨g5, 0, none⟩) ((runL W T (lowT W T bs) (psN (ps.take k))).map (.int .i64)) ∧ Wr wr w.heap.size 3 (some ⟨g7, 0, none⟩) ((runL W T (highT W T bs) (psN (ps.take k))).map (.int .i64)) ∧ (w.heap.size ≤ g5 ∧ g5 < wr.heap.size ∧ w.heap.size ≤ g7 ∧ g7 < wr.heap.size) ∧ Hid (∀ j, j < k → meetB W T bs (ps.take j) = false) ∧ Below w3.heap.size w3 wr) (fun _ _ i _ => m - (intOf i).toNat)
        case atStart => exact ⟨0, g2, g3, Nat.zero_le _, rfl, rfl, rfl, D5, D7, ⟨hg2w, hg2s, hg3w, hgs3⟩, Lib.hid (fun j hj => by omega), Below.refl _ _⟩
        case round =>
          clear D5 D7 hg2w hg2s hg3w hgs3
          obtain ⟨k, g5, g7, hk, rfl, rfl, rfl, D5, D7, ⟨h5, h5s, h7, h7s⟩, HJ, BR⟩ := hrel
          have XR := X3.belo BR
          have RR := R3.belo BR
          have PR := P3.belo BR
          have hwr := BR.size
          obtain ⟨ht1, hln1⟩ := HRT.out _ HL1.out (ps.take k)
          obtain ⟨ht2, hln2⟩ := HRT.out _ HL2.out (ps.take k)
          have HT1 := Lib.hid ht1
          have HT2 := Lib.hid ht2
          have CE := Lib.hid (equalI_any (some ⟨g5, 0, none⟩) (some ⟨g7, 0, none⟩) n n n _ _ wr D5.rd D7.rd (by omega) hln1 hln2)
          rw [HMB.out] at CE
          clear hln1 hln2 ht1 ht2
          go_wp2_with fail
          refine CE.out.mono ?_
          rintro e w4 ⟨rfl, q, rfl⟩
          have b4 := below_drewN' (Below.refl wr.heap.size wr) q
          have X4 := XR.belo b4
          have R4 := RR.belo b4
          have P4 := PR.belo b4
          have E5 := D5.belo b4
          have E7 := D7.belo b4
          have B4 := bl_go BR b4
          have h5t : g5 < (wr.drewN q).heap.size := h5s
          have h7t : g7 < (wr.drewN q).heap.size := h7s
          have hwt : w3.heap.size ≤ (wr.drewN q).heap.size := hwr
          clear XR RR PR D5 D7 BR b4 h5s h7s hwr CE
          generalize wr.drewN q = wt at *
          cases hmb : meetB W T bs (ps.take k) with
          | true =>
            have HF := Lib.hid (at_yes HV.out HNE.out (by rw [HM.out]; exact hk) HJ.out hmb)
            clear hmb
            go_wp2_with fail
            go_ret
            exact ⟨ret_i HF.out.symm, bl_go B3 B4⟩
          | false =>
            have HJ2 := Lib.hid (show ∀ j, j < k + 1 → meetB W T bs (ps.take j) = false from fun j hj => by
              rcases Nat.lt_or_ge j k with h | h
              · exact HJ.out j h
              · obtain rfl : j = k := by omega
                exact hmb)
            clear hmb HJ
            by_cases hlt : k < m
            · have hkb : ((k : Int) == (m : Int)) = false := by rw [beq_eq_false_iff_ne]; omega
              have hkp : k < ps.length := by rw [HM.out]; exact hlt
              have hkI : (k : Int) < (m : Int) := by omega
              obtain ⟨b, off, rfl, c0, c1⟩ := P4.at_ hkp
              obtain ⟨v, ev, hvN⟩ := HPV.out k hkp
              have HTa := Lib.hid (HTK.out (lowT W T bs) k hkp)
              have HTb := Lib.hid (HTK.out (highT W T bs) k hkp)
              rw [ev, Int.toNat_natCast] at HTa HTb
              rw [ev] at c0
              generalize ps[k].2 = up at *
              have hbl := World.block_lt_of_cell? _ _ c0
              simp only at hbl
              have Z0 : Below wt.heap.size wt wt.drew := (Below.refl _ _).drew
              have C1 := Lib.hid (fun (z : World) (Z : Below wt.heap.size wt z) => CP.out _ v up g5 w.heap.size z (R4.belo Z) (E5.belo Z) HT1.out hvN (by have := Z.size; omega) h5 (by have := Z.size; omega))
              have C2 := Lib.hid (fun (z : World) (Z : Below wt.heap.size wt z) => CP.out _ v up g7 w.heap.size z (R4.belo Z) (E7.belo Z) HT2.out hvN (by have := Z.size; omega) h7 (by have := Z.size; omega))
              rw [← HTa.out] at C1
              rw [← HTb.out] at C2
              have KS := Lib.hid (fun (z : World) (Z : Below wt.heap.size wt z) => show (z.cell? ⟨w.heap.size, 0, none⟩ = some (.int .i64 W) ∧ z.cell? ⟨w.heap.size, 1, none⟩ = some (.int .i64 T) ∧ z.cell? ⟨w.heap.size, 2, none⟩ = some (.slice A n c)) ∧ z.cell? ⟨b, off + k * 2, none⟩ = some (.int .i64 (v : Int)) ∧ z.cell? ⟨b, off + k * 2 + 1, none⟩ = some (.bool up) from ⟨X4.belo Z, ((bcell Z).1 b _ hbl).trans c0, ((bcell Z).1 b _ hbl).trans c1⟩)
              have HS0 := KS.out _ (Below.refl _ _)
              obtain ⟨⟨x0, x1, x2⟩, x3, x4⟩ := KS.out _ (Below.refl _ _)
              clear ev X4 R4 P4 E5 E7 c0 c1 hbl
              go_upto_region 13 with fail
              go_region_held3 (fun w' => (w'.cell? ⟨w.heap.size, 0, none⟩ = some (.int .i64 W) ∧ w'.cell? ⟨w.heap.size, 1, none⟩ = some (.int .i64 T) ∧ w'.cell? ⟨w.heap.size, 2, none⟩ = some (.slice A n c)) ∧ w'.cell? ⟨b, off + k * 2, none⟩ = some (.int .i64 (v : Int)) ∧ w'.cell? ⟨b, off + k * 2 + 1, none⟩ = some (.bool up))
                (first | (with_reducible exact KS.out _ Z6) | (with_reducible exact KS.out _ Z5) | (with_reducible exact KS.out _ Z0) | (with_reducible exact HS0) | go_keep)
                ((go_at_call 61; first
                  | ((with_reducible refine (C1.out _ Z0).mono ?_); rintro e w5 ⟨g5', rfl, W5, hg5, hgs5, b5⟩; have Z5 := Z0.trans (b5.mono Z0.size))
                  | ((with_reducible refine (C2.out _ Z5).mono ?_); rintro e w6 ⟨g7', rfl, W6, hg6, hgs6, b6⟩; have Z6 := Z5.trans (b6.mono Z5.size))))
              have W5' := W5.belo b6
              have h65 := b6.size
              clear x0 x1 x2 x3 x4 HS0 KS C1 C2 W5
              go_wp2_with fail
              go_roundw
              case rel => exact ⟨k + 1, g5', g7', by omega, rfl, rfl, by go_num, W5', W6, ⟨hg5, by omega, hg6, hgs6⟩, HJ2, bl_go B4 Z6⟩
              case measure => simp [intOf]; omega
            · obtain rfl : m = k := by omega
              have HF := Lib.hid (show atV W T bs ps = -1 from at_none (fun j hj => HJ2.out j (by rw [HM.out] at hj; omega)))
              go_wp2_with fail
              go_ret
              exact ⟨ret_i HF.out.symm, bl_go B3 B4⟩
      · exact absurd ⟨HS.out, HNE.out⟩ hno
    · have he : tlsV W T bs = [] := Classical.byContradiction fun h => hno ⟨HS.out, h⟩
      have HE := Lib.hid he
      have X2 := X1.belo b2
      have R2 := R1.belo b2
      have B2 := bl_go B1 b2
      have HF := Lib.hid (show atV W T bs ps = -1 from at_no2 he)
      clear x0 x1 x2 X1 R1 P1 HLO hno he
      obtain ⟨x0, x1, x2⟩ := id X2
      go_wp2_with fail
      refine (CH.out _ R2).mono ?_
      rintro e w3 (⟨⟨-, h⟩, -⟩ | ⟨-, rfl, b3⟩)
      · exact absurd HE.out h
      · clear x0 x1 x2
        go_wp2_with fail
        go_ret
        exact ⟨ret_i HF.out.symm, bl_go B2 b3⟩
end Go.Proofs.YtkdgejmjecldeaaGreat

/- Contract: after how many of the pushes the lowest and the highest tiling meet, in the reference. -/
namespace Go.Proofs.YtkdgejmjecldeaaGreat
open Go.RowKit

set_option maxRecDepth 100000 in
set_option maxHeartbeats 4000000 in
theorem sCoupledAt_any (W T : Int) (A P : Option Addr) (c cp n m : Nat) (bs : List Bool) (ps : List Pu) (w : World) (hr : Rd w A (bs.map .bool)) (hp : RdP w P ps) (hn : bs.length = n) (hnm : n ≤ maxLen) (hm : ps.length = m) (hmm : m ≤ maxLen) :
    Calls Tryz.prog 15 #[.agg #[.int .i64 W, .int .i64 T, .slice A n c], .slice P m cp] w fun e w' => e = .returned (.int .i64 (atV W T bs ps)) ∧ Below w.heap.size w w' := by
  have X0 := C3.new w (.int .i64 W) (.int .i64 T) (.slice A n c) 25
  have B0 := bl_alloc (Below.refl w.heap.size w) (.cells #[.int .i64 W, .int .i64 T, .slice A n c] 25)
  have r0 := hr.belo B0
  have p0 := hp.belo B0
  have CL := Lib.hid (sLowest_any W T A c n bs _ r0 hn hnm)
  have CH := Lib.hid (fun (z : World) (R : Rd z A (bs.map .bool)) => sHighest_any W T A c n bs z R hn hnm)
  have CV := Lib.hid (fun (z : World) (R : Rd z A (bs.map .bool)) (Q : RdP z P ps) => sPushesValid_any W T A P c cp n m bs ps z R Q hn hnm hm hmm)
  obtain ⟨x0, x1, x2⟩ := id X0
  go_enter Tryz.func15, Tryz.ntmps15
  go_wp2_with fail
  generalize w.alloc (.cells #[.int .i64 W, .int .i64 T, .slice A n c] 25) = u at *
  refine CL.out.mono ?_
  rintro e w2 (⟨hyes, D2, d2, rfl, L2, b2⟩ | ⟨hno, D2, d2, rfl, b2⟩)
  · have X2 := X0.belo b2
    have r2 := r0.belo b2
    have p2 := p0.belo b2
    have B2 := bl_go B0 b2
    have HYES := Lib.hid hyes
    clear x0 x1 x2 X0 r0 p0 B0 b2 CL hyes
    obtain ⟨x0, x1, x2⟩ := id X2
    go_wp2_with fail
    refine (CH.out _ r2).mono ?_
    rintro e w3 (⟨-, D3, d3, rfl, L3, b3⟩ | ⟨hno, -⟩)
    · have X3 := X2.belo b3
      have r3 := r2.belo b3
      have p3 := p2.belo b3
      have B3 := bl_go B2 b3
      have L2' := L2.belo b3
      clear x0 x1 x2 X2 r2 p2 B2 b3 CH L2
      obtain ⟨x0, x1, x2⟩ := id X3
      cases hv : psvB W T bs ps with
      | false =>
        have HF := Lib.hid (at_no1 hv)
        rw [hv] at CV
        go_wp2_with fail
        refine (CV.out _ r3 p3).mono ?_
        rintro e w4 ⟨rfl, b4⟩
        clear x0 x1 x2
        go_wp2_with fail
        go_ret
        exact ⟨ret_i HF.out.symm, bl_go B3 b4⟩
      | true =>
        obtain ⟨hl1, hl2, -⟩ := low_hgt HYES.out.1 HYES.out.2
        obtain ⟨-, h128, hpv⟩ := psv_iff.1 hv
        have HV := Lib.hid hv
        have n36 : n ≤ 36 := by
          obtain ⟨⟨w1, w6⟩, ⟨t1, t6⟩, hlen, -⟩ := validB_iff.1 (simp_iff.1 HYES.out.1).1
          have := (mul_bd w1 w6 t1 t6).2
          omega
        have m128 : m ≤ 128 := by omega
        have HM := Lib.hid hm
        have HRT := Lib.hid (fun (L : List Int) (hL : tilingB W T bs L = true) (qs : List Pu) => show tilingB W T bs (runL W T L (psN qs)) = true ∧ (runL W T L (psN qs)).length = n from ⟨run_til HYES.out.1 (psN qs) L hL, by rw [(tiling_til (run_til HYES.out.1 (psN qs) L hL)).2.1]; exact hn⟩)
        have HTK := Lib.hid (fun (L : List Int) (k : Nat) (hk : k < ps.length) => run_take W T L ps hk)
        have CO := Lib.hid (fun (M : List Int) (hM : tilingB W T bs M = true) (v : Nat) (up : Bool) (hv : v < ncN W T) (z : World) (E : Option Addr) (e9 : Nat) (R : Rd z A (bs.map .bool)) (Q : Rd z E (M.map (.int .i64))) => pushOneS_any W T A E c e9 n bs M v up z R Q HYES.out.1 hM hn hv)
        have HPV := Lib.hid (fun (k : Nat) (hk : k < ps.length) => show ∃ v : Nat, ps[k].1 = v ∧ v < ncN W T from by
          obtain ⟨a, b⟩ := hpv _ (List.getElem_mem hk)
          exact ⟨ps[k].1.toNat, by omega, by omega⟩)
        have HMB := Lib.hid (fun qs => show decide (runL W T (lowT W T bs) (psN qs) = runL W T (highT W T bs) (psN qs)) = meetB W T bs qs from rfl)
        have HL1 := Lib.hid hl1
        have HL2 := Lib.hid hl2
        rw [hv] at CV
        clear hv hl1 hl2 h128 hpv hr hp hn hm hnm hmm
        go_wp2_with fail
        refine (CV.out _ r3 p3).mono ?_
        rintro e w4 ⟨rfl, b4⟩
        have X4 := X3.belo b4
        have r4 := r3.belo b4
        have p4 := p3.belo b4
        have L4 := L2'.belo b4
        have H4 := L3.belo b4
        have B4 := bl_go B3 b4
        clear x0 x1 x2 X3 r3 p3 L2' L3 B3 b4 CV
        go_wp2_with fail
        go_loopw [5, 7, 9] (fun s5 s7 i wr => ∃ (k e5 e7 : Nat) (E5 E7 : Option Addr), k ≤ m + 1 ∧ s5 = .slice E5 n e5 ∧ s7 = .slice E7 n e7 ∧ i = .int .i64 k ∧ Rd wr E5 ((runL W T (lowT W T bs) (psN (ps.take k))).map (.int .i64)) ∧ Rd wr E7 ((runL W T (highT W T bs) (psN (ps.take k))).map (.int .i64)) ∧ Hid (∀ j, j < k → meetB W T bs (ps.take j) = false) ∧ Below w4.heap.size w4 wr) (fun _ _ i _ => m + 1 - (intOf i).toNat)
        case atStart => exact ⟨0, d2, d3, D2, D3, Nat.zero_le _, rfl, rfl, rfl, L4, H4, Lib.hid (fun j hj => by omega), Below.refl _ _⟩
        case round =>
          clear L4 H4
          obtain ⟨k, e5, e7, E5, E7, hk, rfl, rfl, rfl, D5, D7, HJ, BR⟩ := hrel
          by_cases hkm : k ≤ m
          · have hkmI : (k : Int) ≤ (m : Int) := by omega
            have XR := X4.belo BR
            have RR := r4.belo BR
            have PR := p4.belo BR
            obtain ⟨ht1, hln1⟩ := HRT.out _ HL1.out (ps.take k)
            obtain ⟨ht2, hln2⟩ := HRT.out _ HL2.out (ps.take k)
            have HT1 := Lib.hid ht1
            have HT2 := Lib.hid ht2
            have CE := Lib.hid (same6_any E5 E7 e5 e7 n _ _ wr D5 D7 (by omega) hln1 hln2)
            rw [HMB.out] at CE
            clear hln1 hln2 ht1 ht2
            go_wp2_with fail
            refine CE.out.mono ?_
            rintro e wt ⟨rfl, b5⟩
            have X5 := XR.belo b5
            have R5 := RR.belo b5
            have P5 := PR.belo b5
            have F5 := D5.belo b5
            have F7 := D7.belo b5
            have B5 := bl_go BR b5
            clear XR RR PR D5 D7 BR b5 CE
            cases hmb : meetB W T bs (ps.take k) with
            | true =>
              have HF := Lib.hid (at_yes HV.out HYES.out.2 (by rw [HM.out]; exact hkm) HJ.out hmb)
              clear hmb
              go_wp2_with fail
              go_ret
              exact ⟨ret_i HF.out.symm, bl_go B4 B5⟩
            | false =>
              have HJ2 := Lib.hid (show ∀ j, j < k + 1 → meetB W T bs (ps.take j) = false from fun j hj => by
                rcases Nat.lt_or_ge j k with h | h
                · exact HJ.out j h
                · obtain rfl : j = k := by omega
                  exact hmb)
              clear hmb HJ
              by_cases hlt : k < m
              · have hkp : k < ps.length := by rw [HM.out]; exact hlt
                have hkI : (k : Int) < (m : Int) := by omega
                obtain ⟨b, off, rfl, c0, c1⟩ := P5.at_ hkp
                obtain ⟨v, ev, hvN⟩ := HPV.out k hkp
                have HTa := Lib.hid (HTK.out (lowT W T bs) k hkp)
                have HTb := Lib.hid (HTK.out (highT W T bs) k hkp)
                rw [ev, Int.toNat_natCast] at HTa HTb
                rw [ev] at c0
                generalize ps[k].2 = up at *
                have hbl := World.block_lt_of_cell? _ _ c0
                simp only at hbl
                have Z0 : Below wt.heap.size wt wt.drew := (Below.refl _ _).drew
                have C1 := Lib.hid (CO.out _ HT1.out v up hvN wt.drew E5 e5 (R5.belo Z0) (F5.belo Z0))
                rw [← HTa.out] at C1
                have KS := Lib.hid (fun (z : World) (Z : Below wt.heap.size wt z) => show (z.cell? ⟨w.heap.size, 0, none⟩ = some (.int .i64 W) ∧ z.cell? ⟨w.heap.size, 1, none⟩ = some (.int .i64 T) ∧ z.cell? ⟨w.heap.size, 2, none⟩ = some (.slice A n c)) ∧ z.cell? ⟨b, off + k * 2, none⟩ = some (.int .i64 (v : Int)) ∧ z.cell? ⟨b, off + k * 2 + 1, none⟩ = some (.bool up) from ⟨X5.belo Z, ((bcell Z).1 b _ hbl).trans c0, ((bcell Z).1 b _ hbl).trans c1⟩)
                have HS0 := KS.out _ (Below.refl _ _)
                obtain ⟨⟨x0, x1, x2⟩, x3, x4⟩ := KS.out _ (Below.refl _ _)
                clear ev X5 c0 c1 hbl F5
                go_upto_region 11 with fail
                go_region_held3 (fun w' => (w'.cell? ⟨w.heap.size, 0, none⟩ = some (.int .i64 W) ∧ w'.cell? ⟨w.heap.size, 1, none⟩ = some (.int .i64 T) ∧ w'.cell? ⟨w.heap.size, 2, none⟩ = some (.slice A n c)) ∧ w'.cell? ⟨b, off + k * 2, none⟩ = some (.int .i64 (v : Int)) ∧ w'.cell? ⟨b, off + k * 2 + 1, none⟩ = some (.bool up))
                  (first | (with_reducible exact KS.out _ Z5) | (with_reducible exact KS.out _ Z0) | (with_reducible exact HS0) | go_keep)
                  ((go_at_call 32; (with_reducible refine C1.out.mono ?_); rintro e w5 ⟨E5', e5', rfl, G5, b5⟩; have Z5 := Z0.trans (b5.mono Z0.size)))
                have KT := Lib.hid (fun (z : World) (Z : Below w5.heap.size w5 z) => KS.out z (Z5.trans (Z.mono Z5.size)))
                have F7' := F7.belo Z5
                have R6 := R5.belo Z5
                have BS := bl_go B5 Z5
                have Y0 : Below w5.heap.size w5 w5.drew := (Below.refl _ _).drew
                have C2 := Lib.hid (CO.out _ HT2.out v up hvN w5.drew E7 e7 (R6.belo Y0) (F7'.belo Y0))
                rw [← HTb.out] at C2
                clear x0 x1 x2 x3 x4 HS0 KS C1 R5 F7 B5
                have HS0 := KT.out _ (Below.refl _ _)
                obtain ⟨⟨x0, x1, x2⟩, x3, x4⟩ := KT.out _ (Below.refl _ _)
                go_upto_region 12 with fail
                go_region_held3 (fun w' => (w'.cell? ⟨w.heap.size, 0, none⟩ = some (.int .i64 W) ∧ w'.cell? ⟨w.heap.size, 1, none⟩ = some (.int .i64 T) ∧ w'.cell? ⟨w.heap.size, 2, none⟩ = some (.slice A n c)) ∧ w'.cell? ⟨b, off + k * 2, none⟩ = some (.int .i64 (v : Int)) ∧ w'.cell? ⟨b, off + k * 2 + 1, none⟩ = some (.bool up))
                  (first | (with_reducible exact KT.out _ Y6) | (with_reducible exact KT.out _ Y0) | (with_reducible exact HS0) | go_keep)
                  ((go_at_call 32; (with_reducible refine C2.out.mono ?_); rintro e w6 ⟨E7', e7', rfl, G7, b6⟩; have Y6 := Y0.trans (b6.mono Y0.size)))
                have G5' := G5.belo Y6
                clear x0 x1 x2 x3 x4 HS0 KT C2 G5
                go_wp2_with fail
                go_roundw
                case rel => exact ⟨k + 1, e5', e7', E5', E7', by omega, rfl, rfl, by go_num, G5', G7, HJ2, bl_go BS Y6⟩
                case measure => simp [intOf]; omega
              · obtain rfl : m = k := by omega
                have he : ps.take (m + 1) = ps.take m := by rw [List.take_of_length_le (by rw [HM.out]; omega), List.take_of_length_le (by rw [HM.out]; omega)]
                rw [← he] at F5 F7
                clear he
                go_wp2_with fail
                go_roundw
                case rel => exact ⟨m + 1, e5, e7, E5, E7, by omega, rfl, rfl, by go_num, F5, F7, HJ2, B5⟩
                case measure => simp [intOf]
          · obtain rfl : k = m + 1 := by omega
            have HF := Lib.hid (show atV W T bs ps = -1 from at_none (fun j hj => HJ.out j (by rw [HM.out] at hj; omega)))
            have hkmI : ¬ ((m : Int) + 1 ≤ (m : Int)) := by omega
            go_wp2_with fail
            go_ret
            exact ⟨ret_i HF.out.symm, bl_go B4 BR⟩
    · exact absurd HYES.out hno
  · have HNO := Lib.hid hno
    have HF := Lib.hid (show atV W T bs ps = -1 from by
      cases hv : psvB W T bs ps with
      | false => exact at_no1 hv
      | true => exact at_no2 (Classical.byContradiction fun h => HNO.out ⟨(psv_iff.1 hv).1, h⟩))
    have X2 := X0.belo b2
    have r2 := r0.belo b2
    have B2 := bl_go B0 b2
    clear x0 x1 x2 X0 r0 p0 B0 b2 CL hno
    obtain ⟨x0, x1, x2⟩ := id X2
    go_wp2_with fail
    refine (CH.out _ r2).mono ?_
    rintro e w3 (⟨hy, -⟩ | ⟨-, D3, d3, rfl, b3⟩)
    · exact absurd hy HNO.out
    · clear x0 x1 x2
      go_wp2_with fail
      go_ret
      exact ⟨ret_i HF.out.symm, bl_go B2 b3⟩
end Go.Proofs.YtkdgejmjecldeaaGreat

/- The walk of the law FnCoupledAt. -/
namespace Go.Proofs.YtkdgejmjecldeaaGreat
open Go.RowKit

theorem RdP.take {w : World} {A : Option Addr} {ps : List Pu} (h : RdP w A ps) (k : Nat) : RdP w A (ps.take k) := fun hne => by
  have hsp : pushV ps = pushV (ps.take k) ++ pushV (ps.drop k) := by rw [← pushV_append, List.take_append_drop]
  obtain ⟨ad, e, hc⟩ := h (by rw [hsp]; intro e; exact hne (List.append_eq_nil_iff.1 e).1)
  refine ⟨ad, e, fun j u hu => hc j u ?_⟩
  rw [hsp]
  have hj : j < (pushV (ps.take k)).length := by
    rcases Nat.lt_or_ge j (pushV (ps.take k)).length with h1 | h1
    · exact h1
    · rw [List.getElem?_eq_none h1] at hu; cases hu
  rw [List.getElem?_append_left hj]; exact hu
set_option maxRecDepth 100000 in
set_option maxHeartbeats 600000 in
theorem fnCoupledAt_walk {w0 : World} (A : Option Addr) (c : Nat) (bs : List Int) (hcap : bs.length ≤ c) (hm : bs.length ≤ maxLen) (hr : Rd w0 A (bs.map (.int .u8))) (hw : ∀ n ∈ bs, 0 ≤ n ∧ n ≤ 255) :
    Calls Tryz.prog 4 #[.slice A bs.length c] w0 fun e w' => e = .returned (.bool true) ∧ Below w0.heap.size w0 w' := by
  have HW := Lib.hid hw
  clear hw
  unfold maxLen at hm
  by_cases hn : bs.length ≤ 1048576
  · have hg : decide ((1048576 : Int) < (bs.length : Int)) = false := by simp; omega
    go_enter Tryz.func4, Tryz.ntmps4
    go_wp2_with fail
    refine (drawDrawCoupledAt_any A c bs _ hr HW.out hn hcap).mono ?_
    rintro e w1 ⟨W, T, xs, B, k, P, cp, ps, rfl, R1, hl1, Q1, hp60, hpc, B1⟩
    clear hg hn hm hr HW hcap
    obtain ⟨nn, hnn⟩ : ∃ nn, nn = xs.length := ⟨_, rfl⟩
    have hmx : xs.length ≤ maxLen := by unfold maxLen; omega
    have hpx : ps.length ≤ maxLen := by unfold maxLen; omega
    have CI := Lib.hid (fun (z : World) (R : Rd z B (xs.map .bool)) (Q : RdP z P ps) => iCoupledAt_any W T B P k cp xs.length ps.length xs ps z R Q rfl hmx rfl hpx)
    have CS := Lib.hid (fun (z : World) (R : Rd z B (xs.map .bool)) (Q : RdP z P ps) => sCoupledAt_any W T B P k cp xs.length ps.length xs ps z R Q rfl hmx rfl hpx)
    have CC := Lib.hid (fun (z : World) (R : Rd z B (xs.map .bool)) (Q : RdP z P ps) => iCoupled_any W T B P k cp xs.length ps.length xs ps z R Q rfl hmx rfl hpx)
    have CT := Lib.hid (fun (j : Nat) (hj : j ≤ ps.length) (z : World) (R : Rd z B (xs.map .bool)) (Q : RdP z P ps) => iCoupled_any W T B P k cp xs.length j xs (ps.take j) z R (Q.take j) rfl hmx (by rw [List.length_take]; omega) (Nat.le_trans hj hpx))
    have HA := Lib.hid (at_has (W := W) (T := T) (bs := xs) (ps := ps))
    have R2 := R1.alloc (.cells #[.int .i64 W, .int .i64 T, .slice B xs.length k] 25)
    have Q2 := Q1.belo (bl_alloc (Below.refl _ _) (.cells #[.int .i64 W, .int .i64 T, .slice B xs.length k] 25))
    have B2 := bl_alloc B1 (.cells #[.int .i64 W, .int .i64 T, .slice B xs.length k] 25)
    have X2 := C3.new w1 (.int .i64 W) (.int .i64 T) (.slice B xs.length k) 25
    clear R1 B1 Q1 hnn
    go_wp2_with fail
    generalize w1.alloc (.cells #[.int .i64 W, .int .i64 T, .slice B xs.length k] 25) = w2 at *
    generalize w1.heap.size = bx at *
    refine (CI.out _ R2 Q2).mono ?_
    rintro e w3 ⟨rfl, b3⟩
    have R3 := R2.belo b3
    have Q3 := Q2.belo b3
    have B3 := bl_go B2 b3
    have X3 := X2.belo b3
    clear R2 B2 X2 Q2 b3
    obtain ⟨x0, x1, x2⟩ := id X3
    have hne : (atV W T xs ps != atV W T xs ps) = false := by simp
    go_wp2_with fail
    refine (CS.out _ R3 Q3).mono ?_
    rintro e w4 ⟨rfl, b4⟩
    have R4 := R3.belo b4
    have Q4 := Q3.belo b4
    have B4 := bl_go B3 b4
    have X4 := X3.belo b4
    clear R3 B3 X3 Q3 b4 x0 x1 x2 CI CS
    obtain ⟨x0, x1, x2⟩ := id X4
    rcases HA.out with ⟨h1, h2⟩ | ⟨j, hj, h1, h2, h3, h4⟩
    · rw [h2] at CC
      rw [h1] at hne ⊢
      clear h1 h2 HA CT
      go_wp2_with (first
        | (go_at_call 8; refine (CC.out _ R4 Q4).mono ?_; rintro e w5 ⟨rfl, b5⟩; have B5 := bl_go B4 b5)
        | (go_at_call 12; refine (alive_any _).mono ?_; rintro e w7 ⟨rfl, b7⟩))
      go_ret
      exact ⟨rfl, bl_go B5 b7⟩
    · rw [h4] at CC
      rw [h1] at hne ⊢
      have hjI : (j : Int) ≤ (ps.length : Int) := by omega
      have hjc : j ≤ cp := by omega
      have CJ := Lib.hid (CT.out j hj)
      rw [h2] at CJ
      have hxl := X4.lt
      have L0 : ∀ z : BW w4, z.wo.cell? ⟨bx, 0, none⟩ = some (.int .i64 W) := fun z => (X4.belo z.ok).1
      have L1 : ∀ z : BW w4, z.wo.cell? ⟨bx, 1, none⟩ = some (.int .i64 T) := fun z => (X4.belo z.ok).2.1
      have L2 : ∀ z : BW w4, z.wo.cell? ⟨bx, 2, none⟩ = some (.slice B xs.length k) := fun z => (X4.belo z.ok).2.2
      have hj0 : decide ((j : Int) < 0) = false := decide_eq_false (by omega)
      rcases Nat.eq_zero_or_pos j with h0 | h0
      · subst h0
        clear h1 h2 h3 h4 HA CT x0 x1 x2
        go_wp2_with fail
        (refine region_bw (by kernel_rfl) (by kernel_rfl) ?_; (repeat (first | go_big_quiet_skip | (go_big_quiet_want; go_big_quiet_op; first | go_big_quiet_on | (refine ⟨.bool true, fun zz => ?_, ?_⟩; (go_at_call 8; (first | (with_reducible exact zz.on (CC.out _ (R4.belo zz.ok) (Q4.belo zz.ok))) | (with_reducible exact zz.on (CJ.out _ (R4.belo zz.ok) (Q4.belo zz.ok))))); go_big_quiet_on)))); refine wpQuiet_nil ?_; intro wz hw'; obtain ⟨zw, hw''⟩ := hw'; subst hw'')
        have BF := bl_go B4 zw.ok
        go_wp2_with fail
        go_ret
        exact ⟨rfl, BF⟩
      · obtain ⟨i, rfl⟩ : ∃ i, j = i + 1 := ⟨j - 1, by omega⟩
        have CK := Lib.hid (CT.out i (by omega))
        rw [show i + 1 - 1 = i by omega] at h3
        rw [h3 h0] at CK
        have hz : ((i : Int) + 1 == 0) = false := by rw [beq_eq_false_iff_ne]; omega
        have hi1 : (i : Int) + 1 - 1 = (i : Int) := by omega
        have hjI : (i : Int) + 1 ≤ (ps.length : Int) := by omega
        have hic : i ≤ cp := by omega
        have hi36 : i ≤ 60 := by omega
        clear h1 h2 h3 h4 HA CT x0 x1 x2
        go_wp2_with fail
        (refine region_bw (by kernel_rfl) (by kernel_rfl) ?_; (repeat (first | go_big_quiet_skip | (go_big_quiet_want; go_big_quiet_op; first | go_big_quiet_on | (refine ⟨.bool true, fun zz => ?_, ?_⟩; (go_at_call 8; (first | (with_reducible exact zz.on (CC.out _ (R4.belo zz.ok) (Q4.belo zz.ok))) | (with_reducible exact zz.on (CJ.out _ (R4.belo zz.ok) (Q4.belo zz.ok))))); go_big_quiet_on) | (refine ⟨.bool false, fun zz => ?_, ?_⟩; (go_at_call 8; (with_reducible exact zz.on (CK.out _ (R4.belo zz.ok) (Q4.belo zz.ok)))); go_big_quiet_on)))); refine wpQuiet_nil ?_; intro wz hw'; obtain ⟨zw, hw''⟩ := hw'; subst hw'')
        have BF := bl_go B4 zw.ok
        go_wp2_with fail
        go_ret
        exact ⟨rfl, BF⟩
  · have hg : decide ((1048576 : Int) < (bs.length : Int)) = true := by simp; omega
    go_enter Tryz.func4, Tryz.ntmps4
    go_wp2
    go_ret
    exact ⟨rfl, Below.refl _ _⟩
end Go.Proofs.YtkdgejmjecldeaaGreat

/- Contract: the number of the tilings that are left when all have been pushed, in the program. -/
namespace Go.Proofs.YtkdgejmjecldeaaGreat
open Go.RowKit

theorem ded_app : ∀ (ts m : List (List Int)) (t : List Int), dedL m (ts ++ [t]) = if t ∈ dedL m ts then dedL m ts else dedL m ts ++ [t]
  | [], m, t => by rw [List.nil_append]; unfold dedL; unfold dedL; rfl
  | u :: ts, m, t => by
    rw [List.cons_append]
    unfold dedL
    exact ded_app ts _ t
noncomputable def dedT (W T : Int) (bs : List Bool) (ps : List Pu) (k : Nat) : List (List Int) := dedL [] (((tlsV W T bs).take k).map fun t => runL W T t (psN ps))
theorem dedT_step {W T : Int} {bs : List Bool} {ps : List Pu} {k : Nat} (hk : k < (tlsV W T bs).length) : dedT W T bs ps (k + 1) = if runL W T (tlsV W T bs)[k] (psN ps) ∈ dedT W T bs ps k then dedT W T bs ps k else dedT W T bs ps k ++ [runL W T (tlsV W T bs)[k] (psN ps)] := by
  unfold dedT
  rw [take_one_more _ k hk, List.map_append]
  exact ded_app _ _ _
set_option maxHeartbeats 1000000 in
theorem mc_any (A D : Option Addr) (c d n b : Nat) (L M : List Int) (w : World) (hr : Rd w A (L.map (.int .i64))) (hx : w.cell? ⟨b, 0, none⟩ = some (.slice D n d)) (hM : Rd w D (M.map (.int .i64))) (hn : n ≤ 1000000) (h1 : L.length = n) (h2 : M.length = n) :
    Calls Tryz.prog 50 #[.slice A n c, .pointer (some ⟨b, 0, none⟩)] w fun e w' => e = .returned (.bool (decide (L = M))) ∧ Below w.heap.size w w' := by
  have CE := Lib.hid (equalI_any A D c d n L M w hr hM hn h1 h2)
  go_enter Tryz.func50, Tryz.ntmps50
  go_wp2_with fail
  refine CE.out.mono ?_
  rintro e w1 ⟨rfl, q, rfl⟩
  have BB := below_drewN' (Below.refl w.heap.size w) q
  go_wp2_with fail
  go_ret
  exact ⟨rfl, BB⟩
set_option maxHeartbeats 1000000 in
theorem indexM_any (A D : Option Addr) (c d n b m : Nat) (fs : List (List Int)) (M : List Int) (w : World) (hr : RdLL w A fs) (hx : w.cell? ⟨b, 0, none⟩ = some (.slice D n d)) (hM : Rd w D (M.map (.int .i64))) (hn : n ≤ 1000000) (hf : ∀ k (hk : k < fs.length), fs[k].length = n) (h2 : M.length = n) (hm : fs.length = m) (hm2 : m ≤ 1000000000000) :
    Calls Tryz.prog 101 #[.slice A m c, .func (.func 50) #[] #[.pointer (some ⟨b, 0, none⟩)]] w fun e w' => ∃ r : Int, e = .returned (.int .i64 r) ∧ decide (0 ≤ r) = decide (M ∈ fs) ∧ Below w.heap.size w w' := by
  have HM := Lib.hid hm
  have hbw : b < w.heap.size := World.block_lt_of_cell? _ _ hx
  clear hm
  go_enter Tryz.func101, Tryz.ntmps101
  go_wp2_with fail
  go_loopw [8] (fun i wr => ∃ k : Nat, k ≤ m ∧ i = .int .i64 k ∧ Hid (∀ j (h : j < fs.length), j < k → fs[j] ≠ M) ∧ Below w.heap.size w wr) (fun i _ => m - (intOf i).toNat)
  case atStart => exact ⟨0, Nat.zero_le _, rfl, fun j h h2 => by omega, Below.refl _ _⟩
  case round =>
    obtain ⟨k, hk, rfl, HK, Z1⟩ := hrel
    by_cases hlt : k < m
    · have hkp : k < fs.length := by rw [HM.out]; exact hlt
      obtain ⟨q, off, B, cB, rfl, c0, -, -, R0⟩ := (hr.belo Z1).at_ hkp
      have hl0 := hf k hkp
      rw [hl0] at c0
      have CC := Lib.hid (mc_any B D cB d n b fs[k] M wr R0 (((bcell Z1).1 b 0 hbw).trans hx) (hM.belo Z1) hn hl0 h2)
      have hkI : (k : Int) < (m : Int) := by omega
      by_cases he : fs[k] = M
      · have HF := Lib.hid (show decide (0 ≤ (k : Int)) = decide (M ∈ fs) by rw [decide_eq_true (by omega), decide_eq_true (he ▸ List.getElem_mem hkp)])
        rw [decide_eq_true he] at CC
        clear he R0 hl0
        go_wp2_with (go_at_call 50; refine CC.out.mono ?_; rintro e w1 ⟨rfl, b1⟩)
        go_ret
        exact ⟨_, rfl, HF.out, bl_go Z1 b1⟩
      · have HE := Lib.hid he
        rw [decide_eq_false he] at CC
        clear he R0 hl0
        go_wp2_with (go_at_call 50; refine CC.out.mono ?_; rintro e w1 ⟨rfl, b1⟩)
        go_roundw
        case rel =>
          refine ⟨k + 1, by omega, by go_num, fun j h h2 => ?_, bl_go Z1 b1⟩
          rcases Nat.lt_or_ge j k with h3 | h3
          · exact HK.out j h h3
          · obtain rfl : j = k := by omega
            exact HE.out
        case measure => simp [intOf]; omega
    · have HF := Lib.hid (show decide (0 ≤ (-1 : Int)) = decide (M ∈ fs) by
        rw [decide_eq_false (by omega), decide_eq_false]
        intro hmem
        obtain ⟨j, hj, e⟩ := List.getElem_of_mem hmem
        exact HK.out j hj (by have := HM.out; omega) e)
      go_wp2_with fail
      go_ret
      exact ⟨_, rfl, HF.out, Z1⟩
set_option maxHeartbeats 1000000 in
theorem containsM_any (A D : Option Addr) (c d n b m : Nat) (fs : List (List Int)) (M : List Int) (w : World) (hr : RdLL w A fs) (hx : w.cell? ⟨b, 0, none⟩ = some (.slice D n d)) (hM : Rd w D (M.map (.int .i64))) (hn : n ≤ 1000000) (hf : ∀ k (hk : k < fs.length), fs[k].length = n) (h2 : M.length = n) (hm : fs.length = m) (hm2 : m ≤ 1000000000000) :
    Calls Tryz.prog 49 #[.slice A m c, .func (.func 50) #[] #[.pointer (some ⟨b, 0, none⟩)]] w fun e w' => e = .returned (.bool (decide (M ∈ fs))) ∧ Below w.heap.size w w' := by
  go_enter Tryz.func49, Tryz.ntmps49
  go_wp2_with fail
  refine (indexM_any A D c d n b m fs M w hr hx hM hn hf h2 hm hm2).mono ?_
  rintro e w1 ⟨r, rfl, hr1, b1⟩
  have HR := Lib.hid hr1
  clear hr1
  go_wp2_with fail
  go_ret
  exact ⟨ret_b HR.out, b1⟩
set_option maxRecDepth 100000 in
set_option maxHeartbeats 4000000 in
theorem iPushedMany_any (W T : Int) (A P : Option Addr) (c cp n m : Nat) (bs : List Bool) (ps : List Pu) (w : World) (hr : Rd w A (bs.map .bool)) (hp : RdP w P ps) (hn : bs.length = n) (hnm : n ≤ maxLen) (hm : ps.length = m) (hmm : m ≤ maxLen) :
    Calls Tryz.prog 10 #[.agg #[.int .i64 W, .int .i64 T, .slice A n c], .slice P m cp] w fun e w' => e = .returned (.int .i64 (manyV W T bs ps)) ∧ Below w.heap.size w w' := by
  have X0 := C3.new w (.int .i64 W) (.int .i64 T) (.slice A n c) 25
  have B0 := bl_alloc (Below.refl w.heap.size w) (.cells #[.int .i64 W, .int .i64 T, .slice A n c] 25)
  have r0 := hr.belo B0
  have p0 := hp.belo B0
  have CV := Lib.hid (iPushesValid_any W T A P c cp n m bs ps _ r0 p0 hn hnm hm hmm)
  obtain ⟨x0, x1, x2⟩ := id X0
  cases hv : psvB W T bs ps with
  | false =>
    have HF := Lib.hid (show manyV W T bs ps = -1 by unfold manyV; rw [hv]; rfl)
    rw [hv] at CV
    clear hv hr hp hn hm hnm hmm
    go_enter Tryz.func10, Tryz.ntmps10
    go_wp2_with fail
    generalize w.alloc (.cells #[.int .i64 W, .int .i64 T, .slice A n c] 25) = u at *
    refine CV.out.mono ?_
    rintro e w2 ⟨rfl, b2⟩
    clear x0 x1 x2
    go_wp2_with fail
    go_ret
    exact ⟨ret_i HF.out.symm, bl_go B0 b2⟩
  | true =>
    rw [hv] at CV
    obtain ⟨hs, h128, hpv⟩ := psv_iff.1 hv
    obtain ⟨⟨w1, w6⟩, ⟨t1, t6⟩, hlen, -⟩ := validB_iff.1 (simp_iff.1 hs).1
    have hf : FldF W T n := ⟨w1, w6, t1, t6, by rw [← hn]; exact hlen⟩
    have n36 : n ≤ 36 := hf.bd
    have n1 : 0 < n := by have := (mul_bd w1 w6 t1 t6).1; omega
    have HMV := Lib.hid (show ((dedT W T bs ps (tlsV W T bs).length).length : Int) = manyV W T bs ps by unfold manyV dedT; rw [if_pos hv, List.take_length])
    have CT := Lib.hid (fun (z : World) (R : Rd z A (bs.map .bool)) => tilings_any W T A c n bs z R hf hn)
    have HTL := Lib.hid (fun (k : Nat) (hk : k < (tlsV W T bs).length) => show tilingB W T bs (tlsV W T bs)[k] = true ∧ (tlsV W T bs)[k].length = n from by
      have h1 := (tlsV_mem (simp_iff.1 hs).1).1 (List.getElem_mem hk)
      exact ⟨h1, by have := (tiling_til h1).2.1; omega⟩)
    have HRL := Lib.hid (fun (L : List Int) (hL : tilingB W T bs L = true) => show (runL W T L (psN ps)).length = n from by rw [(tiling_til (run_til hs (psN ps) L hL)).2.1]; exact hn)
    have CRU := Lib.hid (fun (L : List Int) (hL : tilingB W T bs L = true) (ad : Addr) (d : Nat) (z : World) (R : Rd z A (bs.map .bool)) (D : Rd z (some ad) (L.map (.int .i64))) (Q : RdP z P ps) => run_any W T A P ad c d n m cp bs L ps z R D Q hs hL hn hpv hm (by omega))
    have HST := Lib.hid (fun (k : Nat) (hk : k < (tlsV W T bs).length) => dedT_step (ps := ps) hk)
    have HBIG := Lib.hid (show (tlsV W T bs).length ≤ 100000000000 from by
      have h1 := tlsF_len W T bs bs.length (List.replicate bs.length 0)
      have h2 : 2 ^ bs.length ≤ 2 ^ 36 := Nat.pow_le_pow_right (by omega) (by omega)
      unfold tlsV
      omega)
    clear hv hr hp hs hpv h128 hn hm hnm hmm hlen w1 w6 t1 t6
    go_enter Tryz.func10, Tryz.ntmps10
    go_wp2_with fail
    generalize w.alloc (.cells #[.int .i64 W, .int .i64 T, .slice A n c] 25) = u at *
    refine CV.out.mono ?_
    rintro e w1 ⟨rfl, b1⟩
    have X1 := X0.belo b1
    have R1 := r0.belo b1
    have P1 := p0.belo b1
    have B1 := bl_go B0 b1
    clear x0 x1 x2 X0 r0 p0 B0 b1 CV
    obtain ⟨x0, x1, x2⟩ := id X1
    go_wp2_with fail
    refine (CT.out _ R1).mono ?_
    rintro e w3 ⟨AT, cT, rfl, -, RT, b3⟩
    have X3 := X1.belo b3
    have R3 := R1.belo b3
    have P3 := P1.belo b3
    have B3 := bl_go B1 b3
    clear x0 x1 x2 X1 R1 P1 B1 b3 CT
    have hfl : ∀ (k : Nat), (dedT W T bs ps k).length ≤ k := fun k => by
      unfold dedT
      refine Nat.le_trans (ded_len _ _) ?_
      rw [List.length_nil, List.length_map, List.length_take]; omega
    have HFL := Lib.hid hfl
    have HFN := Lib.hid (show ∀ (k : Nat), k ≤ (tlsV W T bs).length → ∀ j (hj : j < (dedT W T bs ps k).length), (dedT W T bs ps k)[j].length = n from fun k hk j hj => by
      have hm := List.getElem_mem hj
      generalize (dedT W T bs ps k)[j] = x at hm ⊢
      unfold dedT at hm
      rw [ded_mem] at hm
      rcases hm with hm | hm
      · cases hm
      · obtain ⟨t, ht, rfl⟩ := List.mem_map.1 hm
        obtain ⟨i, hi, e⟩ := List.getElem_of_mem (List.mem_of_mem_take ht)
        have := HTL.out i hi
        rw [e] at this
        exact HRL.out _ this.1)
    obtain ⟨N, hN⟩ : ∃ N, (tlsV W T bs).length = N := ⟨_, rfl⟩
    have HNN := Lib.hid hN
    rw [hN] at HMV HBIG
    have hNb := HBIG.out
    clear hfl
    simp only [hN]
    clear hN
    have G0 := GrL.nil w3 w3.heap.size
    go_wp2_with fail
    go_loopw [5, 16] (fun s5 i wr => ∃ (k : Nat) (v : Value) (xs : List Value), k ≤ N ∧ v = s5 ∧ i = .int .i64 k ∧ GrL wr w3.heap.size v xs (dedT W T bs ps k) ∧ Below w3.heap.size w3 wr) (fun _ i _ => N - (intOf i).toNat)
    case atStart => exact ⟨0, _, [], Nat.zero_le _, rfl, rfl, G0, Below.refl _ _⟩
    case round =>
      clear G0
      obtain ⟨k, v, xs, hk, rfl, rfl, GR, BR⟩ := hrel
      obtain ⟨wk, hwk⟩ : ∃ wk : World, wk = wr := ⟨_, rfl⟩
      subst hwk
      by_cases hlt : k < N
      · have hkp : k < (tlsV W T bs).length := by rw [HNN.out]; exact hlt
        have hkI : (k : Int) < (N : Int) := by omega
        obtain ⟨q, off, B, cB, rfl, c0, -, -, RB⟩ := (RT.belo BR).at_ hkp
        obtain ⟨hte, hle⟩ := HTL.out k hkp
        rw [hle] at c0
        obtain ⟨adB, rfl, -⟩ := RB.atM (k := 0) (by rw [hle]; exact n1)
        have XR := X3.belo BR
        have CR := Lib.hid (CRU.out _ hte adB cB wk (R3.belo BR) RB (P3.belo BR))
        have HRl := HRL.out _ hte
        have HSk := Lib.hid (HST.out k hkp)
        generalize runL W T (tlsV W T bs)[k] (psN ps) = r at *
        obtain ⟨A5, c5, rfl, -, RL5, -⟩ := GR.form
        have hxl : xs.length + 1 ≤ 1000000000000 := by have := GR.hd.1; have := HFL.out k; omega
        have hfm : (dedT W T bs ps k).length ≤ 1000000000000 := by have := HFL.out k; omega
        obtain ⟨x0, x1, x2⟩ := id XR
        have hkw := BR.size
        clear hle hte RB
        go_wp2_with fail
        refine CR.out.mono ?_
        rintro e w5 ⟨g, rfl, W5, hg, hgs, b5⟩
        have bb := bl_alloc (Below.refl w5.heap.size w5) (.cells #[.slice (some ⟨g, 0, none⟩) n n] 39)
        have D6 := (W5.rd).belo bb
        have G6 := (GR.belo b5).belo bb
        have hx6 : (w5.alloc (.cells #[.slice (some ⟨g, 0, none⟩) n n] 39)).cell? ⟨w5.heap.size, 0, none⟩ = some (.slice (some ⟨g, 0, none⟩) n n) := cell_of_row _ _ 0 _ _ _ (heap_alloc_new w5 _)
        have hvg : ∀ b, (Value.slice A5 (dedT W T bs ps k).length c5).ownBlock = some b → b < g := fun b hb => by have := (GR.own.lt b hb).2; omega
        have hg6 : g < (w5.alloc (.cells #[.slice (some ⟨g, 0, none⟩) n n] 39)).heap.size := by have := bb.size; omega
        have B6 : Below w3.heap.size w3 (w5.alloc (.cells #[.slice (some ⟨g, 0, none⟩) n n] 39)) := BR.trans ((bl_go b5 bb).mono hkw)
        have CM := Lib.hid (containsM_any A5 (some ⟨g, 0, none⟩) c5 n n w5.heap.size (dedT W T bs ps k).length (dedT W T bs ps k) r _ (RL5.belo (bl_go b5 bb)) hx6 D6 (by omega) (HFN.out k (Nat.le_of_lt hkp)) HRl rfl hfm)
        clear x0 x1 x2 XR CR c0 GR BR RL5 W5 b5 bb hg hgs
        go_wp2_with fail
        generalize w5.alloc (.cells #[.slice (some ⟨g, 0, none⟩) n n] 39) = w6 at *
        generalize w5.heap.size = bx at *
        refine CM.out.mono ?_
        rintro e w7 ⟨rfl, b7⟩
        have hbx6 : bx < w6.heap.size := World.block_lt_of_cell? _ _ hx6
        have hx7 := ((bcell b7).1 bx 0 hbx6).trans hx6
        have G7 := G6.belo b7
        have D7 := D6.belo b7
        have B7 := B6.trans (b7.mono B6.size)
        have hg7 : g < w7.heap.size := by have := b7.size; omega
        clear hx6 G6 D6 B6 b7 CM hg6 hbx6
        by_cases hin : r ∈ dedT W T bs ps k
        · have hin1 : decide (r ∈ dedT W T bs ps k) = true := decide_eq_true hin
          rw [if_pos hin] at HSk
          rw [hin1]
          have G9 : GrL w7 w3.heap.size (.slice A5 (dedT W T bs ps k).length c5) xs (dedT W T bs ps (k + 1)) := by rw [HSk.out]; exact G7
          clear hin hin1 G7
          go_wp2_with fail
          go_roundw
          case rel => exact ⟨k + 1, _, xs, by omega, rfl, by go_num, G9, B7⟩
          case measure => simp [intOf]; omega
        · have hin1 : decide (r ∈ dedT W T bs ps k) = false := decide_eq_false hin
          rw [if_neg hin] at HSk
          rw [hin1]
          clear hin hin1
          have bc := bl_alloc (Below.refl w7.heap.size w7) (.cells #[.slice (some ⟨g, 0, none⟩) n n] 39)
          have G8 := G7.belo bc
          have hH : HeadI (w7.alloc (.cells #[.slice (some ⟨g, 0, none⟩) n n] 39)) (.slice (some ⟨g, 0, none⟩) n n) r := ⟨some ⟨g, 0, none⟩, n, by rw [HRl], by omega, by omega, D7.belo bc⟩
          have hpt : ∀ b, AtL [Value.slice (some ⟨g, 0, none⟩) n n] b → b < (w7.alloc (.cells #[.slice (some ⟨g, 0, none⟩) n n] 39)).heap.size ∧ (Value.slice A5 (dedT W T bs ps k).length c5).ownBlock ≠ some b := fun b hb => by
            obtain ⟨ad', e9, rfl⟩ := hb.one
            injection e9 with e9
            subst e9
            exact ⟨by have := bc.size; dsimp only; omega, fun e => by have := hvg _ e; dsimp only at this; omega⟩
          have B8 := B7.trans (bc.mono B7.size)
          have HAP := Lib.hid (fun (v' : Value) (w' : World) (o3 : OwnL w' w3.heap.size v' (xs ++ [.slice (some ⟨g, 0, none⟩) n n])) (g3 : (w7.alloc (.cells #[.slice (some ⟨g, 0, none⟩) n n] 39)).grownBy w' (Value.slice A5 (dedT W T bs ps k).length c5).ownBlock) (e3 : v'.ownBlock = (Value.slice A5 (dedT W T bs ps k).length c5).ownBlock ∨ v'.ownBlock = some (w7.alloc (.cells #[.slice (some ⟨g, 0, none⟩) n n] 39)).heap.size) =>
            (show GrL w' w3.heap.size v' (xs ++ [.slice (some ⟨g, 0, none⟩) n n]) (dedT W T bs ps (k + 1)) ∧ Below w3.heap.size w3 w' from
              ⟨by rw [HSk.out]; exact G8.app (HeadsI.one hH) hpt o3 g3 e3, B8.grown g3 B8.size (fun k hk => (G8.own.lt k hk).1)⟩))
          have hown := G8.own
          have hbig := B8.size
          clear hH hpt G7 D7 HSk
          go_wp2_with (at_builtin; refine wpList_headsL _ rfl _ _ rfl w3.heap.size _ xs rfl hown ⟨w7.heap.size, 0, none⟩ 1 1 [.slice (some ⟨g, 0, none⟩) n n] rfl rfl (one_atE _ _ _) (one_oneE _ _ _) hxl hbig ?_; intro v9 w9 o9 g9 e9; have HQ := HAP.out _ w9 o9 g9 e9)
          go_roundw
          case rel => exact ⟨k + 1, _, _, by omega, rfl, by go_num, HQ.1, HQ.2⟩
          case measure => simp [intOf]; omega
      · obtain rfl : k = N := by omega
        obtain ⟨A5, c5, rfl, -⟩ := GR.form
        have HF := Lib.hid HMV.out
        go_wp2_with fail
        go_ret
        exact ⟨ret_i HF.out, bl_go B3 BR⟩
end Go.Proofs.YtkdgejmjecldeaaGreat

/- The walk of the law FnCoupled. -/
namespace Go.Proofs.YtkdgejmjecldeaaGreat
open Go.RowKit

section
variable {ops : Array Oper} {rest : List Oper} {o : Oper} {a : Act} {Q : Exit → Act → World → Prop}
theorem pushV_one (ps : List Pu) : ∀ u ∈ pushV ps, u.oneCell' = true := fun u hu => by
  unfold pushV at hu
  rw [List.mem_flatMap] at hu
  obtain ⟨q, -, hu⟩ := hu
  simp at hu
  rcases hu with rfl | rfl <;> rfl
/-- a whole list of pushes is appended -/
theorem app_pushes (W : World) (hgd : o.guard = none) (s x : Operand) (ho : o.op = .call { callee := .builtin .append, args := #[s, x], argTypes := #[26, 26] })
    (base : Nat) (v : Value) (ps : List Pu) (hs : a.eval s = v) (hown : OwnPu W base v ps) (ad : Addr) (qs : List Pu) (c : Nat) (hx : a.eval x = .slice (some ad) qs.length c) (hq : ∀ j u, (pushV qs)[j]? = some u → W.cell? (ad.add j) = some u) (hn : ps.length + qs.length ≤ 1000000000000) (hbase : base ≤ W.heap.size)
    (h : ∀ (v' : Value) (w' : World), OwnPu w' base v' (ps ++ qs) → Below base W w' → wpList Tryz.prog ops Q rest (a.put o.dst v') w') :
    wpList Tryz.prog ops Q (o :: rest) a W := by
  refine wpList_plain hgd fun _ hK => ?_
  obtain ⟨i0, hi, hz0, hz1, hz2⟩ := info_parts Tryz.infoPu
  obtain ⟨A, c', e, hown⟩ := hown
  obtain ⟨v', w', hr, h2, h3, _, h5⟩ := run_append_own_at (P := Tryz.prog) W base 26 o.type 31 i0 _ 2 16 Tryz.underlying26 hi hz0 hz1 hz2 rfl (by decide) v ps.length (pushV ps) hown ad qs.length c (pushV qs) (pushV_len qs) hq (pushV_one qs) (by unfold maxLen; omega) (by omega) hbase
  unfold Oper.wp execOp
  simp only [ho, resolve, invoke, builtin, Sem.run_bind, Sem.run_pure, Result.andThen_ok, List.map_toArray, List.map_cons, List.map_nil, hs, hx, hr]
  refine hK _ _ (h v' w' ?_ ((Below.refl base _).grown h3 hbase (fun k hk => (hown.lt k hk).1)))
  have hlen : (ps ++ qs).length = ps.length + qs.length := List.length_append
  rw [← pushV_append] at h2
  rcases h2.2 with ⟨e1, e2⟩ | ⟨g, cap, cur, e1, _⟩
  · subst e1
    have hnil : ps ++ qs = [] := List.eq_nil_of_length_eq_zero (by omega)
    rw [hnil]
    exact ⟨none, 0, rfl, World.ownsRow_nil _ _ _ _⟩
  · subst e1
    exact ⟨_, cap, by rw [hlen], by rw [hlen]; exact h2⟩
/-- a push is appended; where it lies is told by an equation -/
theorem app_pushH (w : World) (hgd : o.guard = none) (s x : Operand) (ho : o.op = .call { callee := .builtin .append, args := #[s, x], argTypes := #[26, 26] })
    (base : Nat) (v : Value) (ps : List Pu) (hs : a.eval s = v) (hown : OwnPu w base v ps) (q1 : Int) (q2 : Bool) (H : Nat) (hH : w.heap.size = H) (hx : a.eval x = .slice (some ⟨H, 0, none⟩) 1 1) (hn : ps.length ≤ 1000000000000) (hbase : base ≤ w.heap.size)
    (h : ∀ (A' : Option Addr) (c' : Nat) (w' : World), OwnPu w' base (.slice A' (ps.length + 1) c') (ps ++ [(q1, q2)]) → Below base (w.alloc (.cells #[.int .i64 q1, .bool q2] 31)) w' → wpList Tryz.prog ops Q rest (a.put o.dst (.slice A' (ps.length + 1) c')) w') :
    wpList Tryz.prog ops Q (o :: rest) a (w.alloc (.cells #[.int .i64 q1, .bool q2] 31)) := by
  subst hH
  exact app_push w hgd s x ho base v ps hs hown q1 q2 hx hn hbase h
end
set_option maxRecDepth 100000 in
set_option maxHeartbeats 1000000 in
theorem fnCoupled_walk {w0 : World} (A : Option Addr) (c : Nat) (bs : List Int) (hcap : bs.length ≤ c) (hm : bs.length ≤ maxLen) (hr : Rd w0 A (bs.map (.int .u8))) (hw : ∀ n ∈ bs, 0 ≤ n ∧ n ≤ 255) :
    Calls Tryz.prog 3 #[.slice A bs.length c] w0 fun e w' => e = .returned (.bool true) ∧ Below w0.heap.size w0 w' := by
  have HW := Lib.hid hw
  clear hw
  unfold maxLen at hm
  by_cases hn : bs.length ≤ 1048576
  · have hg : decide ((1048576 : Int) < (bs.length : Int)) = false := by simp; omega
    go_enter Tryz.func3, Tryz.ntmps3
    go_wp2_with fail
    refine (drawDrawCoupled_any A c bs _ hr HW.out hn hcap).mono ?_
    rintro e w1 ⟨W, T, xs, B, k, P, cp, ps, rfl, R1, hl1, Q1, hp60, hpc, B1⟩
    clear hg hn hm hr HW hcap
    have hmx : xs.length ≤ maxLen := by unfold maxLen; omega
    have hpx : ps.length ≤ maxLen := by unfold maxLen; omega
    have hqx : (ps ++ [((0 : Int), true)]).length ≤ maxLen := by rw [List.length_append, List.length_singleton]; unfold maxLen; omega
    have CC := Lib.hid (fun (z : World) (R : Rd z B (xs.map .bool)) (Q : RdP z P ps) => iCoupled_any W T B P k cp xs.length ps.length xs ps z R Q rfl hmx rfl hpx)
    have CS := Lib.hid (fun (z : World) (R : Rd z B (xs.map .bool)) (Q : RdP z P ps) => sCoupled_any W T B P k cp xs.length ps.length xs ps z R Q rfl hmx rfl hpx)
    have CM := Lib.hid (fun (z : World) (R : Rd z B (xs.map .bool)) (Q : RdP z P ps) => iPushedMany_any W T B P k cp xs.length ps.length xs ps z R Q rfl hmx rfl hpx)
    have CV := Lib.hid (fun (D : Option Addr) (d : Nat) (z : World) (R : Rd z B (xs.map .bool)) (Q : RdP z D (ps ++ [((0 : Int), true)])) => iPushesValid_any W T B D k d xs.length (ps ++ [((0 : Int), true)]).length xs _ z R Q rfl hmx rfl hqx)
    have CQ := Lib.hid (fun (D : Option Addr) (d : Nat) (z : World) (R : Rd z B (xs.map .bool)) (Q : RdP z D (ps ++ [((0 : Int), true)])) => iCoupled_any W T B D k d xs.length (ps ++ [((0 : Int), true)]).length xs _ z R Q rfl hmx rfl hqx)
    have H1 := coup_one (W := W) (T := T) (bs := xs) (ps := ps)
    have H2 := coup_more (W := W) (T := T) (bs := xs) (ps := ps) (qs := [((0 : Int), true)])
    rw [show decide (manyV W T xs ps = 1) = (manyV W T xs ps == 1) from rfl] at H1
    have H1' := Lib.hid H1.symm
    have H2' := Lib.hid H2
    clear H1 H2
    have R2 := R1.alloc (.cells #[.int .i64 W, .int .i64 T, .slice B xs.length k] 25)
    have Q2 := Q1.belo (bl_alloc (Below.refl _ _) (.cells #[.int .i64 W, .int .i64 T, .slice B xs.length k] 25))
    have B2 := bl_alloc B1 (.cells #[.int .i64 W, .int .i64 T, .slice B xs.length k] 25)
    have X2 := C3.new w1 (.int .i64 W) (.int .i64 T) (.slice B xs.length k) 25
    clear R1 B1 Q1
    go_wp2_with fail
    generalize w1.alloc (.cells #[.int .i64 W, .int .i64 T, .slice B xs.length k] 25) = w2 at *
    generalize w1.heap.size = bx at *
    refine (CC.out _ R2 Q2).mono ?_
    rintro e w3 ⟨rfl, b3⟩
    have R3 := R2.belo b3
    have Q3 := Q2.belo b3
    have B3 := bl_go B2 b3
    have X3 := X2.belo b3
    clear R2 B2 X2 Q2 b3
    obtain ⟨x0, x1, x2⟩ := id X3
    have hne : (coupB W T xs ps != coupB W T xs ps) = false := by simp
    go_wp2_with fail
    refine (CS.out _ R3 Q3).mono ?_
    rintro e w4 ⟨rfl, b4⟩
    have R4 := R3.belo b4
    have Q4 := Q3.belo b4
    have B4 := bl_go B3 b4
    have X4 := X3.belo b4
    clear R3 B3 X3 Q3 b4 x0 x1 x2 CC CS
    have OE : OwnPu (w4.alloc (.cells #[] 31)) w4.heap.size (.slice (some ⟨w4.heap.size, 0, none⟩) 0 0) [] := ⟨_, _, rfl, World.ownsRow_lit w4 #[] 0 (Nat.le_refl _) (by unfold maxLen; omega) (by simp)⟩
    have be := bl_alloc (Below.refl w4.heap.size w4) (.cells #[] 31)
    have Q5 := Q4.belo be
    cases P with
    | none =>
      have hps : ps = [] := by
        rcases List.eq_nil_or_concat ps with h | ⟨l, u, h⟩
        · exact h
        · obtain ⟨b, off, e, -⟩ := Q4.at_ (k := 0) (by rw [h]; simp)
          cases e
      subst hps
      have hl6 : ([] : List Pu).length ≤ 1000000000000 := by simp
      have hs5 := be.size
      generalize coupB W T xs [] = cb at *
      generalize manyV W T xs [] = mv at *
      generalize psvB W T xs ([] ++ [((0 : Int), true)]) = pv at *
      generalize coupB W T xs ([] ++ [((0 : Int), true)]) = cq at *
      have h1 := H1'.out
      cases cb with
      | false =>
        clear H1' H2' CV CQ
        go_wp2_with (first
          | (at_builtin; (refine app_pushH _ rfl _ _ rfl w4.heap.size _ [] rfl OE 0 true (w4.heap.size + 1) (by simp) rfl hl6 hs5 ?_; intro A7 c7 w7 o7 b7; have B47 : Below w4.heap.size w4 w7 := be.trans ((Below.alloc (Below.refl _ _) hs5 _).trans b7); have X7 := X4.belo B47; have R7 := R4.belo B47; have Q7 := Q4.belo B47; have Q8 := o7.rd; have B7 := bl_go B4 B47; obtain ⟨x0, x1, x2⟩ := id X7))
          | (go_at_call 10; refine (CM.out _ R7 Q7).mono ?_; rintro e w8 ⟨rfl, b8⟩; have B8 := bl_go B7 b8)
          | (go_at_call 12; refine (alive_any _).mono ?_; rintro e w9 ⟨rfl, b9⟩))
        go_ret
        exact ⟨rfl, bl_go B8 b9⟩
      | true =>
        have h2 := H2'.out rfl
        cases pv with
        | false =>
          clear H1' H2' h2 CQ
          go_wp2_with (first
            | (at_builtin; (refine app_pushH _ rfl _ _ rfl w4.heap.size _ [] rfl OE 0 true (w4.heap.size + 1) (by simp) rfl hl6 hs5 ?_; intro A7 c7 w7 o7 b7; have B47 : Below w4.heap.size w4 w7 := be.trans ((Below.alloc (Below.refl _ _) hs5 _).trans b7); have X7 := X4.belo B47; have R7 := R4.belo B47; have Q7 := Q4.belo B47; have Q8 := o7.rd; have B7 := bl_go B4 B47; obtain ⟨x0, x1, x2⟩ := id X7))
            | (go_at_call 10; refine (CM.out _ R7 Q7).mono ?_; rintro e w8 ⟨rfl, b8⟩; have X8 := X7.belo b8; have R8 := R7.belo b8; have P8 := Q8.belo b8; have B8 := bl_go B7 b8; clear x0 x1 x2; obtain ⟨x0, x1, x2⟩ := id X8)
            | (go_at_call 11; have CV9 := CV.out A7 c7 _ R8 P8; rw [List.length_append, List.length_singleton] at CV9; refine CV9.mono ?_; rintro e w9 ⟨rfl, b9⟩; have B9 := bl_go B8 b9)
            | (go_at_call 12; refine (alive_any _).mono ?_; rintro e wz ⟨rfl, bz⟩))
          go_ret
          exact ⟨rfl, bl_go B9 bz⟩
        | true =>
          have h3 := h2 rfl
          subst h3
          clear H1' H2' h2
          go_wp2_with (first
            | (at_builtin; (refine app_pushH _ rfl _ _ rfl w4.heap.size _ [] rfl OE 0 true (w4.heap.size + 1) (by simp) rfl hl6 hs5 ?_; intro A7 c7 w7 o7 b7; have B47 : Below w4.heap.size w4 w7 := be.trans ((Below.alloc (Below.refl _ _) hs5 _).trans b7); have X7 := X4.belo B47; have R7 := R4.belo B47; have Q7 := Q4.belo B47; have Q8 := o7.rd; have B7 := bl_go B4 B47; obtain ⟨x0, x1, x2⟩ := id X7))
            | (go_at_call 10; refine (CM.out _ R7 Q7).mono ?_; rintro e w8 ⟨rfl, b8⟩; have X8 := X7.belo b8; have R8 := R7.belo b8; have P8 := Q8.belo b8; have B8 := bl_go B7 b8; clear x0 x1 x2; obtain ⟨x0, x1, x2⟩ := id X8)
            | (go_at_call 11; have CV9 := CV.out A7 c7 _ R8 P8; rw [List.length_append, List.length_singleton] at CV9; refine CV9.mono ?_; rintro e w9 ⟨rfl, b9⟩; have X9 := X8.belo b9; have R9 := R8.belo b9; have P9 := P8.belo b9; have B9 := bl_go B8 b9; clear x0 x1 x2; obtain ⟨x0, x1, x2⟩ := id X9)
            | (go_at_call 8; have CQ9 := CQ.out A7 c7 _ R9 P9; rw [List.length_append, List.length_singleton] at CQ9; refine CQ9.mono ?_; rintro e wy ⟨rfl, by9⟩; have BY := bl_go B9 by9)
            | (go_at_call 12; refine (alive_any _).mono ?_; rintro e wz ⟨rfl, bz⟩))
          go_ret
          exact ⟨rfl, bl_go BY bz⟩
    | some ad =>
      have hq5 : ∀ j u, (pushV ps)[j]? = some u → (w4.alloc (.cells #[] 31)).cell? (ad.add j) = some u := fun j u hu => by
        obtain ⟨ad', e, hc⟩ := Q5 (by intro e; rw [e] at hu; simp at hu)
        obtain rfl := Option.some.inj e
        exact hc j u hu
      have hl5 : ([] : List Pu).length + ps.length ≤ 1000000000000 := by simp; omega
      have hl6 : ps.length ≤ 1000000000000 := by omega
      have hs5 := be.size
      generalize coupB W T xs ps = cb at *
      generalize manyV W T xs ps = mv at *
      generalize psvB W T xs (ps ++ [((0 : Int), true)]) = pv at *
      generalize coupB W T xs (ps ++ [((0 : Int), true)]) = cq at *
      have h1 := H1'.out
      cases cb with
      | false =>
        clear H1' H2' CV CQ
        go_wp2_with (first
          | (at_builtin; first
            | (refine app_pushes _ rfl _ _ rfl w4.heap.size _ [] rfl OE ad ps cp rfl hq5 hl5 hs5 ?_; intro v6 w6 o6 b6; rw [List.nil_append] at o6; obtain ⟨A6, c6, rfl, -⟩ := id o6; have hs6 := Nat.le_trans hs5 b6.size)
            | (refine app_push _ rfl _ _ rfl w4.heap.size _ ps rfl o6 0 true rfl hl6 hs6 ?_; intro A7 c7 w7 o7 b7; have B47 : Below w4.heap.size w4 w7 := (be.trans b6).trans ((Below.alloc (Below.refl _ _) hs6 _).trans b7); have X7 := X4.belo B47; have R7 := R4.belo B47; have Q7 := Q4.belo B47; have Q8 := o7.rd; have B7 := bl_go B4 B47; obtain ⟨x0, x1, x2⟩ := id X7))
          | (go_at_call 10; refine (CM.out _ R7 Q7).mono ?_; rintro e w8 ⟨rfl, b8⟩; have B8 := bl_go B7 b8)
          | (go_at_call 12; refine (alive_any _).mono ?_; rintro e w9 ⟨rfl, b9⟩))
        go_ret
        exact ⟨rfl, bl_go B8 b9⟩
      | true =>
        have h2 := H2'.out rfl
        cases pv with
        | false =>
          clear H1' H2' h2 CQ
          go_wp2_with (first
            | (at_builtin; first
              | (refine app_pushes _ rfl _ _ rfl w4.heap.size _ [] rfl OE ad ps cp rfl hq5 hl5 hs5 ?_; intro v6 w6 o6 b6; rw [List.nil_append] at o6; obtain ⟨A6, c6, rfl, -⟩ := id o6; have hs6 := Nat.le_trans hs5 b6.size)
              | (refine app_push _ rfl _ _ rfl w4.heap.size _ ps rfl o6 0 true rfl hl6 hs6 ?_; intro A7 c7 w7 o7 b7; have B47 : Below w4.heap.size w4 w7 := (be.trans b6).trans ((Below.alloc (Below.refl _ _) hs6 _).trans b7); have X7 := X4.belo B47; have R7 := R4.belo B47; have Q7 := Q4.belo B47; have Q8 := o7.rd; have B7 := bl_go B4 B47; obtain ⟨x0, x1, x2⟩ := id X7))
            | (go_at_call 10; refine (CM.out _ R7 Q7).mono ?_; rintro e w8 ⟨rfl, b8⟩; have X8 := X7.belo b8; have R8 := R7.belo b8; have P8 := Q8.belo b8; have B8 := bl_go B7 b8; clear x0 x1 x2; obtain ⟨x0, x1, x2⟩ := id X8)
            | (go_at_call 11; have CV9 := CV.out A7 c7 _ R8 P8; rw [List.length_append, List.length_singleton] at CV9; refine CV9.mono ?_; rintro e w9 ⟨rfl, b9⟩; have B9 := bl_go B8 b9)
            | (go_at_call 12; refine (alive_any _).mono ?_; rintro e wz ⟨rfl, bz⟩))
          go_ret
          exact ⟨rfl, bl_go B9 bz⟩
        | true =>
          have h3 := h2 rfl
          subst h3
          clear H1' H2' h2
          go_wp2_with (first
            | (at_builtin; first
              | (refine app_pushes _ rfl _ _ rfl w4.heap.size _ [] rfl OE ad ps cp rfl hq5 hl5 hs5 ?_; intro v6 w6 o6 b6; rw [List.nil_append] at o6; obtain ⟨A6, c6, rfl, -⟩ := id o6; have hs6 := Nat.le_trans hs5 b6.size)
              | (refine app_push _ rfl _ _ rfl w4.heap.size _ ps rfl o6 0 true rfl hl6 hs6 ?_; intro A7 c7 w7 o7 b7; have B47 : Below w4.heap.size w4 w7 := (be.trans b6).trans ((Below.alloc (Below.refl _ _) hs6 _).trans b7); have X7 := X4.belo B47; have R7 := R4.belo B47; have Q7 := Q4.belo B47; have Q8 := o7.rd; have B7 := bl_go B4 B47; obtain ⟨x0, x1, x2⟩ := id X7))
            | (go_at_call 10; refine (CM.out _ R7 Q7).mono ?_; rintro e w8 ⟨rfl, b8⟩; have X8 := X7.belo b8; have R8 := R7.belo b8; have P8 := Q8.belo b8; have B8 := bl_go B7 b8; clear x0 x1 x2; obtain ⟨x0, x1, x2⟩ := id X8)
            | (go_at_call 11; have CV9 := CV.out A7 c7 _ R8 P8; rw [List.length_append, List.length_singleton] at CV9; refine CV9.mono ?_; rintro e w9 ⟨rfl, b9⟩; have X9 := X8.belo b9; have R9 := R8.belo b9; have P9 := P8.belo b9; have B9 := bl_go B8 b9; clear x0 x1 x2; obtain ⟨x0, x1, x2⟩ := id X9)
            | (go_at_call 8; have CQ9 := CQ.out A7 c7 _ R9 P9; rw [List.length_append, List.length_singleton] at CQ9; refine CQ9.mono ?_; rintro e wy ⟨rfl, by9⟩; have BY := bl_go B9 by9)
            | (go_at_call 12; refine (alive_any _).mono ?_; rintro e wz ⟨rfl, bz⟩))
          go_ret
          exact ⟨rfl, bl_go BY bz⟩
  · have hg : decide ((1048576 : Int) < (bs.length : Int)) = true := by simp; omega
    go_enter Tryz.func3, Tryz.ntmps3
    go_wp2
    go_ret
    exact ⟨rfl, Below.refl _ _⟩
end Go.Proofs.YtkdgejmjecldeaaGreat

/- FnCoupled and FnCoupledAt together (for merge.py). -/
namespace Go.Proofs.YtkdgejmjecldeaaGreat
end Go.Proofs.YtkdgejmjecldeaaGreat
