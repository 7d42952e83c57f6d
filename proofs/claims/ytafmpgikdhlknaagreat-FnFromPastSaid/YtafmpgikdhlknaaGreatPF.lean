
/- FnFromPast: joined from DrawPlain, Open, Cells, CellMark, PuX, DrawPush, DrawCou, LayI, FirI, TuI, RowI, SameI, LFromPast. -/
import Derived.Test.YtafmpgikdhlknaaGreatPG
import Derived.Test.YtafmpgikdhlknaaGreatPT
import Derived.Deep.CutRange
import Derived.Test.YtafmpgikdhlknaaGreatMem
import Derived.Test.YtafmpgikdhlknaaGreatRows
import Derived.ProofKit
import Derived.OpenShut
import Derived.ChangeOld
import Derived.Deep.Grids
import Derived.Deep.Slices
import Derived.Lib.SmallJoins
import Derived.Test.YtafmpgikdhlknaaGreatBw
import Derived.Test.YtafmpgikdhlknaaGreatEq
import Derived.Deep.SlicePairs
import Derived.Test.YtafmpgikdhlknaaGreatCellApp
import Derived.Test.YtafmpgikdhlknaaGreatPA
import Derived.Test.YtafmpgikdhlknaaGreatPB
import Derived.Test.YtafmpgikdhlknaaGreatHgtI
import Derived.Test.YtafmpgikdhlknaaGreatDrawReg
import Derived.Test.YtafmpgikdhlknaaGreatLayN
import Derived.Test.YtafmpgikdhlknaaGreatStep
import Derived.Test.YtafmpgikdhlknaaGreatMemE
import Derived.Test.YtafmpgikdhlknaaGreatListI
import Derived.Test.YtafmpgikdhlknaaGreatPC
import Derived.Test.YtafmpgikdhlknaaGreatAlive
import Derived.Maps.AppendAt
/- Contract: the draw of a region for the pushes (l20Plain). -/
namespace Go.Proofs.YtafmpgikdhlknaaGreat
open Go.RowKit

theorem set_grownP (w : World) (p : Addr) (u : Value) : w.grownBy (w.setCell p u) (some p.block) :=
  ⟨rfl, rfl, rfl, by simp [World.setCell], fun i _ hn => Below.heap_setCell _ _ _ _ (fun e => hn (by simp [e]))⟩

section
variable {w wr w' : World} {g : Nat} {A : Option Addr} {c : Nat} {bytes : List Int} {q : Nat}
theorem Rs.setc (h : Rs w g A c bytes q wr) {bx i : Nat} (hb : w.heap.size < bx) (u : Value) : Rs w g A c bytes q (wr.setCell ⟨bx, i, none⟩ u) := by
  have hg := h.hg
  have hs : ∀ k, k ≠ bx → (wr.setCell ⟨bx, i, none⟩ u).heap[k]? = wr.heap[k]? := fun k hk => Below.heap_setCell _ _ _ _ hk
  refine ⟨⟨(hs g (by omega)).trans h.rds.1, ?_, h.rds.2.2.1, h.rds.2.2.2⟩, (hs _ (by omega)).trans h.res, ⟨h.gb.os, h.gb.tape, h.gb.output, ?_, fun k hk hn => (hs k (by omega)).trans (h.gb.block k hk hn)⟩, h.hg, h.ha⟩
  · refine h.rds.2.1.grownBelow (set_grownP wr ⟨bx, i, none⟩ u) (fun hne ad ha e => ?_)
    have := h.ha (by simpa using hne) ad ha
    have e' : ad.block = bx := by simpa using e
    omega
  · have := h.gb.size
    simpa [World.setCell] using this
end
theorem box3_put {w : World} {b : Nat} {x y z : Value} {t : TypeId} (h : w.heap[b]? = some (.cells #[x, y, z] t (0, 0))) (x' y' z' : Value) : (((w.setCell ⟨b, 0, none⟩ x').setCell ⟨b, 1, none⟩ y').setCell ⟨b, 2, none⟩ z').heap[b]? = some (.cells #[x', y', z'] t (0, 0)) :=
  heap_setCell_same _ b 2 _ _ z' (heap_setCell_same _ b 1 _ _ y' (heap_setCell_same _ b 0 _ _ x' h))
theorem arrP (rn : Nat) (h : rn ≤ 3) : ∃ d : Int, (∀ w : World, (w.alloc (.cells #[.int .i64 2, .int .i64 3, .int .i64 4, .int .i64 5] 3)).cell? ⟨w.heap.size, rn, none⟩ = some (.int .i64 d)) ∧ 2 ≤ d ∧ d ≤ 6 := by
  rcases (show rn = 0 ∨ rn = 1 ∨ rn = 2 ∨ rn = 3 from by omega) with rfl | rfl | rfl | rfl
  · exact ⟨2, fun w => cell_of_row _ _ _ _ _ _ (heap_alloc_new w _), by omega, by omega⟩
  · exact ⟨3, fun w => cell_of_row _ _ _ _ _ _ (heap_alloc_new w _), by omega, by omega⟩
  · exact ⟨4, fun w => cell_of_row _ _ _ _ _ _ (heap_alloc_new w _), by omega, by omega⟩
  · exact ⟨5, fun w => cell_of_row _ _ _ _ _ _ (heap_alloc_new w _), by omega, by omega⟩
set_option maxRecDepth 100000 in
set_option maxHeartbeats 8000000 in
theorem plain_any (n : Int) (w : World) (g : Nat) (A : Option Addr) (c : Nat) (bytes : List Int) (p : Nat) (h : RdS w g A c bytes p) (hp : p ≤ 20000) (hn0 : 0 ≤ n) (hn : n ≤ 1000) :
    Calls Tryz.prog 24 #[.pointer (some ⟨g, 0, none⟩), .int .i64 n] w (SomeReg g A c bytes p 140 w) := by
  have hg := heap_lt h.1
  have hA : bytes ≠ [] → ∀ ad, A = some ad → ad.block < w.heap.size := by
    intro hne ad ha
    obtain ⟨ad', ha', hc⟩ := h.2.1 (by simpa using hne)
    obtain rfl := Option.some.inj (ha.symm.trans ha')
    obtain ⟨x, ys, rfl⟩ := List.exists_cons_of_ne_nil hne
    have := World.block_lt_of_cell? w _ (hc 0 _ rfl)
    simpa [Addr.add] using this
  have H0 : Rs w g A c bytes p (w.alloc (.cells #[.int .i64 0, .int .i64 0, .slice none 0 0] 25)) :=
    ⟨h.below hg (bl_alloc (Below.refl _ _) _), heap_alloc_new w _, gb_below (World.grownBy.refl _ _) (bl_alloc (Below.refl _ _) _), hg, hA⟩
  go_enter Tryz.func24, Tryz.ntmps24
  go_wp2_with fail
  have hsa : (w.alloc (.cells #[.int .i64 0, .int .i64 0, .slice none 0 0] 25)).heap.size = w.heap.size + 1 := by simp
  generalize w.alloc (.cells #[.int .i64 0, .int .i64 0, .slice none 0 0] 25) = wa at *
  refine (small_any 0 _ g A c bytes p H0.rds (by omega) (by omega) (by omega)).mono ?_
  rintro e w1 ⟨W, T, bs, B, kb, q, rfl, hrd, hl37, S1, hq, G1, hB⟩
  have hB1 : ∀ ad, B = some ad → w.heap.size < ad.block := fun ad ha => by have := hB ad ha; omega
  have H1 := (H0.pick S1 G1).alloc (.cells #[.int .i64 W, .int .i64 T, .slice B bs.length kb] 25)
  have R1 := hrd.alloc (.cells #[.int .i64 W, .int .i64 T, .slice B bs.length kb] 25)
  have X1 : (w1.alloc (.cells #[.int .i64 W, .int .i64 T, .slice B bs.length kb] 25)).heap[w1.heap.size]? = some (.cells #[.int .i64 W, .int .i64 T, .slice B bs.length kb] 25 (0, 0)) := heap_alloc_new w1 _
  have hbx : w.heap.size < w1.heap.size := by have := heap_lt (H0.pick S1 G1).res; omega
  have hmx : bs.length ≤ maxLen := by unfold maxLen; omega
  clear H0 S1 G1 hrd hB
  go_upto_region 2 with fail
  generalize w1.alloc (.cells #[.int .i64 W, .int .i64 T, .slice B bs.length kb] 25) = wb at *
  generalize w1.heap.size = bx at *
  obtain ⟨x0, x1, x2, y0, y1, y2⟩ := blk3 X1
  go_cut [15] from 6 to 28 (fun s15 wx => ∃ cb : Bool, s15 = .bool cb ∧ Rs w g A c bytes q wx ∧ Rd wx B (bs.map .bool) ∧ wx.heap[bx]? = some (.cells #[.int .i64 W, .int .i64 T, .slice B bs.length kb] 25 (0, 0)))
  case first =>
    go_wp2_with fail
    refine (sSimple_any W T B kb bs.length bs _ R1 rfl hmx).mono ?_
    rintro e w2 ⟨rfl, b2⟩
    have H2 := H1.below b2
    have R2 := R1.belo b2
    have X2 := (b2.block bx (heap_lt X1)).trans X1
    clear H1 R1 X1 b2 x0 x1 x2 y0 y1 y2
    cases hs : simpB W T bs with
    | false =>
      go_wp2_with fail
      go_meet
      exact ⟨true, rfl, H2, R2, X2⟩
    | true =>
      have CT := Lib.hid (tilMany_int W T B kb bs.length bs _ R2 (simp_iff.1 hs).1 rfl)
      obtain ⟨x0, x1, x2, y0, y1, y2⟩ := blk3 X2
      clear hs
      go_wp2_with fail
      refine CT.out.mono ?_
      rintro e w3 ⟨z, rfl, b3⟩
      have H3 := H2.below b3
      have R3 := R2.belo b3
      have X3 := (b3.block bx (heap_lt X2)).trans X2
      clear H2 R2 X2 b3 x0 x1 x2 y0 y1 y2 CT
      go_wp2_with fail
      go_meet
      exact ⟨_, rfl, H3, R3, X3⟩
  case rest =>
    clear H1 R1 X1 x0 x1 x2 y0 y1 y2
    obtain ⟨cb, rfl, H1, R1, X1⟩ := hcut
    obtain ⟨wd, hwd⟩ : ∃ wd : World, wd = wc := ⟨_, rfl⟩
    subst hwd
    go_upto_if 15 with fail
    go_cut [15] from 15 to 28 (fun _ wx => ∃ (W T : Int) (bs : List Bool) (B : Option Addr) (kb q : Nat), q ≤ p + 100 ∧ bs.length ≤ 37 ∧ (∀ ad, B = some ad → w.heap.size < ad.block) ∧ Rs w g A c bytes q wx ∧ Rd wx B (bs.map .bool) ∧ wx.heap[bx]? = some (.cells #[.int .i64 W, .int .i64 T, .slice B bs.length kb] 25 (0, 0)))
    case first =>
      cases cb with
      | false =>
        go_wp2_with fail
        go_meet
        exact ⟨W, T, bs, B, kb, q, by omega, hl37, hB1, H1, R1, X1⟩
      | true =>
        obtain ⟨rn, e1, h1⟩ : ∃ rn : Nat, pickV 4 bytes q = rn ∧ rn ≤ 3 := by
          have := pickV_bd (n := 4) bytes q (by omega)
          exact ⟨(pickV 4 bytes q).toNat, by omega, by omega⟩
        obtain ⟨d, f, a1, a2⟩ := arrP rn h1
        have H2 := H1.alloc (.cells #[.int .i64 2, .int .i64 3, .int .i64 4, .int .i64 5] 3)
        have X2 := ((bl_alloc (Below.refl wd.heap.size wd) (.cells #[.int .i64 2, .int .i64 3, .int .i64 4, .int .i64 5] 3)).block bx (heap_lt X1)).trans X1
        have CP := Lib.hid (show Calls Tryz.prog 45 #[.pointer (some ⟨g, 0, none⟩), .int .i64 4] (wd.alloc (.cells #[.int .i64 2, .int .i64 3, .int .i64 4, .int .i64 5] 3)) fun e w' => e = .returned (.int .i64 rn) ∧ RdS w' g A c bytes (q + 1) ∧ (wd.alloc (.cells #[.int .i64 2, .int .i64 3, .int .i64 4, .int .i64 5] 3)).grownBy w' (some g) from by
          have := pickV_any 4 _ g A c bytes q H2.rds (by omega) (by omega)
          unfold PickedV at this; rw [e1] at this; exact this)
        have hrn : (rn : Int) < 4 := by omega
        have fw := f wd
        have hgd : g < wd.heap.size := heap_lt H1.rds.1
        have hgn : g ≠ wd.heap.size := by omega
        clear e1 f H1 R1 X1
        go_wp2_with fail
        refine CP.out.mono ?_
        rintro e w3 ⟨rfl, S3, G3⟩
        have H3 := H2.pick S3 G3
        have X3 := (G3.block bx (heap_lt X2) (by have := H2.hg; simp; omega)).trans X2
        have f3 := gb_cell G3 (by omega) fw
        clear H2 S3 G3 X2 CP fw
        go_wp2_with fail
        refine (sRegionBox_any d 2 _).mono ?_
        rintro e w4 ⟨B4, k4, rfl, o4, b4⟩
        have H4 := H3.below b4
        have X4 := (b4.block bx (heap_lt X3)).trans X3
        have hB4 : ∀ ad, B4 = some ad → w.heap.size < ad.block := fun ad ha => by have t := o4.1 ad ha; have := heap_lt H3.res; omega
        have hB4n : ∀ ad, B4 = some ad → ad.block ≠ bx := fun ad ha => by have t := o4.1 ad ha; have := heap_lt X3; omega
        have R4 := o4.rd
        have hl4 := box_len d 2
        generalize boxW d 2 = W4 at *
        generalize boxT d 2 = T4 at *
        generalize boxB d 2 = bs4 at *
        have K := fun (v : World) (i : Nat) (u : Value) (R : Rd v B4 (bs4.map .bool)) => R.grownBelow (set_grownP v ⟨bx, i, none⟩ u) (fun _ ad ha e => hB4n ad ha (by simpa using e))
        have R5 := K _ 2 (.slice B4 bs4.length k4) (K _ 1 (.int .i64 T4) (K _ 0 (.int .i64 W4) R4))
        have H5 := ((H4.setc (i := 0) hbx (.int .i64 W4)).setc (i := 1) hbx (.int .i64 T4)).setc (i := 2) hbx (.slice B4 bs4.length k4)
        have X5 := box3_put X4 (.int .i64 W4) (.int .i64 T4) (.slice B4 bs4.length k4)
        obtain ⟨s0, s1, s2, t0, t1, t2⟩ := blk3 X4
        clear H3 f3 X3 o4 b4 H4 K R4
        go_wp2_with fail
        go_meet
        exact ⟨W4, T4, bs4, B4, k4, q + 1, by omega, by omega, hB4, H5, R5, X5⟩
    case rest =>
      clear H1 R1 X1 hB1 hl37 hq hmx
      obtain ⟨W, T, bs, B, kb, q, hq, hl37, hB1, H1, R1, X1⟩ := hcut
      obtain ⟨we, hwe⟩ : ∃ we : World, we = wc := ⟨_, rfl⟩
      subst hwe
      go_wp2_with fail
      refine (odd_any n _ g A c bytes q H1.rds (by omega) hn0 hn).mono ?_
      rintro e w6 ⟨b, q', rfl, S6, hq6, G6⟩
      have hgb : g ≠ bx := by have := H1.hg; omega
      have H6 := H1.pick S6 G6
      have hBg : ∀ ad, B = some ad → g ≠ ad.block := fun ad ha => by have := hB1 ad ha; have := H1.hg; omega
      have R6 := R1.grownBelow G6 (fun _ ad ha e => hBg ad ha (by have e' : ad.block = g := (by simpa using e); exact e'.symm))
      have X6 := (G6.block bx (heap_lt X1) (by simp; omega)).trans X1
      clear H1 R1 X1 S6 G6
      cases b with
      | true =>
        go_wp2_with fail
        refine (region_any 4 _ g A c bytes q' H6.rds (by omega) (by omega) (by omega)).mono ?_
        rintro e w7 ⟨W', T', bs', B', kb', q7, rfl, hrd', hl37', S7, hq7, G7, hB'⟩
        have z1 := heap_lt H6.res
        have H7 := H6.pick S7 G7
        obtain ⟨s0, s1, s2, t0, t1, t2⟩ := blk3 H7.res
        have hB7 : ∀ ad, B' = some ad → w.heap.size < ad.block := fun ad ha => by have := hB' ad ha; omega
        clear H6 R6 X6
        go_wp2_with fail
        refine bodyPost_ret (v := .agg #[.int .i64 W', .int .i64 T', .slice B' bs'.length kb']) (by simp [results, Tryz.results24, go_sem, s0, s1, s2]) rfl ?_
        exact H7.done hrd' hB7 hl37' (by omega)
      | false =>
        obtain ⟨x0, x1, x2, -, -, -⟩ := blk3 X6
        obtain ⟨s0, s1, s2, t0, t1, t2⟩ := blk3 H6.res
        go_wp2_with fail
        refine bodyPost_ret (v := .agg #[.int .i64 W, .int .i64 T, .slice B bs.length kb]) (by simp [results, Tryz.results24, go_sem, s0, s1, s2]) rfl ?_
        exact H6.done R6 hB1 hl37 (by omega)
end Go.Proofs.YtafmpgikdhlknaaGreat

/- The arguments of a law, opened: regions by value, slices. -/
namespace Go.Proofs.YtafmpgikdhlknaaGreat
open Go.ChangeShapes Go.WideShapes Go.ChangeAt Go.RowKit Go.Deep

theorem own_knob : ownKnob Tryz.prog.godebug = none := by kernel_rfl
theorem laid_out : laidOutB Tryz.prog = true := by kernel_rfl

/-- a list of cells that are there lies in a block that is there -/
theorem rd_of_cells {w : World} {a : Addr} {xs : List Value} (h : ∀ j u, xs[j]? = some u → w.cell? (a.add j) = some u) : Rd w (some a) xs := fun _ => ⟨a, rfl, h⟩

section
variable {H : Type} {enc : TypeId × Value → H} {w : World} {r : Reach} {b0 base : Nat} {v : Value} {d : DataW H} {p : List MemPlace} {held : Bool} {fuel : Nat} {cs : List Value} {x : DataW H × List MemPlace}

theorem rd_bools (h : DataW.trod enc Tryz.prog w 0 (fun _ => true) held fuel 23 cs = some x) :
    ∃ (A : Option Addr) (c : Nat) (bs : List Bool), cs = [.slice A bs.length c] ∧ bs.length ≤ maxLen ∧ Rd w A (bs.map .bool) := by
  rcases open_bools Tryz.underlying23 Tryz.underlying4 (by kernel_rfl) h with ⟨hcs, _⟩ | ⟨a, len, cap, Z, hcs, _, hl, hm, _, hcell⟩
  · exact ⟨none, 0, [], by simpa using hcs, by simp, Rd.nil _ _⟩
  · refine ⟨some a, cap, (List.range len).map Z, by simpa using hcs, by simpa using (by omega : len ≤ maxLen), rd_of_cells fun j u hu => ?_⟩
    have hj : j < len := by
      rcases Nat.lt_or_ge j len with h1 | h1
      · exact h1
      · rw [List.getElem?_eq_none (by simpa using h1)] at hu; cases hu
    rw [hcell j (by omega)]
    simpa [List.getElem?_eq_getElem, hj] using hu
theorem rd_ints {t e : TypeId} {k : IntKind} (ht : Tryz.prog.underlying t = some (.slice e)) (he : Tryz.prog.underlying e = some (.int k)) (hc : Tryz.prog.cellsOf e = 1) (h : DataW.trod enc Tryz.prog w 0 (fun _ => true) held fuel t cs = some x) :
    ∃ (A : Option Addr) (c : Nat) (zs : List Int), cs = [.slice A zs.length c] ∧ zs.length ≤ maxLen ∧ Rd w A (zs.map (.int k)) ∧ ∀ n ∈ zs, (Lit.int k n).wf = true := by
  rcases open_ints ht he hc h with ⟨hcs, _⟩ | ⟨a, len, cap, zs, hcs, _, hl, hm, hz, _, hcell, hwf⟩
  · exact ⟨none, 0, [], by simpa using hcs, by simp, Rd.nil _ _, by simp⟩
  · have hz' : zs.length = cap := by simpa using hz
    have hlen : (zs.take len).length = len := by simp; omega
    refine ⟨some a, cap, zs.take len, by rw [hlen]; exact hcs, by rw [hlen]; omega, rd_of_cells fun j u hu => ?_, fun n hn => hwf n (List.mem_of_mem_take hn)⟩
    have hj : j < len := by
      rcases Nat.lt_or_ge j len with h1 | h1
      · exact h1
      · rw [List.getElem?_eq_none (by rw [List.length_map, hlen]; exact h1)] at hu; cases hu
    rw [hcell j (by omega)]
    rw [List.getElem?_map, List.getElem?_take_of_lt hj] at hu
    rw [List.getD_eq_getElem?_getD, List.getElem?_eq_getElem (by omega)]
    rw [List.getElem?_eq_getElem (by omega)] at hu
    simpa using hu

set_option maxRecDepth 100000 in
theorem open_ints_arg {t e : TypeId} {k : IntKind} (ht : Tryz.prog.underlying t = some (.slice e)) (he : Tryz.prog.underlying e = some (.int k)) (hc : Tryz.prog.cellsOf e = 1)
    (hv : Value.okWide Tryz.prog w r b0 t v) (h : DataW.Trod enc Tryz.prog w 0 (fun _ => true) held t v d p) :
    ∃ (A : Option Addr) (c : Nat) (zs : List Int), v = .slice A zs.length c ∧ zs.length ≤ maxLen ∧ Rd w A (zs.map (.int k)) ∧ ∀ n ∈ zs, (Lit.int k n).wf = true := by
  obtain ⟨a0, len0, cap0, rfl⟩ := okWide_slice ht hv
  obtain ⟨fuel, hf⟩ := h
  obtain ⟨A, c, zs, hcs, h1, h2, h3⟩ := rd_ints ht he hc hf
  simp only [Value.cells, List.cons.injEq, Value.slice.injEq, and_true] at hcs
  obtain ⟨rfl, rfl, rfl⟩ := hcs
  exact ⟨_, _, zs, rfl, h1, h2, h3⟩
set_option maxRecDepth 100000 in
/-- a slice of bytes that came in -/
theorem open_bytes {t e : TypeId} (ht : Tryz.prog.underlying t = some (.slice e)) (he : Tryz.prog.underlying e = some (.int .u8)) (hc : Tryz.prog.cellsOf e = 1)
    (hv : Value.okWide Tryz.prog w r b0 t v) (h : DataW.Trod enc Tryz.prog w 0 (fun _ => true) held t v d p) :
    ∃ (A : Option Addr) (c : Nat) (zs : List Int), v = .slice A zs.length c ∧ zs.length ≤ c ∧ zs.length ≤ maxLen ∧ Rd w A (zs.map (.int .u8)) ∧ ∀ n ∈ zs, 0 ≤ n ∧ n ≤ 255 := by
  obtain ⟨a0, len0, cap0, rfl⟩ := okWide_slice ht hv
  obtain ⟨fuel, hf⟩ := h
  have bd : ∀ n : Int, (Lit.int .u8 n).wf = true → 0 ≤ n ∧ n ≤ 255 := fun n hn => bounds_u8 hn
  rcases open_ints ht he hc hf with ⟨hcs, _⟩ | ⟨a, len, cap, zs, hcs, _, hl, hm, hz, _, hcell, hwf⟩
  · simp [Value.cells] at hcs
    obtain ⟨rfl, rfl, rfl⟩ := hcs
    exact ⟨none, 0, [], rfl, by simp, by simp, Rd.nil _ _, by simp⟩
  · simp [Value.cells] at hcs
    obtain ⟨rfl, rfl, rfl⟩ := hcs
    have hz' : zs.length = cap0 := by simpa using hz
    have hlen : (zs.take len0).length = len0 := by simp; omega
    refine ⟨some a, cap0, zs.take len0, by rw [hlen], by omega, by omega, rd_of_cells fun j u hu => ?_, fun n hn => bd n (hwf n (List.mem_of_mem_take hn))⟩
    have hj : j < len0 := by
      rcases Nat.lt_or_ge j len0 with h1 | h1
      · exact h1
      · rw [List.getElem?_eq_none (by rw [List.length_map, hlen]; exact h1)] at hu; cases hu
    rw [hcell j (by omega)]
    rw [List.getElem?_map, List.getElem?_take_of_lt hj] at hu
    rw [List.getD_eq_getElem?_getD, List.getElem?_eq_getElem (by omega)]
    rw [List.getElem?_eq_getElem (by omega)] at hu
    simpa using hu
end
end Go.Proofs.YtafmpgikdhlknaaGreat

/- Contracts: copies, comparisons and sizes of lists of cells, as the laws make them; such an argument opened. -/
namespace Go.Proofs.YtafmpgikdhlknaaGreat
open Go.RowKit

/-- two cells more of a row -/
theorem set2_take (l : List Ce) (k : Nat) (h : k < l.length) :
    ((cellsV (l.take k) ++ List.replicate ((l.length - k) * 2) (Value.int .i64 0)).set (k * 2) (.int .i64 l[k].1)).set (k * 2 + 1) (.int .i64 l[k].2) = cellsV (l.take (k + 1)) ++ List.replicate ((l.length - (k + 1)) * 2) (Value.int .i64 0) := by
  have h1 : (cellsV (l.take k)).length = k * 2 := by rw [cellsV_len, List.length_take]; omega
  obtain ⟨m, hm⟩ : ∃ m, (l.length - k) * 2 = m + 1 + 1 := ⟨(l.length - k) * 2 - 2, by omega⟩
  have hm2 : (l.length - (k + 1)) * 2 = m := by omega
  rw [take_one_more l k h, cellsV_append, hm, hm2, List.replicate_succ, List.replicate_succ, List.set_append_right _ _ (by omega), h1, Nat.sub_self, List.set_cons_zero, List.set_append_right _ _ (by omega), h1,
    show k * 2 + 1 - k * 2 = 0 + 1 by omega, List.set_cons_succ, List.set_cons_zero, List.append_assoc]
  rfl
theorem zero_at (l : List Ce) (k : Nat) (h : k < l.length) :
    (cellsV (l.take k) ++ List.replicate ((l.length - k) * 2) (Value.int .i64 0))[k * 2]? = some (.int .i64 0) ∧ (cellsV (l.take k) ++ List.replicate ((l.length - k) * 2) (Value.int .i64 0))[k * 2 + 1]? = some (.int .i64 0) := by
  have h1 : (cellsV (l.take k)).length = k * 2 := by rw [cellsV_len, List.length_take]; omega
  rw [List.getElem?_append_right (by omega), List.getElem?_append_right (by omega), List.getElem?_replicate, List.getElem?_replicate, if_pos (by omega), if_pos (by omega)]
  exact ⟨rfl, rfl⟩
theorem made2 (n : Nat) : (madeCells #[Value.int .i64 0, .int .i64 0] (n * 2)).toList = cellsV [] ++ List.replicate (n * 2) (Value.int .i64 0) := by
  apply List.ext_getElem?
  intro j
  by_cases hj : j < n * 2
  · rcases Nat.mod_two_eq_zero_or_one j with h | h <;> simp [madeCells, hj, h, cellsV]
  · simp [madeCells, hj, cellsV]
end Go.Proofs.YtafmpgikdhlknaaGreat

/- Slices of cells that may be written: marks. -/
namespace Go.Proofs.YtafmpgikdhlknaaGreat
open Go.RowKit

theorem Wr.of_ownC {w : World} {lo : Nat} {e : TypeId} {A : Option Addr} {size n c : Nat} {xs : List Value} (h : w.ownsRow lo e size (.slice A n c) n xs) : Wr w lo e A xs := by
  refine ⟨fun ad ha => ?_, fun hne => ?_⟩
  · subst ha; exact (h.lt ad.block rfl).1
  have hl : xs.length = n * size := h.1
  rcases h.2 with ⟨_, h0⟩ | ⟨g, cap, cur, hv, hg, hh, _, _, _, ht⟩
  · subst h0; exact absurd (List.eq_nil_of_length_eq_zero (by simpa using hl)) hne
  · have hA : A = some ⟨g, 0, none⟩ := by injection hv
    exact ⟨g, cur, hA, hh, by rw [hl]; exact ht⟩
theorem set_grown (w : World) (g k : Nat) (u : Value) : w.grownBy (w.setCell ⟨g, k, none⟩ u) (some g) :=
  ⟨rfl, rfl, rfl, by simp [World.setCell], fun i _ hn => Below.heap_setCell _ _ _ _ (fun e => hn (by simp [e]))⟩
/-- a slice of cells that may be read -/
def NewRdC (ps : List Ce) (w : World) (e : Ending) (w' : World) : Prop :=
  ∃ (A : Option Addr) (c : Nat), e = .returned (.slice A ps.length c) ∧ RdC w' A ps ∧ Below w.heap.size w w' ∧ ∀ ad, A = some ad → w.heap.size ≤ ad.block
theorem own_ltS {w : World} {base e size n c : Nat} {A : Option Addr} {xs : List Value} (h : w.ownsRow base e size (.slice A n c) n xs) : ∀ ad, A = some ad → ad.block < w.heap.size := by
  rintro ad rfl; exact (h.lt ad.block rfl).2
end Go.Proofs.YtafmpgikdhlknaaGreat

/- Contracts: copies, comparisons, sizes and marks of lists of pushes, as the laws make them; such an argument opened. -/
namespace Go.Proofs.YtafmpgikdhlknaaGreat
open Go.RowKit

theorem Tryz.infoPu : (Tryz.prog.info? 38).map (fun i => (i.zero, i.size, i.bytes)) = some (some (.agg #[.int .i64 0, .bool false]), 2, 16) := by kernel_rfl
def OwnPu (w : World) (base : Nat) (v : Value) (ps : List Pu) : Prop :=
  ∃ (A : Option Addr) (c : Nat), v = .slice A ps.length c ∧ w.ownsRow base 38 2 v ps.length (pushV ps)
theorem OwnPu.belo {w w' : World} {base : Nat} {v : Value} {ps : List Pu} (h : OwnPu w base v ps) (hb : Below w.heap.size w w') : OwnPu w' base v ps := by
  obtain ⟨A, c, e, h⟩ := h; exact ⟨A, c, e, own_below h hb (Nat.le_refl _)⟩
theorem OwnPu.rd {w : World} {base n c : Nat} {A : Option Addr} {ps : List Pu} (h : OwnPu w base (.slice A n c) ps) : RdP w A ps := fun hne => by
  obtain ⟨A', c', e, h⟩ := h
  have hl := pushV_len ps
  have h0 : 0 < ps.length := by
    rcases Nat.eq_zero_or_pos ps.length with h0 | h0
    · exact absurd (List.eq_nil_of_length_eq_zero (by omega)) hne
    · exact h0
  obtain ⟨g, cap, hv, _, _⟩ := h.form h0
  have hA : A = some ⟨g, 0, none⟩ := by injection hv
  subst hA
  exact ⟨_, rfl, h.cells (g := g) rfl⟩
theorem pushV_set (xs ys : List Pu) (q u : Pu) : ((pushV (xs ++ q :: ys)).set (xs.length * 2) (.int .i64 u.1)).set (xs.length * 2 + 1) (.bool u.2) = pushV (xs ++ u :: ys) := by
  have h1 : (pushV xs).length = xs.length * 2 := pushV_len xs
  have e : ∀ q : Pu, pushV (q :: ys) = .int .i64 q.1 :: .bool q.2 :: pushV ys := fun q => rfl
  rw [pushV_append, pushV_append, e q, e u, List.set_append_right _ _ (by omega), h1, Nat.sub_self, List.set_cons_zero, List.set_append_right _ _ (by omega), h1, show xs.length * 2 + 1 - xs.length * 2 = 0 + 1 by omega, List.set_cons_succ, List.set_cons_zero]
theorem madeP (n : Nat) : (madeCells #[Value.int .i64 0, .bool false] (n * 2)).toList = pushV (List.replicate n (0, false)) := by
  apply List.ext_getElem?
  intro j
  by_cases hj : j < n * 2
  · have hk : j / 2 < (List.replicate n ((0, false) : Pu)).length := by simp; omega
    obtain ⟨g0, g1⟩ := pushV_get (List.replicate n ((0, false) : Pu)) (j / 2) hk
    rw [List.getElem_replicate] at g0 g1
    rcases Nat.mod_two_eq_zero_or_one j with h | h
    · rw [show j / 2 * 2 = j by omega] at g0
      rw [g0]
      simp [madeCells, hj, h]
    · rw [show j / 2 * 2 + 1 = j by omega] at g1
      rw [g1]
      simp [madeCells, hj, h]
  · have h2 : (pushV (List.replicate n ((0, false) : Pu)))[j]? = none := List.getElem?_eq_none (by rw [pushV_len]; simp; omega)
    rw [h2]
    simp [madeCells, hj]
end Go.Proofs.YtafmpgikdhlknaaGreat

/- Contracts: the draw of a list of pushes (l20Pushes). -/
namespace Go.Proofs.YtafmpgikdhlknaaGreat
open Go.RowKit

theorem OwnPu.grown {w w' : World} {base g : Nat} {v : Value} {ps : List Pu} (h : OwnPu w base v ps) (hg : w.grownBy w' (some g)) (hlt : g < base) : OwnPu w' base v ps := by
  obtain ⟨A, c, e, h⟩ := h
  refine ⟨A, c, e, h.kept hg ?_⟩
  rcases h.2 with ⟨h', _⟩ | ⟨g', cap', cur, h', hb, _⟩
  · left; rw [h']; rfl
  · right; rw [h']; intro e2; simp [Value.ownBlock] at e2; omega
theorem OwnPu.base {w : World} {b b' : Nat} {v : Value} {ps : List Pu} (h : OwnPu w b v ps) (hB : b' ≤ b) : OwnPu w b' v ps := by
  obtain ⟨A, c, e, h⟩ := h; exact ⟨A, c, e, own_base h hB⟩
section
variable {ops : Array Oper} {rest : List Oper} {o : Oper} {a : Act} {Q : Exit → Act → World → Prop}
/-- a push is appended -/
theorem app_push (w : World) (hgd : o.guard = none) (s x : Operand) (ho : o.op = .call { callee := .builtin .append, args := #[s, x], argTypes := #[26, 26] })
    (base : Nat) (v : Value) (ps : List Pu) (hs : a.eval s = v) (hown : OwnPu w base v ps) (q1 : Int) (q2 : Bool) (hx : a.eval x = .slice (some ⟨w.heap.size, 0, none⟩) 1 1) (hn : ps.length ≤ 1000000000000) (hbase : base ≤ w.heap.size)
    (h : ∀ (A' : Option Addr) (c' : Nat) (w' : World), OwnPu w' base (.slice A' (ps.length + 1) c') (ps ++ [(q1, q2)]) → Below base (w.alloc (.cells #[.int .i64 q1, .bool q2] 38)) w' → wpList Tryz.prog ops Q rest (a.put o.dst (.slice A' (ps.length + 1) c')) w') :
    wpList Tryz.prog ops Q (o :: rest) a (w.alloc (.cells #[.int .i64 q1, .bool q2] 38)) := by
  obtain ⟨i0, hi, hz0, hz1, hz2⟩ := info_parts Tryz.infoPu
  obtain ⟨A, c, e, hown⟩ := hown
  refine wpList_append_own _ hgd s x 26 ho base 38 i0 _ 2 16 Tryz.underlying26 hi hz0 hz1 hz2 rfl (by decide) v _ _ hs (hown.alloc _) ⟨w.heap.size, 0, none⟩ 1 1 [.int .i64 q1, .bool q2] hx rfl ?_ ?_ ?_ ?_ ?_ ?_
  · intro j y hj
    rw [add_off, Nat.zero_add, cell_of_row _ _ _ _ _ _ (heap_alloc_new w _)]
    simpa using hj
  · intro y hy; simp at hy; rcases hy with rfl | rfl <;> rfl
  · unfold maxLen; omega
  · omega
  · simp; omega
  · intro v' w' h1 h2 _
    have e1 : pushV ps ++ [.int .i64 q1, .bool q2] = pushV (ps ++ [(q1, q2)]) := by rw [pushV_append]; rfl
    rw [e1] at h1
    obtain ⟨g, cap, rfl, _, _⟩ := h1.form (by omega)
    refine h _ _ w' ⟨_, _, by simp; exact ⟨rfl, rfl⟩, ?_⟩ ?_
    · have e2 : (ps ++ [(q1, q2)]).length = ps.length + 1 := by simp
      rw [e2]; exact h1
    · exact (Below.refl base _).grown h2 (by simp; omega) (fun k hk => (hown.lt k hk).1)
end
theorem own_cap {w : World} {b n c : Nat} {t : TypeId} {sz : Nat} {A : Option Addr} {xs : List Value} (h : w.ownsRow b t sz (.slice A n c) n xs) : n ≤ c := by
  rcases h.2 with ⟨h1, h2⟩ | ⟨g, cap, cur, hv, h1, h2, h3, h4⟩
  · injection h1 with a b c; omega
  · injection hv with a b c; omega
/-- a list of pushes is handed back; the reader has gone on -/
def SomePu (g : Nat) (A : Option Addr) (c : Nat) (bytes : List Int) (m : Nat) (w : World) (e : Ending) (w' : World) : Prop :=
  ∃ (P : Option Addr) (k p' : Nat) (ps : List Pu), e = .returned (.slice P ps.length k) ∧ OwnPu w' w.heap.size (.slice P ps.length k) ps ∧ ps.length ≤ m ∧ ps.length ≤ k ∧ RdS w' g A c bytes p' ∧ w.grownBy w' (some g)
/-- the state of the loop -/
structure PuL (w : World) (g : Nat) (A : Option Addr) (c : Nat) (bytes : List Int) (W T : Int) (B : Option Addr) (bs : List Bool) (k q : Nat) (v : Value) (ps : List Pu) (wr : World) : Prop where
  own : OwnPu wr (w.heap.size + 1) v ps
  box : wr.heap[w.heap.size]? = some (.cells #[.int .i64 W, .int .i64 T, .slice B bs.length k] 25 (0, 0))
  pos : wr.heap[g]? = some (.cells #[.slice A bytes.length c, .int .i64 q] 79 (0, 0))
  gb : w.grownBy wr (some g)
  rd0 : Rd w B (bs.map .bool)
  rs0 : Rd w A (bytes.map (.int .u8)) ∧ (bytes ≠ [] → ∀ ad, A = some ad → ad.block ≠ g) ∧ bytes.length ≤ 2000 ∧ ∀ x ∈ bytes, 0 ≤ x ∧ x ≤ 255
  hg : g < w.heap.size
  hB : ∀ ad, B = some ad → g ≠ ad.block
section
variable {w wr w' : World} {g : Nat} {A : Option Addr} {c : Nat} {bytes : List Int} {W T : Int} {B : Option Addr} {bs : List Bool} {k q : Nat} {v : Value} {ps : List Pu}
theorem PuL.rd (h : PuL w g A c bytes W T B bs k q v ps wr) : Rd wr B (bs.map .bool) :=
  h.rd0.grownBelow h.gb (fun _ ad ha e => h.hB ad ha (by have e' : ad.block = g := (by simpa using e); exact e'.symm))
theorem PuL.rds (h : PuL w g A c bytes W T B bs k q v ps wr) : RdS wr g A c bytes q :=
  ⟨h.pos, h.rs0.1.grownBelow h.gb (fun hne ad ha e => h.rs0.2.1 (by simpa using hne) ad ha (by simpa using e)), h.rs0.2⟩
theorem PuL.pick (h : PuL w g A c bytes W T B bs k q v ps wr) {q' : Nat} (S : RdS w' g A c bytes q') (G : wr.grownBy w' (some g)) : PuL w g A c bytes W T B bs k q' v ps w' :=
  ⟨h.own.grown G (by have := h.hg; omega), (G.block _ (heap_lt h.box) (by have := h.hg; simp; omega)).trans h.box, S.1, grownBy_trans' h.gb G, h.rd0, h.rs0, h.hg, h.hB⟩
theorem PuL.below (h : PuL w g A c bytes W T B bs k q v ps wr) (hb : Below wr.heap.size wr w') : PuL w g A c bytes W T B bs k q v ps w' :=
  ⟨h.own.belo hb, (hb.block _ (heap_lt h.box)).trans h.box, (hb.block _ (heap_lt h.pos)).trans h.pos, gb_below h.gb hb, h.rd0, h.rs0, h.hg, h.hB⟩
theorem PuL.app (h : PuL w g A c bytes W T B bs k q v ps wr) {v' : Value} {qs : List Pu} (own : OwnPu w' (w.heap.size + 1) v' qs) (hb : Below (w.heap.size + 1) wr w') : PuL w g A c bytes W T B bs k q v' qs w' :=
  ⟨own, (hb.block _ (Nat.lt_succ_self _)).trans h.box, (hb.block _ (by have := h.hg; omega)).trans h.pos,
   ⟨hb.os.trans h.gb.os, hb.tape.trans h.gb.tape, hb.output.trans h.gb.output, Nat.le_trans h.gb.size hb.size, fun i hi hn => (hb.block i (by omega)).trans (h.gb.block i hi hn)⟩, h.rd0, h.rs0, h.hg, h.hB⟩
end
set_option maxRecDepth 100000 in
set_option maxHeartbeats 4000000 in
theorem pushes_any (W T : Int) (B : Option Addr) (bs : List Bool) (k : Nat) (n : Nat) (w : World) (g : Nat) (A : Option Addr) (c : Nat) (bytes : List Int) (p : Nat) (hr : Rd w B (bs.map .bool)) (hl : bs.length ≤ 37) (hBg : ∀ ad, B = some ad → g ≠ ad.block) (h : RdS w g A c bytes p) (hp : p ≤ 30000) (hn : n ≤ 1000) :
    Calls Tryz.prog 25 #[.pointer (some ⟨g, 0, none⟩), .agg #[.int .i64 W, .int .i64 T, .slice B bs.length k], .int .i64 n] w (SomePu g A c bytes n w) := by
  have hmx : bs.length ≤ maxLen := by unfold maxLen; omega
  have hg := heap_lt h.1
  have CC := Lib.hid (fun (z : World) (R : Rd z B (bs.map .bool)) => sCorners_any W T B k bs z R hmx)
  have hc49 : (if validB W T bs = true then ((ncN W T : Nat) : Int) else -1) ≤ 1000 := by
    split
    · rename_i hv
      obtain ⟨⟨w1, w6⟩, ⟨t1, t6⟩, hlen, -⟩ := validB_iff.1 hv
      have hf : FldF W T bs.length := ⟨w1, w6, t1, t6, hlen⟩
      have := nc_bd hf
      omega
    · omega
  generalize (if validB W T bs = true then ((ncN W T : Nat) : Int) else -1) = nc at CC hc49
  have L0 : PuL w g A c bytes W T B bs k p (.slice (some ⟨w.heap.size + 1, 0, none⟩) 0 0) [] ((w.alloc (.cells #[.int .i64 W, .int .i64 T, .slice B bs.length k] 25)).alloc (.cells #[] 38)) := by
    have b1 := bl_alloc (Below.refl w.heap.size w) (.cells #[.int .i64 W, .int .i64 T, .slice B bs.length k] 25)
    have b2 := bl_alloc b1 (.cells #[] 38)
    have hz : (w.alloc (.cells #[.int .i64 W, .int .i64 T, .slice B bs.length k] 25)).heap.size = w.heap.size + 1 := by simp
    have ow := World.ownsRow_lit (w.alloc (.cells #[.int .i64 W, .int .i64 T, .slice B bs.length k] 25)) (base := w.heap.size + 1) (e := 38) (size := 2) #[] 0 (by rw [hz]; exact Nat.le_refl _) (by unfold maxLen; omega) (by simp)
    rw [hz] at ow
    exact ⟨⟨_, _, rfl, ow⟩, ((bl_alloc (Below.refl _ _) (.cells #[] 38)).block _ (by rw [hz]; omega)).trans (heap_alloc_new w _), (b2.block g hg).trans h.1, gb_below (World.grownBy.refl _ _) b2, hr, h.2, hg, hBg⟩
  clear hr h hBg hl hmx
  go_enter Tryz.func25, Tryz.ntmps25
  go_wp2_with fail
  generalize (w.alloc (.cells #[.int .i64 W, .int .i64 T, .slice B bs.length k] 25)).alloc (.cells #[] 38) = w2 at *
  refine (pick_any _ _ g A c bytes p L0.rds (by omega) (by omega)).mono ?_
  rintro e w3 ⟨r, rfl, hr, S3, G3⟩
  have L3 := L0.pick S3 G3
  obtain ⟨m, rfl, hmn⟩ : ∃ m : Nat, r = (m : Int) ∧ m ≤ n := by
    unfold Below0 at hr
    exact ⟨r.toNat, by omega, by omega⟩
  clear hr L0 S3 G3
  go_wp2_with fail
  go_loopw [7, 8] (fun s i wr => ∃ (j q : Nat) (v : Value) (ps : List Pu), v = s ∧ i = .int .i64 (j : Int) ∧ Hid (ps.length + j ≤ n ∧ q ≤ 3 * ps.length + p + 1) ∧ PuL w g A c bytes W T B bs k q v ps wr) (fun _ i _ => (intOf i).toNat)
  case atStart => exact ⟨m, p + 1, _, [], rfl, rfl, Lib.hid (by simp; omega), L3⟩
  case round =>
    clear L3 hmn
    obtain ⟨j, q, v, ps, rfl, rfl, HJ, L3⟩ := hrel
    obtain ⟨w3, hw3⟩ : ∃ w3 : World, w3 = wr := ⟨_, rfl⟩
    subst hw3
    have hpl : ps.length ≤ 1000000000000 := by have := HJ.out; omega
    have hqb : q ≤ 40000 := by have := HJ.out; omega
    obtain ⟨P3, c3, rfl, -⟩ := id L3.own
    have hjb : j ≤ 1000 := by have := HJ.out; omega
    by_cases h0 : 0 < j
    · have h0I : (0 : Int) < (j : Int) := by omega
      obtain ⟨x0, x1, x2, -, -, -⟩ := blk3 L3.box
      go_wp2_with fail
      refine (CC.out _ L3.rd).mono ?_
      rintro e w4 ⟨rfl, b4⟩
      have L4 := L3.below b4
      clear x0 x1 x2 L3 b4
      go_wp2_with fail
      refine (pick_any _ _ g A c bytes q L4.rds (by omega) (by omega)).mono ?_
      rintro e w5 ⟨r5, rfl, -, S5, G5⟩
      have L5 := L4.pick S5 G5
      clear L4 S5 G5
      go_wp2_with fail
      refine (pick_any 200 _ g A c bytes (q + 1) L5.rds (by omega) (by omega)).mono ?_
      rintro e w6 ⟨r6, rfl, -, S6, G6⟩
      have L6 := L5.pick S6 G6
      clear L5 S6 G6
      go_wp2_with fail
      refine (pick_any 2 _ g A c bytes (q + 1 + 1) L6.rds (by omega) (by omega)).mono ?_
      rintro e w7 ⟨r7, rfl, -, S7, G7⟩
      have L7 := L6.pick S7 G7
      clear L6 S7 G7
      go_wp2_with (at_builtin; refine app_push _ rfl _ _ rfl (w.heap.size + 1) _ ps rfl L7.own _ _ rfl hpl (by have := heap_lt L7.box; omega) ?_; intro A8 c8 w8 O8 b8)
      go_roundw
      case rel =>
        have hb7 : w.heap.size + 1 ≤ w7.heap.size := by have := heap_lt L7.box; omega
        exact ⟨j - 1, q + 1 + 1 + 1, _, _, rfl, by go_num, Lib.hid (by rw [List.length_append, List.length_singleton]; have := HJ.out; omega), L7.app O8 ((Below.alloc (Below.refl (w.heap.size + 1) w7) hb7 _).trans b8)⟩
      case measure => simp [intOf]; omega
    · obtain rfl : j = 0 := by omega
      have hpn : ps.length ≤ n := by have := HJ.out; omega
      go_wp2_with fail
      go_ret
      obtain ⟨P9, c9, e9, ho⟩ := id L3.own
      injection e9 with e9 e9' e9''
      subst e9; subst e9''
      exact ⟨P3, c3, q, ps, rfl, L3.own.base (Nat.le_succ _), hpn, own_cap ho, L3.rds, L3.gb⟩
end Go.Proofs.YtafmpgikdhlknaaGreat

/- Contracts: the draws of a region and a list of pushes. Written by wip/gen_drawp.py. -/
namespace Go.Proofs.YtafmpgikdhlknaaGreat
open Go.RowKit

/-- a region and pushes -/
def DrawnPu (w : World) (e : Ending) (w' : World) : Prop :=
  ∃ (W T : Int) (bs : List Bool) (B : Option Addr) (k : Nat) (P : Option Addr) (m : Nat) (ps : List Pu), e = .returned (.tuple #[.agg #[.int .i64 W, .int .i64 T, .slice B bs.length k], .slice P ps.length m]) ∧ Rd w' B (bs.map .bool) ∧ bs.length ≤ 37 ∧ RdP w' P ps ∧ ps.length ≤ 60 ∧ ps.length ≤ m ∧ Below w.heap.size w w'
set_option maxRecDepth 100000 in
set_option maxHeartbeats 4000000 in
theorem drawDrawFromPast_any (A : Option Addr) (c : Nat) (bs : List Int) (w : World) (hr : Rd w A (bs.map (.int .u8))) (hw : ∀ x ∈ bs, 0 ≤ x ∧ x ≤ 255) (hn : bs.length ≤ 1048576) (hcap : bs.length ≤ c) :
    Calls Tryz.prog 5 #[.slice A bs.length c] w (DrawnPu w) := by
  have HW := Lib.hid hw
  clear hw
  have hr1 := hr.alloc (.cells #[.int .i64 0, .int .i64 0, .slice none 0 0] 25)
  have P0 : (w.alloc (.cells #[.int .i64 0, .int .i64 0, .slice none 0 0] 25)).heap[w.heap.size]? = some (.cells #[.int .i64 0, .int .i64 0, .slice none 0 0] 25 (0, 0)) := heap_alloc_new w _
  have Z0 := bl_alloc (Below.refl w.heap.size w) (.cells #[.int .i64 0, .int .i64 0, .slice none 0 0] 25)
  have hs0 : (w.alloc (.cells #[.int .i64 0, .int .i64 0, .slice none 0 0] 25)).heap.size = w.heap.size + 1 := by simp
  go_enter Tryz.func5, Tryz.ntmps5
  go_wp2_with fail
  generalize w.alloc (.cells #[.int .i64 0, .int .i64 0, .slice none 0 0] 25) = wa at *
  refine (open_any A c bs _ hr1 HW.out hn hcap).mono ?_
  rintro e w1 ⟨g, A1, c1, by1, rfl, O1⟩
  clear hr1 HW hn hcap hr
  go_wp2_with fail
  refine (plain_any 12 _ g A1 c1 by1 0 O1.1 (by omega) (by omega) (by omega)).mono ?_
  rintro e w2 ⟨W, T, xs, B, k, p2, rfl, R2, hl2, S2, hp2, G2, f2⟩
  have hg1 := O1.lt
  have hwa : w.heap.size < w1.heap.size := by have := O1.lt; have := O1.2.1; omega
  have hgw : w.heap.size < g := by have := O1.2.1; omega
  have O2 := (O1.pick S2 G2).belo (bl_alloc (Below.refl _ _) (.cells #[.int .i64 W, .int .i64 T, .slice B xs.length k] 25))
  have R2' := R2.alloc (.cells #[.int .i64 W, .int .i64 T, .slice B xs.length k] 25)
  have X2 : (w2.alloc (.cells #[.int .i64 W, .int .i64 T, .slice B xs.length k] 25)).heap[w2.heap.size]? = some (.cells #[.int .i64 W, .int .i64 T, .slice B xs.length k] 25 (0, 0)) := heap_alloc_new w2 _
  have hbw : w.heap.size < w2.heap.size := by have := G2.size; omega
  have hgb : g < w2.heap.size := by have := G2.size; omega
  have hfB : ∀ ad, B = some ad → w.heap.size < ad.block := fun ad ha => by have := f2 ad ha; omega
  have hBg : ∀ ad, B = some ad → g ≠ ad.block := fun ad ha => by have := f2 ad ha; omega
  clear S2 G2 O1 R2 f2
  go_upto_region 3 with fail
  generalize w2.alloc (.cells #[.int .i64 W, .int .i64 T, .slice B xs.length k] 25) = wd at *
  generalize w2.heap.size = bx at *
  have CP := Lib.hid (fun (z : World) (R : Rd z B (xs.map .bool)) (S : RdS z g A1 c1 by1 p2) => show Calls Tryz.prog 25 #[.pointer (some ⟨g, 0, none⟩), .agg #[.int .i64 W, .int .i64 T, .slice B xs.length k], .int .i64 40] z (SomePu g A1 c1 by1 40 z) from pushes_any W T B xs k 40 z g A1 c1 by1 p2 R hl2 hBg S (by omega) (by omega))
  have hB := O2.2.2
  have P2 := (hB.block w.heap.size (by omega)).trans P0
  have Zw := Z0.trans (hB.mono (show w.heap.size ≤ wa.heap.size by omega))
  obtain ⟨s0, s1, s2, g0, g1, g2⟩ := blk3 P2
  obtain ⟨x0, x1, x2, y0, y1, y2⟩ := blk3 X2
  have K := Lib.hid (fun (v : World) (i : Nat) (u : Value) (R : Rd v B (xs.map .bool)) => show Rd (v.setCell ⟨w.heap.size, i, none⟩ u) B (xs.map .bool) from R.grownBelow (set_grownP v ⟨w.heap.size, i, none⟩ u) (fun _ ad ha e => by have := hfB ad ha; have e' : ad.block = w.heap.size := (by simpa using e); omega))
  have hwd : w.heap.size < wd.heap.size := heap_lt P2
  have hgd : g < wd.heap.size := heap_lt O2.1.1
  have hbd : bx < wd.heap.size := heap_lt X2
  have CQ := Lib.hid (CP.out wd.drew R2' O2.1)
  have gb0 : wd.grownBy wd.drew (some g) := gb_drew (World.grownBy.refl _ _)
  go_region_law (
    go_simp
    go_at_call 25
    refine CQ.out.mono ?_
    rintro e w4 ⟨P, kp, p4, ps, rfl, own4, hpl, hpk, S4, G4⟩
    have G5 := grownBy_trans' gb0 G4
    have P4 := (G5.block w.heap.size hwd (by simp; omega)).trans P2
    have X4 := (G5.block bx hbd (by simp; omega)).trans X2
    have R4 := R2'.grownBelow G5 (fun _ ad ha e => hBg ad ha (by have e' : ad.block = g := (by simpa using e); exact e'.symm))
    have O4 := O2.pick S4 G5
    have own5 := own4.base (show w.heap.size + 1 ≤ wd.drew.heap.size from hwd)
    obtain ⟨s0, s1, s2, g0, g1, g2⟩ := blk3 P4
    obtain ⟨x0, x1, x2, y0, y1, y2⟩ := blk3 X4)
  all_goals (
    have hB4 := O4.2.2
    have R8 := K.out _ 2 (.slice B xs.length k) (K.out _ 1 (.int .i64 T) (K.out _ 0 (.int .i64 W) R4))
    have own8 := ((own5.grown (set_grownP w4 ⟨w.heap.size, 0, none⟩ (.int .i64 W)) (Nat.lt_succ_self _)).grown (set_grownP _ ⟨w.heap.size, 1, none⟩ (.int .i64 T)) (Nat.lt_succ_self _)).grown (set_grownP _ ⟨w.heap.size, 2, none⟩ (.slice B xs.length k)) (Nat.lt_succ_self _)
    have B8 := (((Z0.trans (hB4.mono (show w.heap.size ≤ wa.heap.size by omega))).setCell (p := ⟨w.heap.size, 0, none⟩) (Nat.le_refl _) (.int .i64 W)).setCell (p := ⟨w.heap.size, 1, none⟩) (Nat.le_refl _) (.int .i64 T)).setCell (p := ⟨w.heap.size, 2, none⟩) (Nat.le_refl _) (.slice B xs.length k)
    go_wp2
    refine bodyPost_ret (v := .tuple #[.agg #[.int .i64 W, .int .i64 T, .slice B xs.length k], .slice P ps.length kp]) (by simp [results, Tryz.results5, go_sem, s0, s1, s2]) rfl ?_
    exact ⟨W, T, xs, B, k, P, kp, ps, rfl, R8, hl2, own8.rd, by omega, hpk, B8⟩)
end Go.Proofs.YtafmpgikdhlknaaGreat

/- Contracts: dominoes on a region, in the program: lays, full, LaidOk, TilingOk. -/
namespace Go.Proofs.YtafmpgikdhlknaaGreat
open Go.RowKit

set_option maxRecDepth 100000 in
set_option maxHeartbeats 1000000 in
theorem lays_any (W T : Int) (A A' : Option Addr) (c c' : Nat) (bs : List Bool) (L : List Int) (w : World) (h1 : 1 ≤ W) (h2 : W ≤ 6) (h3 : 1 ≤ T) (h4 : T ≤ 6) (hl : (bs.length : Int) = W * T)
    (hr : Rd w A (bs.map .bool)) (hr' : Rd w A' (L.map (.int .i64))) (hn : L.length ≤ maxLen) :
    Calls Tryz.prog 79 #[.agg #[.int .i64 W, .int .i64 T, .slice A bs.length c], .slice A' L.length c'] w fun e w' => e = .returned (.bool (laysB W T bs L)) ∧ Below w.heap.size w w' := by
  have n36 := mul_bd h1 h2 h3 h4
  have hb36 : bs.length ≤ 36 := by omega
  unfold maxLen at hn
  have X0 := C3.new w (.int .i64 W) (.int .i64 T) (.slice A bs.length c) 25
  have B0 := bl_alloc (Below.refl w.heap.size w) (.cells #[.int .i64 W, .int .i64 T, .slice A bs.length c] 25)
  have HL := Lib.hid hl
  clear hl
  by_cases hll : L.length = bs.length
  · have hq : ((L.length : Int) != (bs.length : Int)) = false := by simp [hll]
    have HLL := Lib.hid hll
    have hn36 : L.length ≤ 36 := by omega
    clear hll
    go_enter Tryz.func79, Tryz.ntmps79
    go_wp2_with fail
    generalize w.alloc (.cells #[.int .i64 W, .int .i64 T, .slice A bs.length c] 25) = wq at *
    go_loopw [16] (fun i wr => ∃ k : Nat, k ≤ L.length ∧ i = .int .i64 k ∧ Hid (∀ j, j < k → laidAt W T bs L j = true) ∧ Below w.heap.size w wr ∧ C3 wr w.heap.size (.int .i64 W) (.int .i64 T) (.slice A bs.length c)) (fun i _ => L.length - (intOf i).toNat)
    case atStart => exact ⟨0, Nat.zero_le _, rfl, fun j h => by omega, B0, X0⟩
    case round =>
      clear B0 X0
      obtain ⟨k, hk, rfl, HK, B1, X1⟩ := hrel
      by_cases hlt : k < L.length
      · have hkb : k < bs.length := by have := HLL.out; omega
        have r1 := hr.belo B1
        have r2 := hr'.belo B1
        obtain ⟨b, off, rfl, ck⟩ := r2.atEM hlt
        obtain ⟨b', off', rfl, -⟩ := r1.atEM hkb
        have HD := Lib.hid (getD_in L 0 hlt)
        generalize L[k] = d at ck HD
        by_cases hd : d = 0
        · have HS := Lib.hid (laidAt_0 (W := W) (T := T) (bs := bs) (HD.out.trans hd))
          have hd1 : (d == 0) = true := by simpa using hd
          clear hd
          go_wp2_with fail
          go_roundw
          case rel =>
            refine ⟨k + 1, by omega, by go_num, fun j hj => ?_, B1, X1⟩
            rcases Nat.lt_or_ge j k with h | h
            · exact HK.out j h
            · obtain rfl : j = k := by omega
              exact HS.out
          case measure => simp [intOf]; omega
        · have HD0 := Lib.hid (show L.getD k 0 ≠ 0 by rw [HD.out]; exact hd)
          have hd1 : (d == 0) = false := by simpa using hd
          have kl : (k : Int) < W * T := by have := HL.out; omega
          have hsb := step_bd d h1 h2 h3 h4 (show 0 ≤ (k : Int) by omega) kl
          have HKL := Lib.hid kl
          clear hd kl
          obtain ⟨x0, x1, x2⟩ := id X1
          go_wp2_with fail
          refine (step_any W T _ k d _ h1 h2 h3 h4 (by omega) HKL.out).mono ?_
          rintro e w2 ⟨rfl, b2⟩
          have B2 := bl_go B1 b2
          have X2 := X1.belo b2
          have r3 := r1.belo b2
          have r4 := r2.belo b2
          clear x0 x1 x2 ck X1 r1 r2 B1 b2
          obtain ⟨x0, x1, x2⟩ := id X2
          obtain ⟨t, ht⟩ : ∃ t, stepZ W T k d = t := ⟨_, rfl⟩
          have HT := Lib.hid ht
          rw [ht] at hsb ⊢
          clear ht
          rcases hsb with rfl | ⟨s0, s1⟩
          · have HF := Lib.hid (laysB_f k hlt (laidAt_out (bs := bs) HD0.out (by rw [HD.out, HT.out]; omega)))
            go_wp2_with fail
            go_quiet (fail)
            go_wp2
            go_ret
            exact ⟨ret_b HF.out.symm, below_drewN' B2 _⟩
          · obtain ⟨t, rfl⟩ := Int.eq_ofNat_of_zero_le s0
            have htb : t < bs.length := by have := HL.out; omega
            have htl : t < L.length := by have := HLL.out; omega
            have hdir := step_dir (W := W) (T := T) (c := k) (d := d) (by rw [HT.out]; omega)
            have HS := Lib.hid (laidAt_in (bs := bs) HD0.out (show stepZ W T k (L.getD k 0) = (t : Int) by rw [HD.out, HT.out]))
            have HBK := Lib.hid (fun z => iback_any d z (by omega) (by omega))
            have ck := r3.cellEM hkb
            have ct := r3.cellEM htb
            have lt := r4.cellEM htl
            have HG1 := Lib.hid (getD_in bs false hkb)
            have HG2 := Lib.hid (getD_in bs false htb)
            have HG3 := Lib.hid (getD_in L 0 htl)
            generalize bs[k] = bk at ck HG1
            generalize bs[t] = bt at ct HG2
            generalize L[t] = lv at lt HG3
            have I0 : (0 : Int) ≤ (k : Int) := by omega
            have I1 : (k : Int) < (bs.length : Int) := by omega
            have I2 : (0 : Int) ≤ (t : Int) := by omega
            have I3 : (t : Int) < (bs.length : Int) := by omega
            have I4 : (t : Int) < (L.length : Int) := by omega
            have hneg : decide ((t : Int) < 0) = false := by simp
            clear s0 s1 hdir
            cases bk with
            | false =>
              have HF := Lib.hid (laysB_f k hlt (by rw [HS.out, HG1.out]; rfl))
              go_wp2_with fail
              go_quiet (fail)
              go_wp2
              go_ret
              exact ⟨ret_b HF.out.symm, below_drewN' B2 _⟩
            | true =>
              cases bt with
              | false =>
                have HF := Lib.hid (laysB_f k hlt (by rw [HS.out, HG1.out, HG2.out]; rfl))
                go_wp2_with fail
                go_quiet (fail)
                go_wp2
                go_ret
                exact ⟨ret_b HF.out.symm, below_drewN' B2 _⟩
              | true =>
                by_cases hv : lv = backZ d
                · have HF := Lib.hid (show laidAt W T bs L k = true by rw [HS.out, HG1.out, HG2.out, HG3.out, HD.out, decide_eq_true hv]; rfl)
                  have hv1 : (lv != backZ d) = false := by simp [hv]
                  clear hv
                  go_wp2_with fail
                  go_quiet ((go_at_call 113; with_reducible exact quietL (HBK.out _)))
                  clear hneg
                  go_wp2
                  go_roundw
                  case rel =>
                    refine ⟨k + 1, by omega, by go_num, fun j hj => ?_, below_drewN' B2 _, X2⟩
                    rcases Nat.lt_or_ge j k with h | h
                    · exact HK.out j h
                    · obtain rfl : j = k := by omega
                      exact HF.out
                  case measure => simp [intOf]; omega
                · have HF := Lib.hid (laysB_f k hlt (by rw [HS.out, HG1.out, HG2.out, HG3.out, HD.out, decide_eq_false hv]; rfl))
                  have hv1 : (lv != backZ d) = true := by simpa using hv
                  clear hv
                  go_wp2_with fail
                  go_quiet ((go_at_call 113; with_reducible exact quietL (HBK.out _)))
                  clear hneg
                  go_wp2
                  go_ret
                  exact ⟨ret_b HF.out.symm, below_drewN' B2 _⟩
      · have HF := Lib.hid (laysB_t (W := W) (T := T) HLL.out (fun j hj => HK.out j (by omega)))
        go_wp2
        go_ret
        exact ⟨ret_b HF.out.symm, B1⟩
  · have HF := Lib.hid (laysB_len (W := W) (T := T) hll)
    have hq : ((L.length : Int) != (bs.length : Int)) = true := by simp; omega
    clear hll
    go_enter Tryz.func79, Tryz.ntmps79
    go_wp2
    go_ret
    exact ⟨ret_b HF.out.symm, B0⟩
set_option maxRecDepth 100000 in
set_option maxHeartbeats 1000000 in
theorem full_any (W T : Int) (A A' : Option Addr) (c c' : Nat) (bs : List Bool) (L : List Int) (w : World) (hl : L.length = bs.length) (hr : Rd w A (bs.map .bool)) (hr' : Rd w A' (L.map (.int .i64))) (hn : bs.length ≤ maxLen) :
    Calls Tryz.prog 55 #[.agg #[.int .i64 W, .int .i64 T, .slice A bs.length c], .slice A' L.length c'] w fun e w' => e = .returned (.bool (fullB bs L)) ∧ Below w.heap.size w w' := by
  unfold maxLen at hn
  have B0 := bl_alloc (Below.refl w.heap.size w) (.cells #[.int .i64 W, .int .i64 T, .slice A bs.length c] 25)
  have r1 := hr.belo B0
  have r2 := hr'.belo B0
  have HL := Lib.hid hl
  have hln : L.length ≤ 9223372036854775807 := by omega
  have hle : bs.length ≤ L.length := by omega
  clear hl hr hr'
  go_enter Tryz.func55, Tryz.ntmps55
  go_wp2_with fail
  generalize w.alloc (.cells #[.int .i64 W, .int .i64 T, .slice A bs.length c] 25) = wq at *
  go_loop [10] (fun i => ∃ k : Nat, k ≤ bs.length ∧ i = .int .i64 k ∧ Hid (∀ j, j < k → (bs.getD j false && decide (L.getD j 0 = 0)) = false)) (fun i => bs.length - (intOf i).toNat)
  case atStart => exact ⟨0, Nat.zero_le _, rfl, fun j h => by omega⟩
  case round =>
    obtain ⟨k, hk, rfl, HK⟩ := hrel
    by_cases hlt : k < bs.length
    · have hkl : k < L.length := by omega
      obtain ⟨b, off, rfl, ck⟩ := r1.atEM hlt
      obtain ⟨b', off', rfl, lk⟩ := r2.atEM hkl
      have HG1 := Lib.hid (getD_in bs false hlt)
      have HG2 := Lib.hid (getD_in L 0 hkl)
      generalize bs[k] = bk at ck HG1
      generalize L[k] = lv at lk HG2
      cases bk with
      | false =>
        have HF := Lib.hid (show (bs.getD k false && decide (L.getD k 0 = 0)) = false by rw [HG1.out]; rfl)
        go_wp2
        go_round
        case rel =>
          refine ⟨k + 1, by omega, by go_num, fun j hj => ?_⟩
          rcases Nat.lt_or_ge j k with h | h
          · exact HK.out j h
          · obtain rfl : j = k := by omega
            exact HF.out
        case measure => simp [intOf]; omega
      | true =>
        by_cases hv : lv = 0
        · have HF := Lib.hid (fullB_f k hlt (show (bs.getD k false && decide (L.getD k 0 = 0)) = true by rw [HG1.out, HG2.out, decide_eq_true hv]; rfl))
          have hv1 : (lv == 0) = true := by simpa using hv
          clear hv
          go_wp2
          go_ret
          exact ⟨ret_b HF.out.symm, B0⟩
        · have HF := Lib.hid (show (bs.getD k false && decide (L.getD k 0 = 0)) = false by rw [HG1.out, HG2.out, decide_eq_false hv]; rfl)
          have hv1 : (lv == 0) = false := by simpa using hv
          clear hv
          go_wp2
          go_round
          case rel =>
            refine ⟨k + 1, by omega, by go_num, fun j hj => ?_⟩
            rcases Nat.lt_or_ge j k with h | h
            · exact HK.out j h
            · obtain rfl : j = k := by omega
              exact HF.out
          case measure => simp [intOf]; omega
    · have HF := Lib.hid (fullB_t (bs := bs) (L := L) (fun j hj => HK.out j (by omega)))
      go_wp2
      go_ret
      exact ⟨ret_b HF.out.symm, B0⟩
set_option maxRecDepth 100000 in
set_option maxHeartbeats 1000000 in
theorem iLaidOk_any (W T : Int) (A A' : Option Addr) (c c' : Nat) (bs : List Bool) (L : List Int) (w : World) (hr : Rd w A (bs.map .bool)) (hr' : Rd w A' (L.map (.int .i64))) (hb : bs.length ≤ maxLen) (hn : L.length ≤ maxLen) :
    Calls Tryz.prog 54 #[.agg #[.int .i64 W, .int .i64 T, .slice A bs.length c], .slice A' L.length c'] w fun e w' => e = .returned (.bool (laidOkB W T bs L)) ∧ Below w.heap.size w w' := by
  have X0 := C3.new w (.int .i64 W) (.int .i64 T) (.slice A bs.length c) 25
  cases hv : validB W T bs with
  | true =>
    obtain ⟨h1, h2, h3, h4, h5, h6⟩ := valid_len hv
    have HF := Lib.hid (show laidOkB W T bs L = laysB W T bs L by unfold laidOkB; rw [hv]; rfl)
    have H6 := Lib.hid h6
    clear h6
    go_enter Tryz.func54, Tryz.ntmps54
    go_wp2_with fail
    refine (iRegionValid_any _ _ _ _ _ _ (hr.alloc _) hb).mono ?_
    rintro e w1 ⟨rfl, b1⟩
    rw [hv]
    have B1 := bl_go (bl_alloc (Below.refl w.heap.size w) _) b1
    obtain ⟨x0, x1, x2⟩ := X0.belo b1
    go_wp2_with fail
    refine (lays_any W T A A' c c' bs L _ h1 h2 h3 h4 H6.out (hr.belo B1) (hr'.belo B1) hn).mono ?_
    rintro e w2 ⟨rfl, b2⟩
    go_wp2
    go_ret
    exact ⟨ret_b HF.out.symm, bl_go B1 b2⟩
  | false =>
    have HF := Lib.hid (show laidOkB W T bs L = false by unfold laidOkB; rw [hv]; rfl)
    go_enter Tryz.func54, Tryz.ntmps54
    go_wp2_with fail
    refine (iRegionValid_any _ _ _ _ _ _ (hr.alloc _) hb).mono ?_
    rintro e w1 ⟨rfl, b1⟩
    rw [hv]
    have B1 := bl_go (bl_alloc (Below.refl w.heap.size w) _) b1
    go_wp2
    go_ret
    exact ⟨ret_b HF.out.symm, B1⟩
set_option maxRecDepth 100000 in
set_option maxHeartbeats 1000000 in
theorem iTilingOk_any (W T : Int) (A A' : Option Addr) (c c' : Nat) (bs : List Bool) (L : List Int) (w : World) (hr : Rd w A (bs.map .bool)) (hr' : Rd w A' (L.map (.int .i64))) (hb : bs.length ≤ maxLen) (hn : L.length ≤ maxLen) :
    Calls Tryz.prog 21 #[.agg #[.int .i64 W, .int .i64 T, .slice A bs.length c], .slice A' L.length c'] w fun e w' => e = .returned (.bool (tilingB W T bs L)) ∧ Below w.heap.size w w' := by
  have X0 := C3.new w (.int .i64 W) (.int .i64 T) (.slice A bs.length c) 25
  cases hv : laidOkB W T bs L with
  | true =>
    have hlen : L.length = bs.length := by
      unfold laidOkB at hv
      cases h : laysB W T bs L with
      | true => unfold laysB at h; simp at h; exact h.1
      | false => rw [h] at hv; simp at hv
    have HF := Lib.hid (show tilingB W T bs L = fullB bs L by unfold tilingB; rw [hv]; rfl)
    have HLN := Lib.hid hlen
    clear hlen
    go_enter Tryz.func21, Tryz.ntmps21
    go_wp2_with fail
    refine (iLaidOk_any _ _ _ _ _ _ _ _ _ (hr.alloc _) (hr'.alloc _) hb hn).mono ?_
    rintro e w1 ⟨rfl, b1⟩
    rw [hv]
    have B1 := bl_go (bl_alloc (Below.refl w.heap.size w) _) b1
    obtain ⟨x0, x1, x2⟩ := X0.belo b1
    go_wp2_with fail
    refine (full_any W T A A' c c' bs L _ HLN.out (hr.belo B1) (hr'.belo B1) hb).mono ?_
    rintro e w2 ⟨rfl, b2⟩
    go_wp2
    go_ret
    exact ⟨ret_b HF.out.symm, bl_go B1 b2⟩
  | false =>
    have HF := Lib.hid (show tilingB W T bs L = false by unfold tilingB; rw [hv]; rfl)
    go_enter Tryz.func21, Tryz.ntmps21
    go_wp2_with fail
    refine (iLaidOk_any _ _ _ _ _ _ _ _ _ (hr.alloc _) (hr'.alloc _) hb hn).mono ?_
    rintro e w1 ⟨rfl, b1⟩
    rw [hv]
    have B1 := bl_go (bl_alloc (Below.refl w.heap.size w) _) b1
    go_wp2
    go_ret
    exact ⟨ret_b HF.out.symm, B1⟩
end Go.Proofs.YtafmpgikdhlknaaGreat

/- Contracts: the program's first tiling. -/
namespace Go.Proofs.YtafmpgikdhlknaaGreat
open Go.RowKit

/-- a box that a search fills -/
structure FiSt (w0 : World) (bO : Nat) (v : Value) (w : World) : Prop where
  ok : Below w0.heap.size w0 w
  out : w.heap[bO]? = some (.cells #[v] 29 (0, 0))
  lo : w0.heap.size ≤ bO
/-- all but the box is as it was -/
structure FrmB (bO : Nat) (w w' : World) : Prop where
  size : w.heap.size ≤ w'.heap.size
  block : ∀ b, b < w.heap.size → b ≠ bO → w'.heap[b]? = w.heap[b]?
theorem FrmB.refl (bO : Nat) (w : World) : FrmB bO w w := ⟨Nat.le_refl _, fun _ _ _ => rfl⟩
theorem FrmB.trans {bO : Nat} {w w1 w2 : World} (h : FrmB bO w w1) (k : FrmB bO w1 w2) : FrmB bO w w2 :=
  ⟨Nat.le_trans h.size k.size, fun b h1 h2 => (k.block b (Nat.lt_of_lt_of_le h1 h.size) h2).trans (h.block b h1 h2)⟩
theorem FrmB.of {bO : Nat} {w w1 : World} (h : Below w.heap.size w w1) : FrmB bO w w1 := ⟨h.size, fun b h1 _ => h.block b h1⟩
theorem FrmB.cell {bO : Nat} {w w' : World} (h : FrmB bO w w') {p : Addr} {u : Value} (hc : w.cell? p = some u) (h1 : p.block ≠ bO) : w'.cell? p = some u := by
  rw [World.cell?_of_block (h.block p.block (World.block_lt_of_cell? w _ hc) h1)]; exact hc
theorem FiSt.belo {w0 w w' : World} {bO : Nat} {v : Value} (h : FiSt w0 bO v w) (hb : Below w.heap.size w w') : FiSt w0 bO v w' :=
  ⟨bl_trans h.ok hb h.ok.size, (hb.block bO (hlt_E h.out)).trans h.out, h.lo⟩
theorem FiSt.box {w0 w : World} {bO : Nat} {v : Value} (h : FiSt w0 bO v w) : w.cell? ⟨bO, 0, none⟩ = some v ∧ w.frozen? ⟨bO, 0, none⟩ = false :=
  ⟨cell_of_row _ _ _ _ _ _ h.out, frozen_of_row _ _ _ _ _ h.out⟩
theorem rd_keepF {w w' : World} {A : Option Addr} {xs : List Value} (h : Rd w A xs) (hb : ∀ ad, A = some ad → w'.heap[ad.block]? = w.heap[ad.block]?) : Rd w' A xs := fun hne => by
  obtain ⟨ad, e, hc⟩ := h hne
  refine ⟨ad, e, fun j u hu => ?_⟩
  have hcj := hc j u hu
  have hz : (ad.add j).block = ad.block := blk_add ad j
  rw [World.cell?_of_block (show w'.heap[(ad.add j).block]? = w.heap[(ad.add j).block]? by rw [hz]; exact hb ad e)]
  exact hcj
/-- the search found one of these, or there is none -/
def FiRes (w0 : World) (bO n : Nat) (R : List (List Int)) (w : World) (e : Ending) (w' : World) : Prop :=
  ∃ r : Bool, e = .returned (.bool r) ∧ FrmB bO w w' ∧ Hid (r = true → R = [] ∧ Below w.heap.size w w') ∧
    Hid (r = false → ∃ (ad : Addr) (d : Nat) (M : List Int), M ∈ R ∧ n ≤ d ∧ FiSt w0 bO (.slice (some ad) n d) w' ∧ Rd w' (some ad) (M.map (.int .i64)))
set_option maxRecDepth 100000 in
set_option maxHeartbeats 1000000 in
theorem fcall_any {w0 : World} {bO n d : Nat} {v : Value} {L : List Int} {ad : Addr} (w : World) (S : FiSt w0 bO v w) (hd : Rd w (some ad) (L.map (.int .i64))) (hnd : n ≤ d) (h1 : ad.block ≠ bO) :
    Calls Tryz.prog 78 #[.slice (some ad) n d, .pointer (some ⟨bO, 0, none⟩)] w (FiRes w0 bO n [L] w) := by
  obtain ⟨xo, fo⟩ := S.box
  have HT := Lib.hid (show FiRes w0 bO n [L] w (.returned (.bool false)) (w.setCell ⟨bO, 0, none⟩ (.slice (some ad) n d)) from
    ⟨false, rfl, ⟨by simp [World.setCell], fun b _ hb => Below.heap_setCell _ _ _ _ hb⟩, Lib.hid (fun h => by cases h), Lib.hid (fun _ => ⟨ad, d, L, by simp, hnd, ⟨S.ok.setCell S.lo _, heap_setCell_same _ _ 0 _ _ _ S.out, S.lo⟩,
      rd_keepF hd (fun ad' e => by injection e with e; subst e; exact Below.heap_setCell _ _ _ _ h1)⟩)⟩)
  clear S hd
  go_enter Tryz.func78, Tryz.ntmps78
  go_wp2_with fail
  go_ret
  exact HT.out
def FiOk (W T : Int) (n c : Nat) (bs : List Bool) (A : Option Addr) (w0 : World) (bO m : Nat) : Prop :=
  ∀ (w : World) (L : List Int) (v : Value) (ad : Addr) (d : Nat), FiSt w0 bO v w → Rd w (some ad) (L.map (.int .i64)) → L.length = n → n ≤ d → cnt (emF bs L) ≤ m → ad.block ≠ bO →
    Calls Tryz.prog 76 #[.agg #[.int .i64 W, .int .i64 T, .slice A n c], .slice (some ad) n d, .func (.func 78) #[] #[.pointer (some ⟨bO, 0, none⟩)]] w (FiRes w0 bO n (tlsF W T bs m L) w)
theorem fi_true {w0 w w' : World} {bO n : Nat} {R : List (List Int)} (h : R = []) (hb : Below w.heap.size w w') : FiRes w0 bO n R w (.returned (.bool true)) w' :=
  ⟨true, rfl, .of hb, Lib.hid (fun _ => ⟨h, hb⟩), Lib.hid (fun h => by cases h)⟩
theorem fi_pass {w0 w w' : World} {bO n : Nat} {R R' : List (List Int)} {r : Bool} (hs : ∀ M, M ∈ R' → M ∈ R) (h1 : FrmB bO w w') (h2 : Hid (r = false → ∃ (ad : Addr) (d : Nat) (M : List Int), M ∈ R' ∧ n ≤ d ∧ FiSt w0 bO (.slice (some ad) n d) w' ∧ Rd w' (some ad) (M.map (.int .i64)))) (h : r = false) : FiRes w0 bO n R w (.returned (.bool false)) w' := by
  obtain ⟨ad, d, M, hM, a, b, c⟩ := h2.out h
  exact ⟨false, rfl, h1, Lib.hid (fun h => by cases h), Lib.hid (fun _ => ⟨ad, d, M, hs M hM, a, b, c⟩)⟩
set_option maxRecDepth 100000 in
set_option maxHeartbeats 4000000 in
theorem fi_step {W T : Int} {n c : Nat} {bs : List Bool} {A : Option Addr} {w0 : World} {bO m : Nat} (hr0 : Rd w0 A (bs.map .bool)) (hf : FldF W T n) (hn : bs.length = n) (IH : ∀ m', m = m' + 1 → FiOk W T n c bs A w0 bO m') : FiOk W T n c bs A w0 bO m := by
  intro w L v ad d S hd hl hnd hm h1
  have n36 : n ≤ 36 := hf.bd
  obtain ⟨w1, w6, t1, t6, hlen⟩ := id hf
  have hfg : FldG W T bs.length := ⟨w1, t1, by rw [hn]; exact hlen⟩
  have HF := Lib.hid hf
  have HFG := Lib.hid hfg
  have HIH := Lib.hid IH
  have HN := Lib.hid hn
  have HL := Lib.hid hl
  have HM := Lib.hid hm
  have hbx : w.heap.size ≠ bO := by have := hlt_E S.out; omega
  have b0 := bl_alloc (Below.refl w.heap.size w) (.cells #[.int .i64 W, .int .i64 T, .slice A n c] 25)
  have X0 := C3.new w (.int .i64 W) (.int .i64 T) (.slice A n c) 25
  have S0 := S.belo b0
  have D0 := hd.belo b0
  have F0 : FrmB bO w (w.alloc (.cells #[.int .i64 W, .int .i64 T, .slice A n c] 25)) := .of b0
  have HB0 := Lib.hid (fun (z : World) (hz : Below (w.alloc (.cells #[.int .i64 W, .int .i64 T, .slice A n c] 25)).heap.size (w.alloc (.cells #[.int .i64 W, .int .i64 T, .slice A n c] 25)) z) => show Below w.heap.size w z from bl_go b0 hz)
  obtain ⟨x0, x1, x2⟩ := id X0
  have hR0 := hr0.below S0.ok (Nat.le_refl _)
  clear hfg hlen hf IH hn hm hl b0 S hd
  go_enter Tryz.func76, Tryz.ntmps76
  go_wp2_with fail
  generalize hwb : w.alloc (.cells #[.int .i64 W, .int .i64 T, .slice A n c] 25) = wb at *
  obtain ⟨bx, hbxe⟩ : ∃ bx, w.heap.size = bx := ⟨_, rfl⟩
  rw [hbxe] at X0 hbx x0 x1 x2
  simp only [hbxe]
  clear hwb
  go_loop [7] (fun i => ∃ k : Nat, k ≤ n ∧ i = .int .i64 k ∧ Hid (∀ j, j < k → emK bs L j = false)) (fun i => n - (intOf i).toNat)
  case atStart => exact ⟨0, Nat.zero_le _, rfl, Lib.hid (fun j h => absurd h (Nat.not_lt_zero _))⟩
  case round =>
    obtain ⟨k, hk, rfl, HK⟩ := hrel
    by_cases hlt : k < n
    · have hkb : k < bs.length := by rw [HN.out]; exact hlt
      have hkl : k < L.length := by rw [HL.out]; exact hlt
      obtain ⟨ab, rfl, c1⟩ := hR0.atM hkb
      have c2 := D0.atM hkl
      obtain ⟨ad', e', c2⟩ := c2
      injection e' with e'
      subst e'
      have HE := Lib.hid (show emK bs L k = (bs[k] && decide (L[k] = 0)) by unfold emK; rw [getD_at _ _ hkb, getD_at _ _ hkl])
      generalize bs[k] = p1 at *
      generalize L[k] = l1 at *
      have hkI : (k : Int) < (n : Int) := by omega
      cases p1 with
      | false =>
        have HF0 := Lib.hid (show emK bs L k = false by rw [HE.out]; rfl)
        go_wp2_with fail
        go_round
        case rel => exact ⟨k + 1, by omega, by go_num, Lib.hid (fun j hj => by
            rcases Nat.lt_or_ge j k with h | h
            · exact HK.out j h
            · obtain rfl : j = k := by omega
              exact HF0.out)⟩
        case measure => simp [intOf]; omega
      | true =>
        by_cases hl0 : l1 = 0
        · subst hl0
          have hem : emK bs L k = true := by rw [HE.out]; rfl
          have hfs : fsL bs L = k := fsL_eq (by omega) HK.out (fun _ => hem)
          have hpos := em_pos hem
          obtain ⟨m', rfl⟩ : ∃ m', m = m' + 1 := ⟨m - 1, by have := HM.out; omega⟩
          have HBR := Lib.hid (tls_branch (W := W) (T := T) (f := m') hfs hkb)
          have HI := Lib.hid (HIH.out m' rfl)
          have HEM := Lib.hid (fun (q : Int) (hq : 1 ≤ q ∧ q ≤ 4) (hm : mayL W T bs L k q = true) => em_lt HFG.out (by rw [HL.out, HN.out]) hq hm)
          have hkn : ((k : Int) == (n : Int)) = false := by rw [beq_eq_false_iff_ne]; omega
          clear hem hpos hfs
          have b1 := bl_alloc (Below.refl wb.heap.size wb) (.cells #[.int .i64 1, .int .i64 2] 3)
          have S1 := S0.belo b1
          have D1 := D0.belo b1
          have HB1 := Lib.hid (fun (z : World) (hz : Below (wb.alloc (.cells #[.int .i64 1, .int .i64 2] 3)).heap.size (wb.alloc (.cells #[.int .i64 1, .int .i64 2] 3)) z) => show Below w.heap.size w z from HB0.out z (bl_go b1 hz))
          have X1 := X0.belo b1
          have w0c : (wb.alloc (.cells #[.int .i64 1, .int .i64 2] 3)).cell? ⟨wb.heap.size, 0, none⟩ = some (.int .i64 1) := cell_of_row _ _ _ _ _ _ (heap_alloc_new wb _)
          have w1c : (wb.alloc (.cells #[.int .i64 1, .int .i64 2] 3)).cell? ⟨wb.heap.size, 1, none⟩ = some (.int .i64 2) := cell_of_row _ _ _ _ _ _ (heap_alloc_new wb _)
          go_wp2_with fail
          obtain ⟨bw, hbwe⟩ : ∃ bw, wb.heap.size = bw := ⟨_, rfl⟩
          rw [hbwe] at w0c w1c
          generalize wb.alloc (.cells #[.int .i64 1, .int .i64 2] 3) = ww at *
          simp only [hbwe]
          go_loopw [40] (fun i wr => ∃ (j : Nat), j ≤ 2 ∧ i = .int .i64 j ∧ Hid ((1 ≤ j → brE W T bs m' L k 1 = []) ∧ (2 ≤ j → brE W T bs m' L k 2 = [])) ∧ Below ww.heap.size ww wr) (fun i _ => 2 - (intOf i).toNat)
          case atStart => exact ⟨0, by omega, rfl, Lib.hid ⟨fun h => by omega, fun h => by omega⟩, Below.refl _ _⟩
          case round =>
            obtain ⟨j, hj, rfl, HR, BR⟩ := hrel
            by_cases hltj : j < 2
            · have S2 := S1.belo BR
              have hC : C3 wr bx (.int .i64 W) (.int .i64 T) (.slice (some ab) n c) := X1.belo BR
              have D2 := D1.belo BR
              have R2 := hr0.below S2.ok (Nat.le_refl _)
              have hq : 1 ≤ (j : Int) + 1 ∧ (j : Int) + 1 ≤ 4 := by omega
              have cq : wr.cell? ⟨bw, j, none⟩ = some (.int .i64 ((j : Int) + 1)) := by
                rcases (by omega : j = 0 ∨ j = 1) with rfl | rfl
                · exact (BR.cell (World.block_lt_of_cell? ww _ w0c)).trans w0c
                · exact (BR.cell (World.block_lt_of_cell? ww _ w1c)).trans w1c
              have HRN := Lib.hid (show brE W T bs m' L k ((j : Int) + 1) = [] → ((1 ≤ j + 1 → brE W T bs m' L k 1 = []) ∧ (2 ≤ j + 1 → brE W T bs m' L k 2 = [])) from fun e => by
                refine ⟨fun _ => ?_, fun h => ?_⟩
                · rcases (by omega : j = 0 ∨ j = 1) with rfl | rfl
                  · exact e
                  · exact HR.out.1 (by omega)
                · obtain rfl : j = 1 := by omega
                  exact e)
              have CF := Lib.hid (fun (z : World) (Z : Below wr.heap.size wr z) => free_any W T (some ab) (some ad) c d n bs L k ((j : Int) + 1) z (R2.belo Z) (D2.belo Z) HF.out HN.out HL.out hlt hq)
              have hjI : (j : Int) < 2 := by omega
              cases hmay : mayL W T bs L k ((j : Int) + 1) with
              | false =>
                have HB0 := Lib.hid (show brE W T bs m' L k ((j : Int) + 1) = [] by unfold brE; rw [hmay]; simp)
                rw [hmay] at CF
                have hlx := hC.lt
                obtain ⟨y0, y1, y2⟩ := id hC
                have L0 : ∀ z : BW wr, z.wo.cell? ⟨bx, 0, none⟩ = some (.int .i64 W) := fun z => z.cell hlx y0
                have L1 : ∀ z : BW wr, z.wo.cell? ⟨bx, 1, none⟩ = some (.int .i64 T) := fun z => z.cell hlx y1
                have L2 : ∀ z : BW wr, z.wo.cell? ⟨bx, 2, none⟩ = some (.slice (some ab) n c) := fun z => z.cell hlx y2
                clear hmay x0 x1 x2 w0c w1c
                go_upto_region 9 with fail
                clear cq y0 y1 y2
                (refine region_bw (by kernel_rfl) (by kernel_rfl) ?_; (repeat (first | go_big_quiet_skip | (go_big_quiet_want; go_big_quiet_op; first | go_big_quiet_on | (refine ⟨.bool false, fun zz => ?_, ?_⟩; (go_at_call 108; with_reducible exact zz.on (CF.out _ zz.ok)); go_big_quiet_on)))); refine wpQuiet_nil ?_; intro wz hw'; obtain ⟨zw, hw''⟩ := hw'; subst hw'')
                go_wp2_with fail
                go_roundw
                case rel => exact ⟨j + 1, by omega, by go_num, Lib.hid (HRN.out HB0.out), bl_go BR zw.ok⟩
                case measure => simp [intOf]; omega
              | true =>
                have HBE : brE W T bs m' L k ((j : Int) + 1) = tlsF W T bs m' (layL W T L k ((j : Int) + 1)) := by unfold brE; rw [hmay]; rfl
                have CL := Lib.hid (fun (z : World) (Z : Below wr.heap.size wr z) => lay_any W T (some ab) (some ad) c d n bs L k ((j : Int) + 1) z (D2.belo Z) HF.out HN.out HL.out hlt hq hmay)
                have hcm : cnt (emF bs (layL W T L k ((j : Int) + 1))) ≤ m' := by
                  have := HEM.out _ hq hmay
                  have := HM.out
                  omega
                have hbOw := hlt_E S2.out
                have CE := Lib.hid (fun (z : World) (g : Nat) (Z : Below wr.heap.size wr z) (Rz : Rd z (some ⟨g, 0, none⟩) ((layL W T L k ((j : Int) + 1)).map (.int .i64))) (hg1 : wr.heap.size ≤ g) =>
                  HI.out z (layL W T L k ((j : Int) + 1)) v ⟨g, 0, none⟩ n (S2.belo Z) Rz (by rw [layL_len]; exact HL.out) (Nat.le_refl _) hcm
                    (fun e => by have e : g = bO := e; omega))
                have HRT := Lib.hid (fun h => HRN.out (HBE.trans h))
                have HRM := Lib.hid (show ∀ M, M ∈ tlsF W T bs m' (layL W T L k ((j : Int) + 1)) → M ∈ tlsF W T bs (m' + 1) L from fun M hM => by
                  rw [HBR.out, List.mem_append]
                  rw [← HBE] at hM
                  rcases (by omega : j = 0 ∨ j = 1) with rfl | rfl
                  · exact .inl hM
                  · exact .inr hM)
                rw [hmay] at CF
                have KS := Lib.hid (fun (z : World) (Z : Below wr.heap.size wr z) => show z.cell? ⟨bx, 0, none⟩ = some (.int .i64 W) ∧ z.cell? ⟨bx, 1, none⟩ = some (.int .i64 T) ∧ z.cell? ⟨bx, 2, none⟩ = some (.slice (some ab) n c) from hC.belo Z)
                have KE := Lib.hid (fun (z z' : World) (Z : Below wr.heap.size wr z) (F : FrmB bO z z') => show z'.cell? ⟨bx, 0, none⟩ = some (.int .i64 W) ∧ z'.cell? ⟨bx, 1, none⟩ = some (.int .i64 T) ∧ z'.cell? ⟨bx, 2, none⟩ = some (.slice (some ab) n c) from by
                  obtain ⟨y0, y1, y2⟩ := KS.out z Z
                  exact ⟨F.cell y0 hbx, F.cell y1 hbx, F.cell y2 hbx⟩)
                generalize layL W T L k ((j : Int) + 1) = LL at *
                clear hmay x0 x1 x2 w0c w1c hcm HBE
                obtain ⟨x0, x1, x2⟩ := id hC
                go_upto_region 9 with fail
                clear cq
                have Z0 : Below wr.heap.size wr wr.drew := (Below.refl _ _).drew
                go_region_held3 (fun w' => w'.cell? ⟨bx, 0, none⟩ = some (.int .i64 W) ∧ w'.cell? ⟨bx, 1, none⟩ = some (.int .i64 T) ∧ w'.cell? ⟨bx, 2, none⟩ = some (.slice (some ab) n c))
                  (first | (with_reducible exact Y6) | (with_reducible exact KS.out _ Z5) | (with_reducible exact KS.out _ Z4) | (with_reducible exact KS.out _ Z0) | (with_reducible exact ⟨x0, x1, x2⟩) | go_keep)
                  (first
                  | (go_at_call 108; (with_reducible refine (CF.out _ Z0).mono ?_); rintro e w4 ⟨rfl, b4⟩; have Z4 := Z0.trans (b4.mono Z0.size))
                  | (go_at_call 109; (with_reducible refine (CL.out _ Z4).mono ?_); rintro e w5 ⟨g5, rfl, W5, hg5, hgs5, b5⟩; have Z5 := Z4.trans (b5.mono Z4.size); have R5 := W5.rd)
                  | (go_at_call 76; (with_reducible refine (CE.out _ _ Z5 R5 (Nat.le_trans Z4.size hg5)).mono ?_); rintro e w6 ⟨r6, rfl, F6, ht6, hf6⟩; have Y6 := KE.out _ _ Z5 F6))
                cases r6 with
                | true =>
                  obtain ⟨hnil, b6⟩ := ht6.out rfl
                  have HNIL := Lib.hid hnil
                  have B6 := bl_go (bl_go BR Z5) b6
                  clear ht6 hf6 hnil Y6
                  go_wp2_with fail
                  go_roundw
                  case rel => exact ⟨j + 1, by omega, by go_num, Lib.hid (HRT.out HNIL.out), B6⟩
                  case measure => simp [intOf]; omega
                | false =>
                  have HFF := Lib.hid (fi_pass (w := w) HRM.out ((FrmB.of (HB1.out _ (bl_go BR Z5))).trans F6) hf6 rfl)
                  clear ht6 hf6 Y6
                  go_wp2_with fail
                  go_ret
                  exact HFF.out
            · obtain rfl : j = 2 := by omega
              have HRR := Lib.hid (show tlsF W T bs (m' + 1) L = [] by rw [HBR.out, HR.out.1 (by omega), HR.out.2 (by omega)]; rfl)
              have HBF := Lib.hid (HB1.out _ BR)
              go_wp2_with fail
              go_ret
              exact fi_true HRR.out HBF.out
        · have HF0 := Lib.hid (show emK bs L k = false by rw [HE.out, decide_eq_false hl0]; rfl)
          have hl1 : (l1 != 0) = true := by rw [bne_iff_ne]; exact hl0
          clear hl0
          go_wp2_with fail
          go_round
          case rel => exact ⟨k + 1, by omega, by go_num, Lib.hid (fun j hj => by
            rcases Nat.lt_or_ge j k with h | h
            · exact HK.out j h
            · obtain rfl : j = k := by omega
              exact HF0.out)⟩
          case measure => simp [intOf]; omega
    · obtain rfl : k = n := by omega
      have HFS := Lib.hid (show fsL bs L = bs.length from by
        rw [HN.out]
        exact fsL_eq (by rw [HN.out]; exact Nat.le_refl _) HK.out (fun h => by have := HN.out; omega))
      have HTL := Lib.hid (tls_leaf (W := W) (T := T) (f := m) HFS.out)
      have HCA := Lib.hid (fcall_any wb S0 D0 hnd h1)
      go_wp2_with fail
      refine HCA.out.mono ?_
      rintro e w9 ⟨r9, rfl, F9, ht9, hf9⟩
      have HRES := Lib.hid (show FiRes w0 bO k [L] w (.returned (.bool r9)) w9 from by
        cases r9 with
        | true => obtain ⟨h, -⟩ := ht9.out rfl; cases h
        | false => exact fi_pass (fun _ h => h) (F0.trans F9) hf9 rfl)
      go_wp2_with fail
      go_ret
      rw [HTL.out]
      exact HRES.out
theorem fi_all {W T : Int} {n c : Nat} {bs : List Bool} {A : Option Addr} {w0 : World} {bO : Nat} (hr0 : Rd w0 A (bs.map .bool)) (hf : FldF W T n) (hn : bs.length = n) : ∀ m, FiOk W T n c bs A w0 bO m
  | 0 => fi_step hr0 hf hn (fun m' e => by omega)
  | m + 1 => fi_step hr0 hf hn (fun m' e => by
      obtain rfl : m = m' := by omega
      exact fi_all hr0 hf hn m)
set_option maxRecDepth 100000 in
set_option maxHeartbeats 1000000 in
theorem iLaidBare_any (W T : Int) (A : Option Addr) (c n : Nat) (bs : List Bool) (w : World) (hr : Rd w A (bs.map .bool)) (hv : validB W T bs = true) (hn : bs.length = n) :
    Calls Tryz.prog 34 #[.agg #[.int .i64 W, .int .i64 T, .slice A n c]] w (NewWI (List.replicate n 0) n w) := by
  obtain ⟨h1, h2, h3, h4, h5, h6⟩ := valid_len hv
  have X0 := C3.new w (.int .i64 W) (.int .i64 T) (.slice A n c) 25
  have B0 := bl_alloc (Below.refl w.heap.size w) (.cells #[.int .i64 W, .int .i64 T, .slice A n c] 25)
  have CV := Lib.hid (by have := iRegionValid_any W T A c bs _ (hr.belo B0) (by unfold maxLen; omega); rw [hv, hn] at this; exact this)
  have n36 : n ≤ 1000000 := by omega
  obtain ⟨x0, x1, x2⟩ := id X0
  clear h5 h6 hn hv
  go_enter Tryz.func34, Tryz.ntmps34
  go_wp2_with fail
  refine CV.out.mono ?_
  rintro e w2 ⟨rfl, b2⟩
  have X2 := X0.belo b2
  have B2 := bl_go B0 b2
  clear X0 B0 b2 x0 x1 x2 CV
  obtain ⟨x0, x1, x2⟩ := id X2
  obtain ⟨u3, hrun3, W3, b3, z3⟩ := make_intE w2 n n36
  have hsz := B2.size
  have HRES := Lib.hid (show NewWI (List.replicate n 0) n w (.returned (.slice (some ⟨w2.heap.size, 0, none⟩) n n)) u3 from ⟨w2.heap.size, rfl, W3.lower hsz, hsz, z3, bl_go B2 b3⟩)
  clear W3
  go_wp2_with fail
  go_ret
  exact HRES.out
/-- one of these tilings -/
def FiP (n : Nat) (R : List (List Int)) (w : World) (e : Ending) (w' : World) : Prop :=
  Below w.heap.size w w' ∧ ∃ (ad : Addr) (d : Nat) (M : List Int), e = .returned (.tuple #[.slice (some ad) n d, .bool true]) ∧ M ∈ R ∧ n ≤ d ∧ Rd w' (some ad) (M.map (.int .i64))
set_option maxRecDepth 100000 in
set_option maxHeartbeats 4000000 in
theorem complete_any (W T : Int) (A : Option Addr) (ad : Addr) (c n : Nat) (bs : List Bool) (w : World) (hr : Rd w A (bs.map .bool)) (hd : Rd w (some ad) ((List.replicate n (0 : Int)).map (.int .i64))) (hv : validB W T bs = true) (hn : bs.length = n) (hne : tlsV W T bs ≠ []) :
    Calls Tryz.prog 33 #[.agg #[.int .i64 W, .int .i64 T, .slice A n c], .slice (some ad) n n] w (FiP n (tlsV W T bs) w) := by
  obtain ⟨⟨w1, w6⟩, ⟨t1, t6⟩, hlen, -⟩ := validB_iff.1 hv
  have hf : FldF W T n := ⟨w1, w6, t1, t6, by rw [← hn]; exact hlen⟩
  have n36 : n ≤ 36 := hf.bd
  have n1 : 1 ≤ n := by have := (mul_bd w1 w6 t1 t6).1; omega
  have X0 := C3.new w (.int .i64 W) (.int .i64 T) (.slice A n c) 25
  have B0 := bl_alloc (Below.refl w.heap.size w) (.cells #[.int .i64 W, .int .i64 T, .slice A n c] 25)
  have hok : laidOkB W T bs (List.replicate n 0) = true := by
    unfold laidOkB; rw [hv, ← hn, lays_bare]; rfl
  have CL := Lib.hid (by
    have := iLaidOk_any W T A (some ad) c n bs (List.replicate n 0) _ (hr.belo B0) (hd.belo B0) (by unfold maxLen; omega) (by rw [List.length_replicate]; unfold maxLen; omega)
    rw [hok, hn, List.length_replicate] at this
    exact this)
  have hcm : cnt (emF bs (List.replicate n 0)) ≤ n := by
    unfold cnt
    have h1 := List.length_filter_le id (emF bs (List.replicate n 0))
    rw [emF_len] at h1
    omega
  have hT : tlsF W T bs n (List.replicate n 0) = tlsV W T bs := by unfold tlsV; rw [hn]
  obtain ⟨x0, x1, x2⟩ := id X0
  go_enter Tryz.func33, Tryz.ntmps33
  go_wp2_with fail
  generalize w.alloc (.cells #[.int .i64 W, .int .i64 T, .slice A n c] 25) = u at *
  refine CL.out.mono ?_
  rintro e w2 ⟨rfl, b2⟩
  have X2 := X0.belo b2
  have B2 := bl_go B0 b2
  have R2 := hr.belo B2
  have D2 := hd.belo B2
  clear x0 x1 x2 CL X0 B0 b2
  obtain ⟨x0, x1, x2⟩ := id X2
  go_upto_region 4 with fail
  have bl := bl_alloc (Below.refl w2.heap.size w2) (.cells #[.slice none 0 0] 29)
  have XU := X2.belo bl
  have hO := heap_alloc_new w2 (.cells #[.slice none 0 0] 29)
  have RU := R2.belo bl
  have DU := D2.belo bl
  have hs2 : (w2.alloc (.cells #[.slice none 0 0] 29)).heap.size = w2.heap.size + 1 := by first | exact Array.size_push _ | simp only [World.alloc, Array.size_push]
  generalize hu3 : w2.alloc (.cells #[.slice none 0 0] 29) = u3 at *
  have CC := Lib.hid (fun (z : World) (Z : Below u3.heap.size u3 z) => cloneI_any ad n n (List.replicate n 0) z (DU.belo Z) (by simp) (by omega) (by omega))
  have S3 : FiSt w2 w2.heap.size (.slice none 0 0) u3 := ⟨bl, hO, Nat.le_refl _⟩
  have CE := Lib.hid (fun (z : World) (g : Nat) (Z : Below u3.heap.size u3 z) (Rz : Rd z (some ⟨g, 0, none⟩) ((List.replicate n (0 : Int)).map (.int .i64))) (hg : u3.heap.size ≤ g) => by
    have h := fi_all (c := c) (bO := w2.heap.size) R2 hf hn n z (List.replicate n 0) (.slice none 0 0) ⟨g, 0, none⟩ n (S3.belo Z) Rz (by simp) (Nat.le_refl _) hcm (fun e => by have e : g = w2.heap.size := e; omega)
    rw [hT] at h
    exact h)
  have KS := Lib.hid (fun (z : World) (Z : Below u3.heap.size u3 z) => show z.cell? ⟨w.heap.size, 0, none⟩ = some (.int .i64 W) ∧ z.cell? ⟨w.heap.size, 1, none⟩ = some (.int .i64 T) ∧ z.cell? ⟨w.heap.size, 2, none⟩ = some (.slice A n c) from XU.belo Z)
  have hxl : w.heap.size ≠ w2.heap.size := by have := X2.lt; omega
  have KE := Lib.hid (fun (z z' : World) (Z : Below u3.heap.size u3 z) (F : FrmB w2.heap.size z z') => show z'.cell? ⟨w.heap.size, 0, none⟩ = some (.int .i64 W) ∧ z'.cell? ⟨w.heap.size, 1, none⟩ = some (.int .i64 T) ∧ z'.cell? ⟨w.heap.size, 2, none⟩ = some (.slice A n c) from by
    obtain ⟨y0, y1, y2⟩ := KS.out z Z
    exact ⟨F.cell y0 hxl, F.cell y1 hxl, F.cell y2 hxl⟩)
  have Z0 : Below u3.heap.size u3 u3.drew := (Below.refl _ _).drew
  have HNE := Lib.hid hne
  clear X2 R2 D2 RU DU hO bl hs2 hT hcm hok hf hlen hv hn hne S3 x0 x1 x2
  obtain ⟨x0, x1, x2⟩ := id XU
  go_region_held3 (fun w' => w'.cell? ⟨w.heap.size, 0, none⟩ = some (.int .i64 W) ∧ w'.cell? ⟨w.heap.size, 1, none⟩ = some (.int .i64 T) ∧ w'.cell? ⟨w.heap.size, 2, none⟩ = some (.slice A n c))
    (first | (with_reducible exact Y6) | (with_reducible exact KS.out _ Z5) | (with_reducible exact KS.out _ Z0) | (with_reducible exact ⟨x0, x1, x2⟩) | go_keep)
    (first
    | (go_at_call 77; (with_reducible refine (CC.out _ Z0).mono ?_); rintro e w5 ⟨g5, rfl, W5, hg5, hgs5, b5⟩; have Z5 := Z0.trans (b5.mono Z0.size); have R5 := W5.rd; (have hq5 : u3.heap.size ≤ g5 := hg5))
    | (go_at_call 76; (with_reducible refine (CE.out _ _ Z5 R5 hq5).mono ?_); rintro e w6 ⟨r6, rfl, F6, ht6, hf6⟩; have Y6 := KE.out _ _ Z5 F6))
  all_goals (
    cases r6 with
    | true => exact absurd (ht6.out rfl).1 HNE.out
    | false =>
      obtain ⟨ad6, d6, M6, hM6, hd6, S6, R6⟩ := hf6.out rfl
      obtain ⟨xo, -⟩ := S6.box
      have HRES := Lib.hid (show FiP n (tlsV W T bs) w (.returned (.tuple #[.slice (some ad6) n d6, .bool true])) w6 from ⟨bl_go B2 S6.ok, ad6, d6, M6, rfl, hM6, hd6, R6⟩)
      clear ht6 hf6 Y6 S6 R6 F6 hM6 x0 x1 x2
      go_wp2_with fail
      go_ret2
      exact HRES.out)
set_option maxRecDepth 100000 in
set_option maxHeartbeats 2000000 in
theorem tilingFirst_any (W T : Int) (A : Option Addr) (c n : Nat) (bs : List Bool) (w : World) (hr : Rd w A (bs.map .bool)) (hv : validB W T bs = true) (hn : bs.length = n) (hne : tlsV W T bs ≠ []) :
    Calls Tryz.prog 11 #[.agg #[.int .i64 W, .int .i64 T, .slice A n c]] w (FiP n (tlsV W T bs) w) := by
  have X0 := C3.new w (.int .i64 W) (.int .i64 T) (.slice A n c) 25
  have B0 := bl_alloc (Below.refl w.heap.size w) (.cells #[.int .i64 W, .int .i64 T, .slice A n c] 25)
  have r0 := hr.belo B0
  obtain ⟨x0, x1, x2⟩ := id X0
  go_enter Tryz.func11, Tryz.ntmps11
  go_upto_region 1 with fail
  generalize w.alloc (.cells #[.int .i64 W, .int .i64 T, .slice A n c] 25) = u at *
  have CB := Lib.hid (fun (z : World) (Z : Below u.heap.size u z) => iLaidBare_any W T A c n bs z (r0.belo Z) hv hn)
  have CC := Lib.hid (fun (z : World) (g : Nat) (Z : Below u.heap.size u z) (Rz : Rd z (some ⟨g, 0, none⟩) ((List.replicate n (0 : Int)).map (.int .i64))) => complete_any W T A ⟨g, 0, none⟩ c n bs z (r0.belo Z) Rz hv hn hne)
  have KS := Lib.hid (fun (z : World) (Z : Below u.heap.size u z) => show z.cell? ⟨w.heap.size, 0, none⟩ = some (.int .i64 W) ∧ z.cell? ⟨w.heap.size, 1, none⟩ = some (.int .i64 T) ∧ z.cell? ⟨w.heap.size, 2, none⟩ = some (.slice A n c) from X0.belo Z)
  have Z0 : Below u.heap.size u u.drew := (Below.refl _ _).drew
  clear r0 X0 hv hn hne hr
  go_region_held3 (fun w' => w'.cell? ⟨w.heap.size, 0, none⟩ = some (.int .i64 W) ∧ w'.cell? ⟨w.heap.size, 1, none⟩ = some (.int .i64 T) ∧ w'.cell? ⟨w.heap.size, 2, none⟩ = some (.slice A n c))
    (first | (with_reducible exact KS.out _ Z6) | (with_reducible exact KS.out _ Z5) | (with_reducible exact KS.out _ Z0) | (with_reducible exact ⟨x0, x1, x2⟩) | go_keep)
    (first
    | (go_at_call 34; (with_reducible refine (CB.out _ Z0).mono ?_); rintro e w5 ⟨g5, rfl, W5, hg5, hgs5, b5⟩; have Z5 := Z0.trans (b5.mono Z0.size); have R5 := W5.rd)
    | (go_at_call 33; (with_reducible refine (CC.out _ _ Z5 R5).mono ?_); rintro e w6 ⟨b6, ad6, d6, M6, rfl, hM6, hd6, R6⟩; have Z6 := Z5.trans (b6.mono Z5.size)))
  have HRES := Lib.hid (show FiP n (tlsV W T bs) w (.returned (.tuple #[.slice (some ad6) n d6, .bool true])) w6 from ⟨bl_go B0 Z6, ad6, d6, M6, rfl, hM6, hd6, R6⟩)
  go_wp2_with fail
  go_ret2
  exact HRES.out
end Go.Proofs.YtafmpgikdhlknaaGreat

/- Contracts: whether a list is a tiling of a simple region, and pushes of any lists, in the program. -/
namespace Go.Proofs.YtafmpgikdhlknaaGreat
open Go.RowKit

theorem tiling_parts {W T : Int} {bs : List Bool} {L : List Int} (hv : validB W T bs = true) : tilingB W T bs L = (laysB W T bs L && fullB bs L) := by
  unfold tilingB laidOkB; rw [hv, Bool.true_and]
set_option maxRecDepth 100000 in
set_option maxHeartbeats 1000000 in
theorem iTiled_any (W T : Int) (A D : Option Addr) (c d n m : Nat) (bs : List Bool) (L : List Int) (w : World) (hr : Rd w A (bs.map .bool)) (hd : Rd w D (L.map (.int .i64))) (hn : bs.length = n) (hm : L.length = m) (hnm : n ≤ maxLen) (hmm : m ≤ maxLen) :
    Calls Tryz.prog 37 #[.agg #[.int .i64 W, .int .i64 T, .slice A n c], .slice D m d] w fun e w' => e = .returned (.bool (simpB W T bs && tilingB W T bs L)) ∧ Below w.heap.size w w' := by
  have X0 := C3.new w (.int .i64 W) (.int .i64 T) (.slice A n c) 25
  have B0 := bl_alloc (Below.refl w.heap.size w) (.cells #[.int .i64 W, .int .i64 T, .slice A n c] 25)
  have CS := Lib.hid (iSimple_any W T A c n bs _ (hr.belo B0) hn hnm)
  obtain ⟨x0, x1, x2⟩ := id X0
  cases hs : simpB W T bs with
  | false =>
    rw [hs] at CS
    clear hs
    go_enter Tryz.func37, Tryz.ntmps37
    go_wp2_with fail
    refine CS.out.mono ?_
    rintro e w1 ⟨rfl, b1⟩
    clear x0 x1 x2
    go_wp2_with fail
    go_ret
    exact ⟨rfl, bl_go B0 b1⟩
  | true =>
    have hval := (simp_iff.1 hs).1
    obtain ⟨⟨w1, w6⟩, ⟨t1, t6⟩, hlen, -⟩ := validB_iff.1 hval
    have CL := Lib.hid (fun (z : World) (R : Rd z A (bs.map .bool)) (Q : Rd z D (L.map (.int .i64))) => by
      have := lays_any W T A D c d bs L z w1 w6 t1 t6 hlen R Q (by rw [hm]; exact hmm)
      rw [hn, hm] at this; exact this)
    have HP := Lib.hid (tiling_parts (L := L) hval)
    have CF := Lib.hid (fun (hl : laysB W T bs L = true) (z : World) (R : Rd z A (bs.map .bool)) (Q : Rd z D (L.map (.int .i64))) => by
      have hle : L.length = bs.length := by
        refine Classical.byContradiction fun h => ?_
        rw [laysB_len h] at hl; cases hl
      have := full_any W T A D c d bs L z hle R Q (by rw [hn]; exact hnm)
      rw [hn, hm] at this; exact this)
    rw [hs] at CS
    clear hs hval w1 w6 t1 t6 hlen
    go_enter Tryz.func37, Tryz.ntmps37
    go_wp2_with fail
    refine CS.out.mono ?_
    rintro e w1 ⟨rfl, b1⟩
    have X1 := X0.belo b1
    have B1 := bl_go B0 b1
    have C1 := Lib.hid (CL.out _ (hr.belo B1) (hd.belo B1))
    clear x0 x1 x2 X0 b1 CL CS
    obtain ⟨x0, x1, x2⟩ := id X1
    cases hl : laysB W T bs L with
    | false =>
      rw [hl] at C1
      have HF := Lib.hid (show tilingB W T bs L = false by rw [HP.out, hl]; rfl)
      clear hl
      go_wp2_with fail
      refine C1.out.mono ?_
      rintro e w2 ⟨rfl, b2⟩
      clear x0 x1 x2
      go_wp2_with fail
      go_ret
      exact ⟨ret_b (by rw [HF.out]; rfl), bl_go B1 b2⟩
    | true =>
      have CFF := Lib.hid (CF.out hl)
      rw [hl] at C1
      have HF := Lib.hid (show tilingB W T bs L = fullB bs L by rw [HP.out, hl]; rfl)
      clear hl CF
      go_wp2_with fail
      refine C1.out.mono ?_
      rintro e w2 ⟨rfl, b2⟩
      have X2 := X1.belo b2
      have B2 := bl_go B1 b2
      have C2 := Lib.hid (CFF.out _ (hr.belo B2) (hd.belo B2))
      clear x0 x1 x2 X1 b2
      obtain ⟨x0, x1, x2⟩ := id X2
      go_wp2_with fail
      refine C2.out.mono ?_
      rintro e w3 ⟨rfl, b3⟩
      clear x0 x1 x2
      go_wp2_with fail
      go_ret
      exact ⟨ret_b (by rw [HF.out]; rfl), bl_go B2 b3⟩
/-- what is pushed, or nothing -/
def PrP (n : Nat) (ok : Bool) (M : List Int) (w : World) (e : Ending) (w' : World) : Prop :=
  (ok = true ∧ M.length = n ∧ NewWI M n w e w') ∨ (ok = false ∧ e = .returned (.slice none 0 0) ∧ Below w.heap.size w w')
set_option maxRecDepth 100000 in
set_option maxHeartbeats 1000000 in
theorem iPushRun_any (W T : Int) (A D P : Option Addr) (c d n m k cp : Nat) (bs : List Bool) (L : List Int) (ps : List Pu) (w : World) (hr : Rd w A (bs.map .bool)) (hd : Rd w D (L.map (.int .i64))) (hp : RdP w P ps) (hn : bs.length = n) (hm : L.length = m) (hk : ps.length = k) (hnm : n ≤ maxLen) (hmm : m ≤ maxLen) (hkm : k ≤ maxLen) :
    Calls Tryz.prog 13 #[.agg #[.int .i64 W, .int .i64 T, .slice A n c], .slice D m d, .slice P k cp] w (PrP n (psvB W T bs ps && tilingB W T bs L) (runL W T L (psN ps)) w) := by
  have X0 := C3.new w (.int .i64 W) (.int .i64 T) (.slice A n c) 25
  have B0 := bl_alloc (Below.refl w.heap.size w) (.cells #[.int .i64 W, .int .i64 T, .slice A n c] 25)
  have CV := Lib.hid (iPushesValid_any W T A P c cp n k bs ps _ (hr.belo B0) (hp.belo B0) hn hnm hk hkm)
  obtain ⟨x0, x1, x2⟩ := id X0
  cases hv : psvB W T bs ps with
  | false =>
    rw [hv] at CV
    clear hv
    go_enter Tryz.func13, Tryz.ntmps13
    go_wp2_with fail
    refine CV.out.mono ?_
    rintro e w1 ⟨rfl, b1⟩
    have HRES := Lib.hid (show PrP n (false && tilingB W T bs L) (runL W T L (psN ps)) w (.returned (.slice none 0 0)) w1 from .inr ⟨rfl, rfl, bl_go B0 b1⟩)
    clear x0 x1 x2
    go_wp2_with fail
    go_ret
    exact HRES.out
  | true =>
    obtain ⟨hs, h128, hpv⟩ := psv_iff.1 hv
    have CT := Lib.hid (fun (z : World) (R : Rd z A (bs.map .bool)) (Q : Rd z D (L.map (.int .i64))) => iTiled_any W T A D c d n m bs L z R Q hn hm hnm hmm)
    rw [hs] at CT
    rw [hv] at CV
    have CR := Lib.hid (fun (ht : tilingB W T bs L = true) (ad : Addr) (z : World) (R : Rd z A (bs.map .bool)) (Q : Rd z (some ad) (L.map (.int .i64))) (P' : RdP z P ps) => run_any W T A P ad c d n k cp bs L ps z R Q P' hs ht hn hpv hk (by omega))
    have HLM := Lib.hid (fun (ht : tilingB W T bs L = true) => show m = n ∧ 0 < L.length ∧ (runL W T L (psN ps)).length = n from by
      obtain ⟨hval, hl, -⟩ := tiling_til ht
      obtain ⟨⟨w1, w6⟩, ⟨t1, t6⟩, hlen, -⟩ := validB_iff.1 hval
      have := (mul_bd w1 w6 t1 t6).1
      exact ⟨by omega, by omega, by rw [(tiling_til (run_til hs (psN ps) L ht)).2.1]; exact hn⟩)
    clear hs h128 hpv hv
    go_enter Tryz.func13, Tryz.ntmps13
    go_wp2_with fail
    refine CV.out.mono ?_
    rintro e w1 ⟨rfl, b1⟩
    have X1 := X0.belo b1
    have B1 := bl_go B0 b1
    have C1 := Lib.hid (CT.out _ (hr.belo B1) (hd.belo B1))
    clear x0 x1 x2 X0 b1 CT CV
    obtain ⟨x0, x1, x2⟩ := id X1
    cases ht : tilingB W T bs L with
    | false =>
      rw [ht] at C1
      have HTF := Lib.hid ht
      clear ht CR HLM
      go_wp2_with fail
      refine C1.out.mono ?_
      rintro e w2 ⟨rfl, b2⟩
      have HRES := Lib.hid (show PrP n (true && tilingB W T bs L) (runL W T L (psN ps)) w (.returned (.slice none 0 0)) w2 from .inr ⟨by rw [HTF.out]; rfl, rfl, bl_go B1 b2⟩)
      clear x0 x1 x2
      go_wp2_with fail
      go_ret
      exact HRES.out
    | true =>
      obtain ⟨hmn, h0, hrl⟩ := HLM.out ht
      have CRR := Lib.hid (CR.out ht)
      obtain ⟨ad, rfl, -⟩ := hd.atM h0
      have HRL := Lib.hid hrl
      rw [ht] at C1
      have HTF := Lib.hid ht
      clear ht CR HLM h0 hrl hm
      subst hmn
      go_wp2_with fail
      refine C1.out.mono ?_
      rintro e w2 ⟨rfl, b2⟩
      have X2 := X1.belo b2
      have B2 := bl_go B1 b2
      have C2 := Lib.hid (CRR.out ad _ (hr.belo B2) (hd.belo B2) (hp.belo B2))
      clear x0 x1 x2 X1 b2 CRR
      obtain ⟨x0, x1, x2⟩ := id X2
      go_wp2_with fail
      refine C2.out.mono ?_
      rintro e w3 ⟨g, rfl, W3, hg1, hg2, b3⟩
      have hsz := B2.size
      have HRES := Lib.hid (show PrP m (true && tilingB W T bs L) (runL W T L (psN ps)) w (.returned (.slice (some ⟨g, 0, none⟩) m m)) w3 from .inl ⟨by rw [HTF.out]; rfl, HRL.out, g, rfl, W3.lower hsz, Nat.le_trans hsz hg1, hg2, bl_go B2 b3⟩)
      clear x0 x1 x2 W3
      go_wp2_with fail
      go_ret
      exact HRES.out
end Go.Proofs.YtafmpgikdhlknaaGreat

/- Lists of numbers, each in a block of its own. -/
namespace Go.Proofs.YtafmpgikdhlknaaGreat
open Go.RowKit

def RowsI (w : World) (lo : Nat) (xs : List Value) (L : List (List Int)) : Prop :=
  xs.length = L.length ∧ ∀ k (h : k < L.length), ∃ gk nk, xs[k]? = some (.slice (some ⟨gk, 0, none⟩) nk nk) ∧ L[k].length = nk ∧ Wr w lo 3 (some ⟨gk, 0, none⟩) (L[k].map (.int .i64)) ∧ gk < w.heap.size ∧ ∀ j, j < k → ∀ gj n c, xs[j]? = some (.slice (some ⟨gj, 0, none⟩) n c) → gj < gk
theorem RowsI.nil (w : World) (lo : Nat) : RowsI w lo [] [] := ⟨rfl, fun k h => by simp at h⟩
theorem RowsI.keep {w w' : World} {lo : Nat} {xs : List Value} {L : List (List Int)} (h : RowsI w lo xs L) (hs : w.heap.size ≤ w'.heap.size) (hk : ∀ b, AtL xs b → w'.heap[b]? = w.heap[b]?) : RowsI w' lo xs L :=
  ⟨h.1, fun k hkl => by
    obtain ⟨gk, nk, a1, a2, a3, a4, a5⟩ := h.2 k hkl
    exact ⟨gk, nk, a1, a2, a3.keep (fun q hq _ => by injection hq with hq; injection hq with hq; subst hq; exact hk gk ⟨k, _, _, _, a1, rfl⟩), Nat.lt_of_lt_of_le a4 hs, a5⟩⟩
theorem RowsI.belo {w w' : World} {lo : Nat} {xs : List Value} {L : List (List Int)} (h : RowsI w lo xs L) (hb : Below w.heap.size w w') : RowsI w' lo xs L :=
  ⟨h.1, fun k hkl => by
    obtain ⟨gk, nk, a1, a2, a3, a4, a5⟩ := h.2 k hkl
    exact ⟨gk, nk, a1, a2, a3.belo hb, Nat.lt_of_lt_of_le a4 hb.size, a5⟩⟩
theorem RowsI.lower {w : World} {lo lo' : Nat} {xs : List Value} {L : List (List Int)} (h : RowsI w lo xs L) (hl : lo' ≤ lo) : RowsI w lo' xs L :=
  ⟨h.1, fun k hkl => by
    obtain ⟨gk, nk, a1, a2, a3, a4, a5⟩ := h.2 k hkl
    exact ⟨gk, nk, a1, a2, a3.lower hl, a4, a5⟩⟩
/-- a further row, in a newer block -/
theorem RowsI.snoc {w : World} {lo : Nat} {xs : List Value} {L : List (List Int)} (h : RowsI w lo xs L) {g n : Nat} {r : List Int} (hr : r.length = n) (hw : Wr w lo 3 (some ⟨g, 0, none⟩) (r.map (.int .i64))) (hg : g < w.heap.size) (hn : ∀ b, AtL xs b → b < g) : RowsI w lo (xs ++ [.slice (some ⟨g, 0, none⟩) n n]) (L ++ [r]) := by
  have hl := h.1
  refine ⟨by simp [hl], fun k hkl => ?_⟩
  rw [List.length_append, List.length_singleton] at hkl
  rcases Nat.lt_or_ge k L.length with h1 | h1
  · obtain ⟨gk, nk, a1, a2, a3, a4, a5⟩ := h.2 k h1
    refine ⟨gk, nk, by rw [List.getElem?_append_left (by omega)]; exact a1, by rw [List.getElem_append_left h1]; exact a2, by rw [List.getElem_append_left h1]; exact a3, a4, fun j hj gj n' c' e => ?_⟩
    rw [List.getElem?_append_left (by omega)] at e
    exact a5 j hj gj n' c' e
  · obtain rfl : k = L.length := by omega
    refine ⟨g, n, by rw [List.getElem?_append_right (by omega), hl, Nat.sub_self]; rfl, by rw [List.getElem_append_right (by omega)]; simpa using hr, by rw [List.getElem_append_right (by omega)]; simpa using hw, hg, fun j hj gj n' c' e => ?_⟩
    rw [List.getElem?_append_left (by omega)] at e
    exact hn gj ⟨j, _, _, _, e, rfl⟩
/-- a new list of lists, each in a block of its own -/
def NewRI (fs : List (List Int)) (w : World) (e : Ending) (w' : World) : Prop :=
  ∃ (A : Option Addr) (c : Nat) (xs : List Value), e = .returned (.slice A fs.length c) ∧ fs.length ≤ c ∧ Rd w' A xs ∧ HeadsI w' xs fs ∧ RowsI w' w.heap.size xs fs ∧ (∀ ad, A = some ad → w.heap.size ≤ ad.block ∧ ad.block < w'.heap.size ∧ ¬ AtL xs ad.block) ∧ Below w.heap.size w w'
theorem NewRI.rd {fs : List (List Int)} {w w' : World} {e : Ending} (h : NewRI fs w e w') : NewLL fs w e w' := by
  obtain ⟨A, c, xs, h1, h2, h3, h4, -, -, h7⟩ := h
  exact ⟨A, c, h1, h2, ⟨xs, h3, h4⟩, h7⟩
end Go.Proofs.YtafmpgikdhlknaaGreat

/- Contracts: laws.sameInts, laws.sameLists. -/
namespace Go.Proofs.YtafmpgikdhlknaaGreat
open Go.RowKit

set_option maxHeartbeats 2000000 in
theorem sameInts_any (A A' : Option Addr) (c c' n m : Nat) (xs ys : List Int) (w : World) (hr : Rd w A (xs.map (.int .i64))) (hr' : Rd w A' (ys.map (.int .i64))) (hx : xs.length = n) (hy : ys.length = m) (hn : n ≤ maxLen) (hm : m ≤ maxLen) :
    Calls Tryz.prog 8 #[.slice A n c, .slice A' m c'] w fun e w' => e = .returned (.bool (decide (xs = ys))) ∧ Below w.heap.size w w' := by
  unfold maxLen at hn hm
  have HX := Lib.hid hx
  have HY := Lib.hid hy
  clear hx hy
  by_cases hnm : n = m
  · subst hnm
    go_enter Tryz.func8, Tryz.ntmps8
    go_wp2_with fail
    go_loopw [5] (fun i wr => ∃ k : Nat, k ≤ n ∧ i = .int .i64 k ∧ Hid (∀ j, j < k → xs[j]? = ys[j]?) ∧ Below w.heap.size w wr) (fun i _ => n - (intOf i).toNat)
    case atStart => exact ⟨0, Nat.zero_le _, rfl, Lib.hid (fun j h => absurd h (Nat.not_lt_zero j)), Below.refl _ _⟩
    case round =>
      obtain ⟨k, hk, rfl, HK, hbel⟩ := hrel
      by_cases hlt : k < n
      · have hkx : k < xs.length := by rw [HX.out]; exact hlt
        have hky : k < ys.length := by rw [HY.out]; exact hlt
        obtain ⟨ad, rfl, hc⟩ := (hr.belo hbel).atM hkx
        obtain ⟨ad', rfl, hc'⟩ := (hr'.belo hbel).atM hky
        have HX1 := Lib.hid (List.getElem?_eq_getElem hkx)
        have HY1 := Lib.hid (List.getElem?_eq_getElem hky)
        generalize xs[k] = a at hc HX1
        generalize ys[k] = b at hc' HY1
        clear hkx hky
        by_cases hab : a = b
        · subst hab
          have hne : (a != a) = false := by simp
          go_wp2_with fail
          go_quiet (fail)
          go_wp2_with fail
          go_roundw
          case rel => exact ⟨k + 1, by omega, by go_num, Lib.hid (fun j hj => by
            rcases Nat.lt_or_ge j k with h | h
            · exact HK.out j h
            · obtain rfl : j = k := by omega
              rw [HX1.out, HY1.out]), below_drewN' hbel _⟩
          case measure => simp [intOf]; omega
        · have hne : (a != b) = true := by simpa using hab
          have HD := Lib.hid (show decide (xs = ys) = false from decide_eq_false (fun e => hab (by
            have := HX1.out
            rw [e, HY1.out] at this
            exact (Option.some.inj this).symm)))
          clear hab
          go_wp2_with fail
          go_quiet (fail)
          go_wp2_with fail
          go_ret
          exact ⟨ret_b HD.out.symm, below_drewN' hbel _⟩
      · obtain rfl : k = n := by omega
        have HD := Lib.hid (show decide (xs = ys) = true from decide_eq_true (List.ext_getElem? fun j => by
          rcases Nat.lt_or_ge j k with h | h
          · exact HK.out j h
          · rw [List.getElem?_eq_none (by rw [HX.out]; exact h), List.getElem?_eq_none (by rw [HY.out]; exact h)]))
        go_wp2_with fail
        go_ret
        exact ⟨ret_b HD.out.symm, hbel⟩
  · have HD := Lib.hid (show decide (xs = ys) = false from decide_eq_false (fun e => hnm (by rw [← HX.out, ← HY.out, e])))
    have hne : ((n : Int) != (m : Int)) = true := by simp; omega
    go_enter Tryz.func8, Tryz.ntmps8
    go_wp2_with fail
    go_ret
    exact ⟨ret_b HD.out.symm, Below.refl _ _⟩
end Go.Proofs.YtafmpgikdhlknaaGreat

/- The walk of the law FnFromPast. -/
namespace Go.Proofs.YtafmpgikdhlknaaGreat
open Go.RowKit

theorem OwnPu.cap {w : World} {base n c : Nat} {A : Option Addr} {ps : List Pu} (h : OwnPu w base (.slice A n c) ps) : n ≤ c := by
  obtain ⟨A', c', e, o⟩ := h
  injection e with e1 e2 e3
  subst e1; subst e2; subst e3
  rcases o.2 with ⟨e, e2⟩ | ⟨g, cap, cur, e, _, _, h3, _⟩
  · omega
  · injection e with _ _ e3; omega
section
variable {ops : Array Oper} {o : Oper} {a : Act} {K : Act → World → Prop} {Q : Exit → Act → World → Prop} {E : Prop}
theorem pushV_oneF (ps : List Pu) : ∀ u ∈ pushV ps, u.oneCell' = true := fun u hu => by
  unfold pushV at hu
  rw [List.mem_flatMap] at hu
  obtain ⟨q, -, hu⟩ := hu
  simp at hu
  rcases hu with rfl | rfl <;> rfl
/-- a whole list of pushes is appended, wherever it lies -/
theorem run_app3 (W : World) (ty : TypeId) (base : Nat) (v : Value) (ts : List Pu) (hown : OwnPu W base v ts) (X : Option Addr) (qs : List Pu) (cp : Nat) (hq : RdP W X qs) (hn : ts.length + qs.length ≤ 1000000000000) (hbase : base ≤ W.heap.size) :
    ∃ v' w', (Builtin.append_ #[26, 26] ty #[v, .slice X qs.length cp]).run Tryz.prog W = .ok v' w' ∧ OwnPu w' base v' (ts ++ qs) ∧ Below base W w' := by
  obtain ⟨i0, hi, hz0, hz1, hz2⟩ := info_parts Tryz.infoPu
  obtain ⟨A, c', e, hown⟩ := hown
  cases X with
  | none =>
    have hX : qs = [] := by
      rcases List.eq_nil_or_concat qs with h | ⟨l, u, h⟩
      · exact h
      · obtain ⟨b, off, e, -⟩ := hq.at_ (k := 0) (by rw [h]; simp)
        cases e
    subst hX
    rw [List.append_nil]
    refine ⟨v, W, ?_, ⟨A, c', e, hown⟩, Below.refl _ _⟩
    rcases hown.2 with ⟨h1, h2⟩ | ⟨g, cap, cur, h1, _, _, hnc, _⟩
    · rw [h1]
      simp [Builtin.append_, run_underlying Tryz.underlying26, sizeOf, typeInfo, hi, Builtin.lenOf, Builtin.firstCells]
    · rw [h1]
      simp [Builtin.append_, run_underlying Tryz.underlying26, sizeOf, typeInfo, hi, Builtin.lenOf, Builtin.firstCells, hnc, storeCells]
  | some ad =>
    have hc : ∀ j u, (pushV qs)[j]? = some u → W.cell? (ad.add j) = some u := fun j u hu => by
      obtain ⟨ad', e, hc⟩ := hq (by intro e; rw [e] at hu; simp at hu)
      obtain rfl := Option.some.inj e
      exact hc j u hu
    obtain ⟨v', w', hr, h2, h3, _, h5⟩ := run_append_own_at (P := Tryz.prog) W base 26 ty 38 i0 _ 2 16 Tryz.underlying26 hi hz0 hz1 hz2 rfl (by decide) v ts.length (pushV ts) hown ad qs.length cp (pushV qs) (pushV_len qs) hc (pushV_oneF qs) (by unfold maxLen; omega) (by omega) hbase
    refine ⟨v', w', hr, ?_, (Below.refl base _).grown h3 hbase (fun k hk => (hown.lt k hk).1)⟩
    have hlen : (ts ++ qs).length = ts.length + qs.length := List.length_append
    rw [← pushV_append] at h2
    rcases h2.2 with ⟨e1, e2⟩ | ⟨g, cap, cur, e1, _⟩
    · subst e1
      have hnil : ts ++ qs = [] := List.eq_nil_of_length_eq_zero (by omega)
      rw [hnil]
      exact ⟨none, 0, rfl, World.ownsRow_nil _ _ _ _⟩
    · subst e1
      exact ⟨_, cap, by rw [hlen], by rw [hlen]; exact h2⟩
theorem step_app3 (W : World) (hgd : o.guard = none) (s x : Operand) (ho : o.op = .call { callee := .builtin .append, args := #[s, x], argTypes := #[26, 26] })
    (base : Nat) (v : Value) (ts : List Pu) (hs : a.eval s = v) (hown : OwnPu W base v ts) (X : Option Addr) (qs : List Pu) (cp : Nat) (hx : a.eval x = .slice X qs.length cp) (hq : RdP W X qs) (hn : ts.length + qs.length ≤ 1000000000000) (hbase : base ≤ W.heap.size) (ah : List Pu) (hah : ts ++ qs = ah)
    (h : ∀ (A' : Option Addr) (c' : Nat) (w' : World), OwnPu w' base (.slice A' ah.length c') ah → Below base W w' → K (a.put o.dst (.slice A' ah.length c')) w') :
    if Region.wanted o (yielded ops a.tmps) = true then Oper.wp Tryz.prog o a W K Q else E := by
  have hw : Region.wanted o (yielded ops a.tmps) = true := by simp [Region.wanted, hgd]
  rw [if_pos hw]
  obtain ⟨v', w', hr, h1, h2⟩ := run_app3 W o.type base v ts hown X qs cp hq hn hbase
  unfold Oper.wp execOp
  simp only [ho, resolve, invoke, builtin, Sem.run_bind, Sem.run_pure, Result.andThen_ok, List.map_toArray, List.map_cons, List.map_nil, hs, hx, hr]
  rw [hah] at h1
  obtain ⟨A', c', rfl, h3⟩ := h1
  exact h A' c' w' ⟨A', c', rfl, h3⟩ h2
end
theorem FpP.yes {N : Nat} {M : List Int} {n : Int} {w w' : World} {e : Ending} (h : FpP N (M, n, true) w e w') : ∃ g : Nat, e = .returned (.tuple #[.slice (some ⟨g, 0, none⟩) N N, .int .i64 n, .bool true]) ∧ Rd w' (some ⟨g, 0, none⟩) (M.map (.int .i64)) ∧ Below w.heap.size w w' := by
  obtain ⟨hb, ⟨-, g, he, hw, -, -, -⟩ | ⟨h1, -⟩⟩ := h
  · exact ⟨g, he, hw.rd, hb⟩
  · injection h1 with _ h3; injection h3 with _ h4; cases h4
theorem FpP.no {N : Nat} {w w' : World} {e : Ending} (h : FpP N ([], 0, false) w e w') : e = .returned (.tuple #[.slice none 0 0, .int .i64 0, .bool false]) ∧ Below w.heap.size w w' := by
  obtain ⟨hb, ⟨h1, -⟩ | ⟨-, he⟩⟩ := h
  · cases h1
  · exact ⟨he, hb⟩
theorem FpS.yes {N : Nat} {M : List Int} {n : Int} {w w' : World} {e : Ending} (h : FpS N (M, n, true) w e w') : ∃ (D : Option Addr) (d : Nat), e = .returned (.tuple #[.slice D N d, .int .i64 n, .bool true]) ∧ Rd w' D (M.map (.int .i64)) ∧ Below w.heap.size w w' := by
  obtain ⟨hb, ⟨-, D, d, he, hw, -⟩ | ⟨h1, -⟩⟩ := h
  · exact ⟨D, d, he, hw, hb⟩
  · injection h1 with _ h3; injection h3 with _ h4; cases h4
theorem FpS.no {N : Nat} {w w' : World} {e : Ending} (h : FpS N ([], 0, false) w e w') : ∃ (D : Option Addr) (d : Nat), e = .returned (.tuple #[.slice D 0 d, .int .i64 0, .bool false]) ∧ Below w.heap.size w w' := by
  obtain ⟨hb, ⟨h1, -⟩ | ⟨-, D, d, he⟩⟩ := h
  · cases h1
  · exact ⟨D, d, he, hb⟩
def cmI (W T : Int) (bs : List Bool) : Int := if validB W T bs = true then ((ncN W T : Nat) : Int) else -1
set_option maxHeartbeats 1000000 in
theorem iCorners_any (W T : Int) (A : Option Addr) (c : Nat) (bs : List Bool) (w : World) (hr : Rd w A (bs.map .bool)) (hm : bs.length ≤ maxLen) :
    Calls Tryz.prog 12 #[.agg #[.int .i64 W, .int .i64 T, .slice A bs.length c]] w fun e w' => e = .returned (.int .i64 (cmI W T bs)) ∧ Below w.heap.size w w' := by
  have X0 := C3.new w (.int .i64 W) (.int .i64 T) (.slice A bs.length c) 25
  have B0 := bl_alloc (Below.refl w.heap.size w) (.cells #[.int .i64 W, .int .i64 T, .slice A bs.length c] 25)
  have CV := Lib.hid (iRegionValid_any W T A c bs _ (hr.belo B0) hm)
  obtain ⟨x0, x1, x2⟩ := id X0
  cases hv : validB W T bs with
  | false =>
    rw [hv] at CV
    have HF := Lib.hid (show cmI W T bs = -1 by unfold cmI; rw [hv]; rfl)
    clear hv
    go_enter Tryz.func12, Tryz.ntmps12
    go_wp2_with fail
    refine CV.out.mono ?_
    rintro e w1 ⟨rfl, b1⟩
    clear x0 x1 x2
    go_wp2_with fail
    go_ret
    exact ⟨by rw [HF.out]; rfl, bl_go B0 b1⟩
  | true =>
    rw [hv] at CV
    obtain ⟨⟨w1, w6⟩, ⟨t1, t6⟩, hlen, -⟩ := validB_iff.1 hv
    have HF := Lib.hid (show cmI W T bs = ((ncN W T : Nat) : Int) by unfold cmI; rw [hv]; rfl)
    have CC := Lib.hid (fun (z : World) => corners_any W T (.slice A bs.length c) bs.length z (⟨w1, w6, t1, t6, hlen⟩ : FldF W T bs.length))
    clear hlen hv w1 w6 t1 t6
    go_enter Tryz.func12, Tryz.ntmps12
    go_wp2_with fail
    refine CV.out.mono ?_
    rintro e w1 ⟨rfl, b1⟩
    have X1 := X0.belo b1
    have B1 := bl_go B0 b1
    clear x0 x1 x2 X0 CV b1 B0
    obtain ⟨x0, x1, x2⟩ := id X1
    go_wp2_with fail
    refine (CC.out _).mono ?_
    rintro e w2 ⟨rfl, b2⟩
    clear x0 x1 x2
    go_wp2_with fail
    go_ret
    exact ⟨by rw [HF.out]; rfl, bl_go B1 b2⟩
theorem cmI_bd (W T : Int) (bs : List Bool) : -1 ≤ cmI W T bs ∧ cmI W T bs ≤ 49 := by
  unfold cmI
  split
  · rename_i hv
    obtain ⟨⟨w1, w6⟩, ⟨t1, t6⟩, hlen, -⟩ := validB_iff.1 hv
    obtain ⟨-, h1, h2⟩ := nc_bd (n := bs.length) (⟨w1, w6, t1, t6, hlen⟩ : FldF W T bs.length)
    omega
  · omega
set_option maxRecDepth 100000 in
set_option maxHeartbeats 4000000 in
theorem fnFromPast_walk {w0 : World} (A : Option Addr) (c : Nat) (bs : List Int) (hcap : bs.length ≤ c) (hm : bs.length ≤ maxLen) (hr : Rd w0 A (bs.map (.int .u8))) (hw : ∀ n ∈ bs, 0 ≤ n ∧ n ≤ 255) :
    Calls Tryz.prog 3 #[.slice A bs.length c] w0 fun e w' => e = .returned (.bool true) ∧ Below w0.heap.size w0 w' := by
  have HW := Lib.hid hw
  clear hw
  unfold maxLen at hm
  by_cases hn : bs.length ≤ 1048576
  · have hg : decide ((1048576 : Int) < (bs.length : Int)) = false := by simp; omega
    go_enter Tryz.func3, Tryz.ntmps3
    go_wp2_with fail
    refine (drawDrawFromPast_any A c bs _ hr HW.out hn hcap).mono ?_
    rintro e w1 ⟨W, T, xs, B, k, P, cp, ps, rfl, R1, hl1, Q1, hp60, hpc, B1⟩
    clear hg hn hm hr HW hcap
    have hmx : xs.length ≤ maxLen := by unfold maxLen; omega
    have hpx : ps.length ≤ maxLen := by unfold maxLen; omega
    have CI := Lib.hid (fun (z : World) (R : Rd z B (xs.map .bool)) (Q : RdP z P ps) => iFromPast_any W T B P k cp xs.length ps.length xs ps z R Q rfl hmx rfl hpx hpc)
    have CS := Lib.hid (fun (z : World) (R : Rd z B (xs.map .bool)) (Q : RdP z P ps) => sFromPast_any W T B P k cp xs.length ps.length xs ps z R Q rfl hmx rfl hpx hpc)
    have CN := Lib.hid (fun (z : World) (R : Rd z B (xs.map .bool)) (Q : RdP z P ps) => iCoupled_any W T B P k cp xs.length ps.length xs ps z R Q rfl hmx rfl hpx)
    have HA := Lib.hid (from_has (W := W) (T := T) (bs := xs) (ps := ps))
    have R2 := R1.alloc (.cells #[.int .i64 W, .int .i64 T, .slice B xs.length k] 25)
    have Q2 := Q1.belo (bl_alloc (Below.refl _ _) (.cells #[.int .i64 W, .int .i64 T, .slice B xs.length k] 25))
    have B2 := bl_alloc B1 (.cells #[.int .i64 W, .int .i64 T, .slice B xs.length k] 25)
    have X2 := C3.new w1 (.int .i64 W) (.int .i64 T) (.slice B xs.length k) 25
    clear R1 B1 Q1
    go_wp2_with fail
    generalize w1.alloc (.cells #[.int .i64 W, .int .i64 T, .slice B xs.length k] 25) = w2 at *
    generalize w1.heap.size = bx at *
    rcases HA.out with ⟨hV, hcf⟩ | ⟨hpv, hne, n, hnp, hV, hcn, hcj, hall⟩
    · rw [hV] at CI CS
      rw [hcf] at CN
      clear hV hcf HA
      have CSN := Lib.hid (fun (A' : Option Addr) (c' : Nat) (z : World) => show Calls Tryz.prog 8 #[.slice none 0 0, .slice A' 0 c'] z fun e w' => e = .returned (.bool true) ∧ Below z.heap.size z w' from sameInts_any none A' 0 c' 0 0 [] [] z (Rd.nil _ _) (Rd.nil _ _) rfl rfl (by unfold maxLen; omega) (by unfold maxLen; omega))
      refine (CI.out _ R2 Q2).mono ?_
      intro e w3 h3
      obtain ⟨rfl, b3⟩ := h3.no
      have R3 := R2.belo b3
      have Q3 := Q2.belo b3
      have B3 := bl_go B2 b3
      have X3 := X2.belo b3
      clear R2 B2 X2 Q2 b3 h3
      obtain ⟨x0, x1, x2⟩ := id X3
      go_wp2_with fail
      refine (CS.out _ R3 Q3).mono ?_
      intro e w4 h4
      obtain ⟨D, d, rfl, b4⟩ := h4.no
      have R4 := R3.belo b4
      have Q4 := Q3.belo b4
      have B4 := bl_go B3 b4
      have X4 := X3.belo b4
      clear R3 B3 X3 Q3 b4 h4 x0 x1 x2 CI CS
      go_wp2_with fail
      refine (CSN.out _ _ _).mono ?_
      rintro e w5 ⟨rfl, b5⟩
      have R5 := R4.belo b5
      have Q5 := Q4.belo b5
      have B5 := bl_go B4 b5
      have X5 := X4.belo b5
      clear R4 B4 X4 Q4 b5 CSN
      obtain ⟨x0, x1, x2⟩ := id X5
      go_wp2_with (first
        | (go_at_call 9; refine (CN.out _ R5 Q5).mono ?_; rintro e w6 ⟨rfl, b6⟩; have B6 := bl_go B5 b6)
        | (go_at_call 10; refine (alive_any _).mono ?_; rintro e w7 ⟨rfl, b7⟩))
      go_ret
      exact ⟨rfl, bl_go B6 b7⟩
    · obtain ⟨M, hM⟩ : ∃ M, runLow W T xs (sufP ps n) = M := ⟨_, rfl⟩
      rw [hM] at hV hall
      rw [hV] at CI CS
      obtain ⟨hs, h128, -⟩ := psv_iff.1 hpv
      have hval := (simp_iff.1 hs).1
      have hMl : M.length = xs.length := by
        rw [← hM]
        show (runL W T (lowT W T xs) (psN (sufP ps n))).length = _
        rw [(tiling_til (run_til hs (psN (sufP ps n)) _ (low_hgt hs hne).1)).2.1]
      obtain ⟨cm, hcm⟩ : ∃ cm, cmI W T xs = cm := ⟨_, rfl⟩
      have hcb : 0 ≤ cm ∧ cm ≤ 49 := by
        have h1 := cmI_bd W T xs
        have h2 : cmI W T xs = ((ncN W T : Nat) : Int) := by unfold cmI; rw [if_pos hval]
        omega
      have CCM := Lib.hid (fun (z : World) (R : Rd z B (xs.map .bool)) => iCorners_any W T B k xs z R hmx)
      rw [hcm] at CCM
      obtain ⟨ah, hah⟩ : ∃ ah : List Pu, [((0 : Int), true), (cm.tdiv 2, true), (cm.tdiv 2, false)] ++ ps = ah := ⟨_, rfl⟩
      have hahl : ah.length = 3 + ps.length := by rw [← hah, List.length_append]; rfl
      have hahx : ah.length ≤ maxLen := by unfold maxLen; omega
      have CSI := Lib.hid (fun (A A' : Option Addr) (c c' : Nat) (z : World) (R : Rd z A (M.map (.int .i64))) (R' : Rd z A' (M.map (.int .i64))) => show Calls Tryz.prog 8 #[.slice A xs.length c, .slice A' xs.length c'] z fun e w' => e = .returned (.bool true) ∧ Below z.heap.size z w' from by
        have := sameInts_any A A' c c' xs.length xs.length M M z R R' hMl hMl hmx hmx
        rw [decide_eq_true rfl] at this; exact this)
      have CTF := Lib.hid (fun (z : World) (R : Rd z B (xs.map .bool)) => tilingFirst_any W T B k xs.length xs z R hval rfl hne)
      have CPR := Lib.hid (fun (M1 : List Int) (hM1 : M1 ∈ tlsV W T xs) (ad : Addr) (d : Nat) (z : World) (R : Rd z B (xs.map .bool)) (D : Rd z (some ad) (M1.map (.int .i64))) (Q : RdP z P ps) => show Calls Tryz.prog 13 #[.agg #[.int .i64 W, .int .i64 T, .slice B xs.length k], .slice (some ad) xs.length d, .slice P ps.length cp] z (NewWI M xs.length z) from by
        have ht := (tlsV_mem hval).1 hM1
        have hl := (tiling_til ht).2.1
        have h := iPushRun_any W T B (some ad) P k d xs.length xs.length ps.length cp xs M1 ps z R D Q rfl hl rfl hmx hmx hpx
        rw [hpv, ht, hall M1 ht] at h
        refine h.mono fun e w' h => ?_
        rcases h with ⟨-, -, h⟩ | ⟨h, -⟩
        · exact h
        · cases h)
      have CFA := Lib.hid (fun (A : Option Addr) (c : Nat) (z : World) (R : Rd z B (xs.map .bool)) (Q : RdP z A ah) (hc : ah.length ≤ c) => iFromPast_any W T B A k c xs.length ah.length xs ah z R Q rfl hmx rfl hahx hc)
      have CPV := Lib.hid (fun (A : Option Addr) (c : Nat) (z : World) (R : Rd z B (xs.map .bool)) (Q : RdP z A ah) => iPushesValid_any W T B A k c xs.length ah.length xs ah z R Q rfl hmx rfl hahx)
      have HAT := Lib.hid (fun (h : psvB W T xs ah = true) => show fromV W T xs ah = (M, (n : Int), true) from by
        rw [← hah]
        rw [← hah] at h
        rw [from_ahead (by rw [hV]) h, hV])
      have HAF := Lib.hid (fun (h : psvB W T xs ah = false) => from_no h)
      have CCU := Lib.hid (fun (i : Nat) (hi : i ≤ ps.length) (hb : coupB W T xs (sufP ps i) = false) (z : World) (R : Rd z B (xs.map .bool)) (Q : RdP z P ps) => show Calls Tryz.prog 9 #[.agg #[.int .i64 W, .int .i64 T, .slice B xs.length k], .slice (if cp = ps.length - i then P else Option.map (fun x : Addr => x.add ((ps.length - i) * 2)) P) (ps.length - (ps.length - i)) (cp - (ps.length - i))] z (fun e w' => e = .returned (.bool false) ∧ Below z.heap.size z w') from by
        have := iCoupled_any W T B (if cp = ps.length - i then P else Option.map (fun x : Addr => x.add ((ps.length - i) * 2)) P) k (cp - (ps.length - i)) xs.length (ps.length - (ps.length - i)) xs (sufP ps i) z R (Q.suf rfl hi hpc) rfl hmx (by rw [suf_len hi]; omega) (Nat.le_trans (Nat.sub_le _ _) hpx)
        rw [hb] at this; exact this)
      have HCJ := Lib.hid hcj
      have HAH := Lib.hid hah
      have hahl2 : (3 : Nat) + ps.length ≤ 1000000000000 := by omega
      have hnI : (n : Int) ≤ (ps.length : Int) := by omega
      have hnd : decide ((ps.length : Int) < (n : Int)) = false := decide_eq_false (by omega)
      have hnn : ((n : Int) != (n : Int)) = false := by simp
      have hnq : ((n : Int) == (n : Int)) = true := by simp
      clear hV hpv hne hcn hcj hall hM hs h128 hval hMl HA CN hcm hah hahx hahl
      refine (CI.out _ R2 Q2).mono ?_
      intro e w3 h3
      obtain ⟨g3, rfl, D3, b3⟩ := h3.yes
      have R3 := R2.belo b3
      have Q3 := Q2.belo b3
      have B3 := bl_go B2 b3
      have X3 := X2.belo b3
      clear R2 B2 X2 Q2 b3 h3
      obtain ⟨x0, x1, x2⟩ := id X3
      go_wp2_with fail
      refine (CS.out _ R3 Q3).mono ?_
      intro e w4 h4
      obtain ⟨D, d, rfl, E4, b4⟩ := h4.yes
      have R4 := R3.belo b4
      have Q4 := Q3.belo b4
      have B4 := bl_go B3 b4
      have X4 := X3.belo b4
      have D4 := D3.belo b4
      clear R3 B3 X3 Q3 b4 h4 D3 x0 x1 x2 CI CS
      go_wp2_with fail
      refine (CSI.out _ _ _ _ _ D4 E4).mono ?_
      rintro e w5 ⟨rfl, b5⟩
      have R5 := R4.belo b5
      have Q5 := Q4.belo b5
      have B5 := bl_go B4 b5
      have X5 := X4.belo b5
      have D5 := D4.belo b5
      clear R4 B4 X4 Q4 b5 D4 E4
      obtain ⟨x0, x1, x2⟩ := id X5
      go_wp2_with fail
      refine (CTF.out _ R5).mono ?_
      rintro e w6 ⟨b6, ad6, d6, M6, rfl, hM6, hd6, F6⟩
      have R6 := R5.belo b6
      have Q6 := Q5.belo b6
      have B6 := bl_go B5 b6
      have X6 := X5.belo b6
      have D6 := D5.belo b6
      have CP6 := Lib.hid (CPR.out M6 hM6 ad6 d6)
      clear R5 B5 X5 Q5 b6 D5 x0 x1 x2 CTF CPR hM6
      obtain ⟨x0, x1, x2⟩ := id X6
      go_upto_region 13 with fail
      have Z0 : Below w6.heap.size w6 w6.drew := (Below.refl _ _).drew
      have KS := Lib.hid (fun (z : World) (Z : Below w6.heap.size w6 z) => show z.cell? ⟨bx, 0, none⟩ = some (.int .i64 W) ∧ z.cell? ⟨bx, 1, none⟩ = some (.int .i64 T) ∧ z.cell? ⟨bx, 2, none⟩ = some (.slice B xs.length k) from X6.belo Z)
      have CC6 := Lib.hid (fun (z : World) (Z : Below w6.heap.size w6 z) => CCM.out z (R6.belo Z))
      have OW := Lib.hid (fun (z : World) (Z : Below w6.heap.size w6 z) => show OwnPu (z.alloc (.cells #[.int .i64 0, .bool true, .int .i64 (cm.tdiv 2), .bool true, .int .i64 (cm.tdiv 2), .bool false] 38)) w6.heap.size (.slice (some ⟨z.heap.size, 0, none⟩) 3 3) [((0 : Int), true), (cm.tdiv 2, true), (cm.tdiv 2, false)] from
        ⟨_, _, rfl, World.ownsRow_lit z #[.int .i64 0, .bool true, .int .i64 (cm.tdiv 2), .bool true, .int .i64 (cm.tdiv 2), .bool false] 3 Z.size (by unfold maxLen; omega) (by simp)⟩)
      have hw2 : IntKind.i64.wrap (cm.tdiv 2) = cm.tdiv 2 := IntWalk.i64_in _ (by rw [Int.tdiv_eq_ediv_of_nonneg hcb.1]; omega)
      have hLS := Lib.hid (fun (z : World) (Z : Below w6.heap.size w6 z) => show w6.heap.size ≤ (z.alloc (.cells #[.int .i64 0, .bool true, .int .i64 (cm.tdiv 2), .bool true, .int .i64 (cm.tdiv 2), .bool false] 38)).heap.size from Nat.le_trans Z.size (bl_alloc (Below.refl z.heap.size z) _).size)
      go_region_held3 (fun w' => w'.cell? ⟨bx, 0, none⟩ = some (.int .i64 W) ∧ w'.cell? ⟨bx, 1, none⟩ = some (.int .i64 T) ∧ w'.cell? ⟨bx, 2, none⟩ = some (.slice B xs.length k))
        (first | (with_reducible exact KS.out _ Z7) | (with_reducible exact KS.out _ (bl_alloc Z5 _)) | (with_reducible exact KS.out _ Z5) | (with_reducible exact KS.out _ Z4) | (with_reducible exact KS.out _ Z0) | (with_reducible exact ⟨x0, x1, x2⟩) | go_keep)
        (first
        | (go_at_call 12; first
          | ((with_reducible refine (CC6.out _ Z0).mono ?_); rintro e w4 ⟨rfl, b4⟩; have Z4 := Z0.trans (b4.mono Z0.size))
          | ((with_reducible refine (CC6.out _ Z4).mono ?_); rintro e w5 ⟨rfl, b5⟩; have Z5 := Z4.trans (b5.mono Z4.size)))
        | ((refine step_app3 _ (by rfl) _ _ (by rfl) w6.heap.size _ [((0 : Int), true), (cm.tdiv 2, true), (cm.tdiv 2, false)] (by rfl) (OW.out _ Z5) P ps cp (by rfl) (Q6.belo (bl_alloc Z5 _)) hahl2 (hLS.out _ Z5) ah HAH.out ?_); intro A7 c7 w7 O7 b7; have Z7 := (bl_alloc Z5 (.cells #[.int .i64 0, .bool true, .int .i64 (cm.tdiv 2), .bool true, .int .i64 (cm.tdiv 2), .bool false] 38)).trans b7))
      have R7 := R6.belo Z7
      have Q7 := Q6.belo Z7
      have B7 := bl_go B6 Z7
      have X7 := X6.belo Z7
      have D7 := D6.belo Z7
      have F7 := F6.belo Z7
      have A7Q := O7.rd
      have hc7 := O7.cap
      clear R6 Q6 B6 X6 D6 F6 Z7 Z5 Z4 Z0 b4 b5 b7 O7 KS CC6 OW hLS x0 x1 x2 hw2 hcb
      obtain ⟨x0, x1, x2⟩ := id X7
      cases hpa : psvB W T xs ah with
      | true =>
        have CF7 := Lib.hid (CFA.out A7 c7 w7 R7 A7Q hc7)
        rw [HAT.out hpa] at CF7
        rw [hpa] at CPV
        clear CFA HAT HAF hpa
        go_wp2_with fail
        refine CF7.out.mono ?_
        intro e w8 h8
        obtain ⟨g8, rfl, E8, b8⟩ := h8.yes
        have R8 := R7.belo b8
        have Q8 := Q7.belo b8
        have B8 := bl_go B7 b8
        have X8 := X7.belo b8
        have D8 := D7.belo b8
        have F8 := F7.belo b8
        have AQ8 := A7Q.belo b8
        clear R7 Q7 B7 X7 D7 F7 A7Q b8 h8 CF7 hc7 x0 x1 x2
        obtain ⟨x0, x1, x2⟩ := id X8
        rcases Nat.eq_zero_or_pos n with h0 | h0
        · have hn0 : ((n : Int) == 0) = true := by rw [beq_iff_eq]; omega
          clear h0 CCU HCJ
          have Z0 : Below w8.heap.size w8 w8.drew := (Below.refl _ _).drew
          have KS := Lib.hid (fun (z : World) (Z : Below w8.heap.size w8 z) => show z.cell? ⟨bx, 0, none⟩ = some (.int .i64 W) ∧ z.cell? ⟨bx, 1, none⟩ = some (.int .i64 T) ∧ z.cell? ⟨bx, 2, none⟩ = some (.slice B xs.length k) from X8.belo Z)
          have C1 := Lib.hid (fun (z : World) (Z : Below w8.heap.size w8 z) => CP6.out z (R8.belo Z) (F8.belo Z) (Q8.belo Z))
          have C2 := Lib.hid (fun (g : Nat) (z : World) (Z : Below w8.heap.size w8 z) (R : Rd z (some ⟨g, 0, none⟩) (M.map (.int .i64))) => CSI.out (some ⟨g, 0, none⟩) (some ⟨g3, 0, none⟩) xs.length xs.length z R (D8.belo Z))
          have C3' := Lib.hid (fun (z : World) (Z : Below w8.heap.size w8 z) => CPV.out A7 c7 z (R8.belo Z) (AQ8.belo Z))
          have C4 := Lib.hid (fun (z : World) (Z : Below w8.heap.size w8 z) => CSI.out (some ⟨g8, 0, none⟩) (some ⟨g3, 0, none⟩) xs.length xs.length z (E8.belo Z) (D8.belo Z))
          clear CP6 CSI CPV
          go_upto_region 15 with fail
          refine wp_region_held_drew (S := (fun w' => w'.cell? ⟨bx, 0, none⟩ = some (.int .i64 W) ∧ w'.cell? ⟨bx, 1, none⟩ = some (.int .i64 T) ∧ w'.cell? ⟨bx, 2, none⟩ = some (.slice B xs.length k))) (by kernel_rfl) ?_ (fun hHeld => ?_)
          · exact KS.out _ Z0
          refine wpAnyH_take (i := 0) (v := ?_) rfl (by kernel_rfl) (by kernel_rfl) (by kernel_rfl) (fun _ _ _ h => h) (Or.inl ⟨by rfl, ?_⟩) (by assumption) ?_
          rotate_left
          · intro w' hSw; (try dsimp only at hSw); (go_simp; try with_reducible rfl)
          simp only [Act.put, List.setIfInBounds_toArray, List.set_cons_zero, List.set_cons_succ, List.getElem_toArray, List.getElem_cons_zero]
          refine wpAnyH_take (i := 1) (v := ?_) rfl (by kernel_rfl) (by kernel_rfl) (by kernel_rfl) (fun _ _ _ h => h) (Or.inl ⟨by rfl, ?_⟩) (by assumption) ?_
          rotate_left
          · intro w' hSw; (try dsimp only at hSw); (go_simp; try with_reducible rfl)
          simp only [Act.put, List.setIfInBounds_toArray, List.set_cons_zero, List.set_cons_succ, List.getElem_toArray, List.getElem_cons_zero, List.getElem_cons_succ]
          refine wpAnyH_take (i := 2) (v := ?_) rfl (by kernel_rfl) (by kernel_rfl) (by kernel_rfl) (fun _ _ _ h => h) (Or.inl ⟨by rfl, ?_⟩) (by assumption) ?_
          rotate_left
          · intro w' hSw; (try dsimp only at hSw); (go_simp; try with_reducible rfl)
          simp only [Act.put, List.setIfInBounds_toArray, List.set_cons_zero, List.set_cons_succ, List.getElem_toArray, List.getElem_cons_zero, List.getElem_cons_succ]
          refine wpAnyH_take (i := 4) (v := ?_) rfl (by kernel_rfl) (by kernel_rfl) (by kernel_rfl) (fun _ _ _ h => h) (Or.inl ⟨by rfl, ?_⟩) (by assumption) ?_
          rotate_left
          · intro w' hSw; (try dsimp only at hSw); (go_simp; try with_reducible rfl)
          simp only [Act.put, List.setIfInBounds_toArray, List.set_cons_zero, List.set_cons_succ, List.getElem_toArray, List.getElem_cons_zero, List.getElem_cons_succ]
          refine wpAnyH_ready (rs := [3]) (by kernel_rfl) (by simp) ?_
          refine AllReadyH.cons rfl (fun K hK => ?_) AllReadyH.nil
          simp only [List.getElem_toArray, List.getElem_cons_zero, List.getElem_cons_succ]
          go_simp
          go_at_call 13
          refine (C1.out _ Z0).mono ?_
          rintro e wa ⟨ga, rfl, Wa, hga, hgsa, ba⟩
          have Z5 := Z0.trans (ba.mono Z0.size)
          have Ra := Wa.rd
          refine hK.out _ _ ?_ (fun hHeld => ?_)
          · exact KS.out _ Z5
          clear hK K
          refine wpAnyH_ready (rs := [5]) (by kernel_rfl) (by simp) ?_
          refine AllReadyH.cons rfl (fun K hK => ?_) AllReadyH.nil
          simp only [List.getElem_toArray, List.getElem_cons_zero, List.getElem_cons_succ]
          go_simp
          go_at_call 8
          refine (C2.out _ _ Z5 Ra).mono ?_
          rintro e wb ⟨rfl, bb⟩
          have Z6 := Z5.trans (bb.mono Z5.size)
          refine hK.out _ _ ?_ (fun hHeld => ?_)
          · exact KS.out _ Z6
          clear hK K
          refine wpAnyH_take (i := 6) (v := ?_) rfl (by kernel_rfl) (by kernel_rfl) (by kernel_rfl) (fun _ _ _ h => h) (Or.inl ⟨by rfl, ?_⟩) (by assumption) ?_
          rotate_left
          · intro w' hSw; (try dsimp only at hSw); (go_simp; try with_reducible rfl)
          simp only [Act.put, List.setIfInBounds_toArray, List.set_cons_zero, List.set_cons_succ, List.getElem_toArray, List.getElem_cons_zero, List.getElem_cons_succ]
          refine wpAnyH_take (i := 7) (v := ?_) rfl (by kernel_rfl) (by kernel_rfl) (by kernel_rfl) (fun _ _ _ h => h) (Or.inl ⟨by rfl, ?_⟩) (by assumption) ?_
          rotate_left
          · intro w' hSw; (try dsimp only at hSw); (go_simp; try with_reducible rfl)
          simp only [Act.put, List.setIfInBounds_toArray, List.set_cons_zero, List.set_cons_succ, List.getElem_toArray, List.getElem_cons_zero, List.getElem_cons_succ]
          refine wpAnyH_take (i := 8) (v := ?_) rfl (by kernel_rfl) (by kernel_rfl) (by kernel_rfl) (fun _ _ _ h => h) (Or.inl ⟨by rfl, ?_⟩) (by assumption) ?_
          rotate_left
          · intro w' hSw; (try dsimp only at hSw); (go_simp; try with_reducible rfl)
          simp only [Act.put, List.setIfInBounds_toArray, List.set_cons_zero, List.set_cons_succ, List.getElem_toArray, List.getElem_cons_zero, List.getElem_cons_succ]
          refine wpAnyH_ready (rs := [9]) (by kernel_rfl) (by simp) ?_
          refine AllReadyH.cons rfl (fun K hK => ?_) AllReadyH.nil
          simp only [List.getElem_toArray, List.getElem_cons_zero, List.getElem_cons_succ]
          go_simp
          go_at_call 14
          refine (C3'.out _ Z6).mono ?_
          rintro e wc ⟨rfl, bc⟩
          have Z7 := Z6.trans (bc.mono Z6.size)
          refine hK.out _ _ ?_ (fun hHeld => ?_)
          · exact KS.out _ Z7
          clear hK K
          refine wpAnyH_take (i := 10) (v := ?_) rfl (by kernel_rfl) (by kernel_rfl) (by kernel_rfl) (fun _ _ _ h => h) (Or.inl ⟨by rfl, ?_⟩) (by assumption) ?_
          rotate_left
          · intro w' hSw; (try dsimp only at hSw); (go_simp; try with_reducible rfl)
          simp only [Act.put, List.setIfInBounds_toArray, List.set_cons_zero, List.set_cons_succ, List.getElem_toArray, List.getElem_cons_zero, List.getElem_cons_succ]
          refine wpAnyH_take (i := 11) (v := ?_) rfl (by kernel_rfl) (by kernel_rfl) (by kernel_rfl) (fun _ _ _ h => h) (Or.inl ⟨by rfl, ?_⟩) (by assumption) ?_
          rotate_left
          · intro w' hSw; (try dsimp only at hSw); (go_simp; try with_reducible rfl)
          simp only [Act.put, List.setIfInBounds_toArray, List.set_cons_zero, List.set_cons_succ, List.getElem_toArray, List.getElem_cons_zero, List.getElem_cons_succ]
          refine wpAnyH_take (i := 12) (v := ?_) rfl (by kernel_rfl) (by kernel_rfl) (by kernel_rfl) (fun _ _ _ h => h) (Or.inl ⟨by rfl, ?_⟩) (by assumption) ?_
          rotate_left
          · intro w' hSw; (try dsimp only at hSw); (go_simp; try with_reducible rfl)
          simp only [Act.put, List.setIfInBounds_toArray, List.set_cons_zero, List.set_cons_succ, List.getElem_toArray, List.getElem_cons_zero, List.getElem_cons_succ]
          refine wpAnyH_take (i := 13) (v := ?_) rfl (by kernel_rfl) (by kernel_rfl) (by kernel_rfl) (fun _ _ _ h => h) (Or.inl ⟨by rfl, ?_⟩) (by assumption) ?_
          rotate_left
          · intro w' hSw; (try dsimp only at hSw); (go_simp; try with_reducible rfl)
          simp only [Act.put, List.setIfInBounds_toArray, List.set_cons_zero, List.set_cons_succ, List.getElem_toArray, List.getElem_cons_zero, List.getElem_cons_succ]
          refine wpAnyH_take (i := 14) (v := ?_) rfl (by kernel_rfl) (by kernel_rfl) (by kernel_rfl) (fun _ _ _ h => h) (Or.inl ⟨by rfl, ?_⟩) (by assumption) ?_
          rotate_left
          · intro w' hSw; (try dsimp only at hSw); (go_simp; try with_reducible rfl)
          simp only [Act.put, List.setIfInBounds_toArray, List.set_cons_zero, List.set_cons_succ, List.getElem_toArray, List.getElem_cons_zero, List.getElem_cons_succ]
          refine wpAnyH_take (i := 15) (v := ?_) rfl (by kernel_rfl) (by kernel_rfl) (by kernel_rfl) (fun _ _ _ h => h) (Or.inl ⟨by rfl, ?_⟩) (by assumption) ?_
          rotate_left
          · intro w' hSw; (try dsimp only at hSw); (go_simp; try with_reducible rfl)
          simp only [Act.put, List.setIfInBounds_toArray, List.set_cons_zero, List.set_cons_succ, List.getElem_toArray, List.getElem_cons_zero, List.getElem_cons_succ]
          refine wpAnyH_ready (rs := [16]) (by kernel_rfl) (by simp) ?_
          refine AllReadyH.cons rfl (fun K hK => ?_) AllReadyH.nil
          simp only [List.getElem_toArray, List.getElem_cons_zero, List.getElem_cons_succ]
          go_simp
          go_at_call 8
          refine (C4.out _ Z7).mono ?_
          rintro e wd ⟨rfl, bd⟩
          have Z8 := Z7.trans (bd.mono Z7.size)
          refine hK.out _ _ ?_ (fun hHeld => ?_)
          · exact KS.out _ Z8
          clear hK K
          refine wpAnyH_take (i := 17) (v := ?_) rfl (by kernel_rfl) (by kernel_rfl) (by kernel_rfl) (fun _ _ _ h => h) (Or.inl ⟨by rfl, ?_⟩) (by assumption) ?_
          rotate_left
          · intro w' hSw; (try dsimp only at hSw); (go_simp; try with_reducible rfl)
          simp only [Act.put, List.setIfInBounds_toArray, List.set_cons_zero, List.set_cons_succ, List.getElem_toArray, List.getElem_cons_zero, List.getElem_cons_succ]
          refine wpAnyH_take (i := 18) (v := ?_) rfl (by kernel_rfl) (by kernel_rfl) (by kernel_rfl) (fun _ _ _ h => h) (Or.inl ⟨by rfl, ?_⟩) (by assumption) ?_
          rotate_left
          · intro w' hSw; (try dsimp only at hSw); (go_simp; try with_reducible rfl)
          simp only [Act.put, List.setIfInBounds_toArray, List.set_cons_zero, List.set_cons_succ, List.getElem_toArray, List.getElem_cons_zero, List.getElem_cons_succ]
          refine wpAnyH_take (i := 19) (v := ?_) rfl (by kernel_rfl) (by kernel_rfl) (by kernel_rfl) (fun _ _ _ h => h) (Or.inl ⟨by rfl, ?_⟩) (by assumption) ?_
          rotate_left
          · intro w' hSw; (try dsimp only at hSw); (go_simp; try with_reducible rfl)
          simp only [Act.put, List.setIfInBounds_toArray, List.set_cons_zero, List.set_cons_succ, List.getElem_toArray, List.getElem_cons_zero, List.getElem_cons_succ]
          refine wpAnyH_take (i := 20) (v := ?_) rfl (by kernel_rfl) (by kernel_rfl) (by kernel_rfl) (fun _ _ _ h => h) (Or.inl ⟨by rfl, ?_⟩) (by assumption) ?_
          rotate_left
          · intro w' hSw; (try dsimp only at hSw); (go_simp; try with_reducible rfl)
          simp only [Act.put, List.setIfInBounds_toArray, List.set_cons_zero, List.set_cons_succ, List.getElem_toArray, List.getElem_cons_zero, List.getElem_cons_succ]
          refine wpAnyH_take (i := 21) (v := ?_) rfl (by kernel_rfl) (by kernel_rfl) (by kernel_rfl) (fun _ _ _ h => h) (Or.inl ⟨by rfl, ?_⟩) (by assumption) ?_
          rotate_left
          · intro w' hSw; (try dsimp only at hSw); (go_simp; try with_reducible rfl)
          simp only [Act.put, List.setIfInBounds_toArray, List.set_cons_zero, List.set_cons_succ, List.getElem_toArray, List.getElem_cons_zero, List.getElem_cons_succ]
          refine wpAnyH_take (i := 22) (v := ?_) rfl (by kernel_rfl) (by kernel_rfl) (by kernel_rfl) (fun _ _ _ h => h) (Or.inl ⟨by rfl, ?_⟩) (by assumption) ?_
          rotate_left
          · intro w' hSw; (try dsimp only at hSw); (go_simp; try with_reducible rfl)
          simp only [Act.put, List.setIfInBounds_toArray, List.set_cons_zero, List.set_cons_succ, List.getElem_toArray, List.getElem_cons_zero, List.getElem_cons_succ]
          refine wpAnyH_take (i := 23) (v := ?_) rfl (by kernel_rfl) (by kernel_rfl) (by kernel_rfl) (fun _ _ _ h => h) (Or.inl ⟨by rfl, ?_⟩) (by assumption) ?_
          rotate_left
          · intro w' hSw; (try dsimp only at hSw); (go_simp; try with_reducible rfl)
          simp only [Act.put, List.setIfInBounds_toArray, List.set_cons_zero, List.set_cons_succ, List.getElem_toArray, List.getElem_cons_zero, List.getElem_cons_succ]
          refine wpAnyH_take (i := 24) (v := ?_) rfl (by kernel_rfl) (by kernel_rfl) (by kernel_rfl) (fun _ _ _ h => h) (Or.inl ⟨by rfl, ?_⟩) (by assumption) ?_
          rotate_left
          · intro w' hSw; (try dsimp only at hSw); (go_simp; try with_reducible rfl)
          simp only [Act.put, List.setIfInBounds_toArray, List.set_cons_zero, List.set_cons_succ, List.getElem_toArray, List.getElem_cons_zero, List.getElem_cons_succ]
          refine wpAnyH_take (i := 25) (v := ?_) rfl (by kernel_rfl) (by kernel_rfl) (by kernel_rfl) (fun _ _ _ h => h) (Or.inl ⟨by rfl, ?_⟩) (by assumption) ?_
          rotate_left
          · intro w' hSw; (try dsimp only at hSw); (go_simp; try with_reducible rfl)
          simp only [Act.put, List.setIfInBounds_toArray, List.set_cons_zero, List.set_cons_succ, List.getElem_toArray, List.getElem_cons_zero, List.getElem_cons_succ]
          refine wpAnyH_take (i := 26) (v := ?_) rfl (by kernel_rfl) (by kernel_rfl) (by kernel_rfl) (fun _ _ _ h => h) (Or.inl ⟨by rfl, ?_⟩) (by assumption) ?_
          rotate_left
          · intro w' hSw; (try dsimp only at hSw); (go_simp; try with_reducible rfl)
          simp only [Act.put, List.setIfInBounds_toArray, List.set_cons_zero, List.set_cons_succ, List.getElem_toArray, List.getElem_cons_zero, List.getElem_cons_succ]
          refine wpAnyH_take (i := 27) (v := ?_) rfl (by kernel_rfl) (by kernel_rfl) (by kernel_rfl) (fun _ _ _ h => h) (Or.inl ⟨by rfl, ?_⟩) (by assumption) ?_
          rotate_left
          · intro w' hSw; (try dsimp only at hSw); (go_simp; try with_reducible rfl)
          simp only [Act.put, List.setIfInBounds_toArray, List.set_cons_zero, List.set_cons_succ, List.getElem_toArray, List.getElem_cons_zero, List.getElem_cons_succ]
          refine wpAnyH_take (i := 28) (v := ?_) rfl (by kernel_rfl) (by kernel_rfl) (by kernel_rfl) (fun _ _ _ h => h) (Or.inl ⟨by rfl, ?_⟩) (by assumption) ?_
          rotate_left
          · intro w' hSw; (try dsimp only at hSw); (go_simp; try with_reducible rfl)
          simp only [Act.put, List.setIfInBounds_toArray, List.set_cons_zero, List.set_cons_succ, List.getElem_toArray, List.getElem_cons_zero, List.getElem_cons_succ]
          refine wpAnyH_take (i := 29) (v := undef) rfl (by kernel_rfl) (by kernel_rfl) (by kernel_rfl) (fun _ _ _ h => h) (Or.inr ⟨by rfl, rfl⟩) (by assumption) ?_
          simp only [Act.put, List.setIfInBounds_toArray, List.set_cons_zero, List.set_cons_succ, List.getElem_toArray, List.getElem_cons_zero, List.getElem_cons_succ]
          refine wpAnyH_take (i := 30) (v := undef) rfl (by kernel_rfl) (by kernel_rfl) (by kernel_rfl) (fun _ _ _ h => h) (Or.inr ⟨by rfl, rfl⟩) (by assumption) ?_
          simp only [Act.put, List.setIfInBounds_toArray, List.set_cons_zero, List.set_cons_succ, List.getElem_toArray, List.getElem_cons_zero, List.getElem_cons_succ]
          refine wpAnyH_take (i := 31) (v := undef) rfl (by kernel_rfl) (by kernel_rfl) (by kernel_rfl) (fun _ _ _ h => h) (Or.inr ⟨by rfl, rfl⟩) (by assumption) ?_
          simp only [Act.put, List.setIfInBounds_toArray, List.set_cons_zero, List.set_cons_succ, List.getElem_toArray, List.getElem_cons_zero, List.getElem_cons_succ]
          refine wpAnyH_take (i := 32) (v := undef) rfl (by kernel_rfl) (by kernel_rfl) (by kernel_rfl) (fun _ _ _ h => h) (Or.inr ⟨by rfl, rfl⟩) (by assumption) ?_
          simp only [Act.put, List.setIfInBounds_toArray, List.set_cons_zero, List.set_cons_succ, List.getElem_toArray, List.getElem_cons_zero, List.getElem_cons_succ]
          refine wpAnyH_take (i := 33) (v := undef) rfl (by kernel_rfl) (by kernel_rfl) (by kernel_rfl) (fun _ _ _ h => h) (Or.inr ⟨by rfl, rfl⟩) (by assumption) ?_
          simp only [Act.put, List.setIfInBounds_toArray, List.set_cons_zero, List.set_cons_succ, List.getElem_toArray, List.getElem_cons_zero, List.getElem_cons_succ]
          refine wpAnyH_take (i := 34) (v := undef) rfl (by kernel_rfl) (by kernel_rfl) (by kernel_rfl) (fun _ _ _ h => h) (Or.inr ⟨by rfl, rfl⟩) (by assumption) ?_
          simp only [Act.put, List.setIfInBounds_toArray, List.set_cons_zero, List.set_cons_succ, List.getElem_toArray, List.getElem_cons_zero, List.getElem_cons_succ]
          refine wpAnyH_take (i := 35) (v := undef) rfl (by kernel_rfl) (by kernel_rfl) (by kernel_rfl) (fun _ _ _ h => h) (Or.inr ⟨by rfl, rfl⟩) (by assumption) ?_
          simp only [Act.put, List.setIfInBounds_toArray, List.set_cons_zero, List.set_cons_succ, List.getElem_toArray, List.getElem_cons_zero, List.getElem_cons_succ]
          refine wpAnyH_take (i := 36) (v := undef) rfl (by kernel_rfl) (by kernel_rfl) (by kernel_rfl) (fun _ _ _ h => h) (Or.inr ⟨by rfl, rfl⟩) (by assumption) ?_
          simp only [Act.put, List.setIfInBounds_toArray, List.set_cons_zero, List.set_cons_succ, List.getElem_toArray, List.getElem_cons_zero, List.getElem_cons_succ]
          refine wpAnyH_take (i := 37) (v := undef) rfl (by kernel_rfl) (by kernel_rfl) (by kernel_rfl) (fun _ _ _ h => h) (Or.inr ⟨by rfl, rfl⟩) (by assumption) ?_
          simp only [Act.put, List.setIfInBounds_toArray, List.set_cons_zero, List.set_cons_succ, List.getElem_toArray, List.getElem_cons_zero, List.getElem_cons_succ]
          refine wpAnyH_take (i := 38) (v := undef) rfl (by kernel_rfl) (by kernel_rfl) (by kernel_rfl) (fun _ _ _ h => h) (Or.inr ⟨by rfl, rfl⟩) (by assumption) ?_
          simp only [Act.put, List.setIfInBounds_toArray, List.set_cons_zero, List.set_cons_succ, List.getElem_toArray, List.getElem_cons_zero, List.getElem_cons_succ]
          refine wpAnyH_take (i := 39) (v := ?_) rfl (by kernel_rfl) (by kernel_rfl) (by kernel_rfl) (fun _ _ _ h => h) (Or.inl ⟨by rfl, ?_⟩) (by assumption) ?_
          rotate_left
          · intro w' hSw; (try dsimp only at hSw); (go_simp; try with_reducible rfl)
          simp only [Act.put, List.setIfInBounds_toArray, List.set_cons_zero, List.set_cons_succ, List.getElem_toArray, List.getElem_cons_zero, List.getElem_cons_succ]
          refine wpAnyH_take (i := 40) (v := ?_) rfl (by kernel_rfl) (by kernel_rfl) (by kernel_rfl) (fun _ _ _ h => h) (Or.inl ⟨by rfl, ?_⟩) (by assumption) ?_
          rotate_left
          · intro w' hSw; (try dsimp only at hSw); (go_simp; try with_reducible rfl)
          simp only [Act.put, List.setIfInBounds_toArray, List.set_cons_zero, List.set_cons_succ, List.getElem_toArray, List.getElem_cons_zero, List.getElem_cons_succ]
          refine wpAnyH_take (i := 41) (v := ?_) rfl (by kernel_rfl) (by kernel_rfl) (by kernel_rfl) (fun _ _ _ h => h) (Or.inl ⟨by rfl, ?_⟩) (by assumption) ?_
          rotate_left
          · intro w' hSw; (try dsimp only at hSw); (go_simp; try with_reducible rfl)
          simp only [Act.put, List.setIfInBounds_toArray, List.set_cons_zero, List.set_cons_succ, List.getElem_toArray, List.getElem_cons_zero, List.getElem_cons_succ]
          refine wpAnyH_done (by kernel_rfl) ?_ _
          go_wp2_with fail
          go_ret
          exact ⟨rfl, bl_go B8 Z8⟩
        · have hn0 : ((n : Int) == 0) = false := by rw [beq_eq_false_iff_ne]; omega
          obtain ⟨i, hi⟩ : ∃ i, n = i + 1 := ⟨n - 1, by omega⟩
          have CUI := Lib.hid (CCU.out i (by omega) (HCJ.out i (by omega)))
          have hks : IntKind.i64.wrap ((ps.length : Int) - (n : Int)) = ((ps.length - n : Nat) : Int) := by rw [Int.ofNat_sub hnp]; exact IntWalk.i64_in _ (by omega)
          have hks2 : IntKind.i64.wrap (((ps.length - n : Nat) : Int) + 1) = ((ps.length - i : Nat) : Int) := by rw [show ((ps.length - i : Nat) : Int) = ((ps.length - n : Nat) : Int) + 1 by omega]; exact IntWalk.i64_in _ (by omega)
          have hkI2 : ((ps.length - i : Nat) : Int) ≤ (ps.length : Int) := by omega
          have hkI3 : ((ps.length - i : Nat) : Int) ≤ (cp : Int) := by omega
          have HI := Lib.hid hi
          clear h0 CCU HCJ hi
          have Z0 : Below w8.heap.size w8 w8.drew := (Below.refl _ _).drew
          have KS := Lib.hid (fun (z : World) (Z : Below w8.heap.size w8 z) => show z.cell? ⟨bx, 0, none⟩ = some (.int .i64 W) ∧ z.cell? ⟨bx, 1, none⟩ = some (.int .i64 T) ∧ z.cell? ⟨bx, 2, none⟩ = some (.slice B xs.length k) from X8.belo Z)
          have C1 := Lib.hid (fun (z : World) (Z : Below w8.heap.size w8 z) => CP6.out z (R8.belo Z) (F8.belo Z) (Q8.belo Z))
          have C2 := Lib.hid (fun (g : Nat) (z : World) (Z : Below w8.heap.size w8 z) (R : Rd z (some ⟨g, 0, none⟩) (M.map (.int .i64))) => CSI.out (some ⟨g, 0, none⟩) (some ⟨g3, 0, none⟩) xs.length xs.length z R (D8.belo Z))
          have C3' := Lib.hid (fun (z : World) (Z : Below w8.heap.size w8 z) => CPV.out A7 c7 z (R8.belo Z) (AQ8.belo Z))
          have C4 := Lib.hid (fun (z : World) (Z : Below w8.heap.size w8 z) => CSI.out (some ⟨g8, 0, none⟩) (some ⟨g3, 0, none⟩) xs.length xs.length z (E8.belo Z) (D8.belo Z))
          clear CP6 CSI CPV
          go_upto_region 15 with fail
          have C5 := Lib.hid (fun (z : World) (Z : Below w8.heap.size w8 z) => CUI.out z (R8.belo Z) (Q8.belo Z))
          by_cases hce : cp = ps.length - i
          · have hz : cp - (ps.length - i) = 0 := by omega
            rw [if_pos hce, hz] at C5
            have hce' : (cp = ps.length - i) = True := eq_true hce
            clear hce
            refine wp_region_held_drew (S := (fun w' => w'.cell? ⟨bx, 0, none⟩ = some (.int .i64 W) ∧ w'.cell? ⟨bx, 1, none⟩ = some (.int .i64 T) ∧ w'.cell? ⟨bx, 2, none⟩ = some (.slice B xs.length k))) (by kernel_rfl) ?_ (fun hHeld => ?_)
            · exact KS.out _ Z0
            refine wpAnyH_take (i := 0) (v := ?_) rfl (by kernel_rfl) (by kernel_rfl) (by kernel_rfl) (fun _ _ _ h => h) (Or.inl ⟨by rfl, ?_⟩) (by assumption) ?_
            rotate_left
            · intro w' hSw; (try dsimp only at hSw); (go_simp; try with_reducible rfl)
            simp only [Act.put, List.setIfInBounds_toArray, List.set_cons_zero, List.set_cons_succ, List.getElem_toArray, List.getElem_cons_zero]
            refine wpAnyH_take (i := 1) (v := ?_) rfl (by kernel_rfl) (by kernel_rfl) (by kernel_rfl) (fun _ _ _ h => h) (Or.inl ⟨by rfl, ?_⟩) (by assumption) ?_
            rotate_left
            · intro w' hSw; (try dsimp only at hSw); (go_simp; try with_reducible rfl)
            simp only [Act.put, List.setIfInBounds_toArray, List.set_cons_zero, List.set_cons_succ, List.getElem_toArray, List.getElem_cons_zero, List.getElem_cons_succ]
            refine wpAnyH_take (i := 2) (v := ?_) rfl (by kernel_rfl) (by kernel_rfl) (by kernel_rfl) (fun _ _ _ h => h) (Or.inl ⟨by rfl, ?_⟩) (by assumption) ?_
            rotate_left
            · intro w' hSw; (try dsimp only at hSw); (go_simp; try with_reducible rfl)
            simp only [Act.put, List.setIfInBounds_toArray, List.set_cons_zero, List.set_cons_succ, List.getElem_toArray, List.getElem_cons_zero, List.getElem_cons_succ]
            refine wpAnyH_take (i := 4) (v := ?_) rfl (by kernel_rfl) (by kernel_rfl) (by kernel_rfl) (fun _ _ _ h => h) (Or.inl ⟨by rfl, ?_⟩) (by assumption) ?_
            rotate_left
            · intro w' hSw; (try dsimp only at hSw); (go_simp; try with_reducible rfl)
            simp only [Act.put, List.setIfInBounds_toArray, List.set_cons_zero, List.set_cons_succ, List.getElem_toArray, List.getElem_cons_zero, List.getElem_cons_succ]
            refine wpAnyH_ready (rs := [3]) (by kernel_rfl) (by simp) ?_
            refine AllReadyH.cons rfl (fun K hK => ?_) AllReadyH.nil
            simp only [List.getElem_toArray, List.getElem_cons_zero, List.getElem_cons_succ]
            go_simp
            go_at_call 13
            refine (C1.out _ Z0).mono ?_
            rintro e wa ⟨ga, rfl, Wa, hga, hgsa, ba⟩
            have Z5 := Z0.trans (ba.mono Z0.size)
            have Ra := Wa.rd
            refine hK.out _ _ ?_ (fun hHeld => ?_)
            · exact KS.out _ Z5
            clear hK K
            refine wpAnyH_ready (rs := [5]) (by kernel_rfl) (by simp) ?_
            refine AllReadyH.cons rfl (fun K hK => ?_) AllReadyH.nil
            simp only [List.getElem_toArray, List.getElem_cons_zero, List.getElem_cons_succ]
            go_simp
            go_at_call 8
            refine (C2.out _ _ Z5 Ra).mono ?_
            rintro e wb ⟨rfl, bb⟩
            have Z6 := Z5.trans (bb.mono Z5.size)
            refine hK.out _ _ ?_ (fun hHeld => ?_)
            · exact KS.out _ Z6
            clear hK K
            refine wpAnyH_take (i := 6) (v := ?_) rfl (by kernel_rfl) (by kernel_rfl) (by kernel_rfl) (fun _ _ _ h => h) (Or.inl ⟨by rfl, ?_⟩) (by assumption) ?_
            rotate_left
            · intro w' hSw; (try dsimp only at hSw); (go_simp; try with_reducible rfl)
            simp only [Act.put, List.setIfInBounds_toArray, List.set_cons_zero, List.set_cons_succ, List.getElem_toArray, List.getElem_cons_zero, List.getElem_cons_succ]
            refine wpAnyH_take (i := 7) (v := ?_) rfl (by kernel_rfl) (by kernel_rfl) (by kernel_rfl) (fun _ _ _ h => h) (Or.inl ⟨by rfl, ?_⟩) (by assumption) ?_
            rotate_left
            · intro w' hSw; (try dsimp only at hSw); (go_simp; try with_reducible rfl)
            simp only [Act.put, List.setIfInBounds_toArray, List.set_cons_zero, List.set_cons_succ, List.getElem_toArray, List.getElem_cons_zero, List.getElem_cons_succ]
            refine wpAnyH_take (i := 8) (v := ?_) rfl (by kernel_rfl) (by kernel_rfl) (by kernel_rfl) (fun _ _ _ h => h) (Or.inl ⟨by rfl, ?_⟩) (by assumption) ?_
            rotate_left
            · intro w' hSw; (try dsimp only at hSw); (go_simp; try with_reducible rfl)
            simp only [Act.put, List.setIfInBounds_toArray, List.set_cons_zero, List.set_cons_succ, List.getElem_toArray, List.getElem_cons_zero, List.getElem_cons_succ]
            refine wpAnyH_ready (rs := [9]) (by kernel_rfl) (by simp) ?_
            refine AllReadyH.cons rfl (fun K hK => ?_) AllReadyH.nil
            simp only [List.getElem_toArray, List.getElem_cons_zero, List.getElem_cons_succ]
            go_simp
            go_at_call 14
            refine (C3'.out _ Z6).mono ?_
            rintro e wc ⟨rfl, bc⟩
            have Z7 := Z6.trans (bc.mono Z6.size)
            refine hK.out _ _ ?_ (fun hHeld => ?_)
            · exact KS.out _ Z7
            clear hK K
            refine wpAnyH_take (i := 10) (v := ?_) rfl (by kernel_rfl) (by kernel_rfl) (by kernel_rfl) (fun _ _ _ h => h) (Or.inl ⟨by rfl, ?_⟩) (by assumption) ?_
            rotate_left
            · intro w' hSw; (try dsimp only at hSw); (go_simp; try with_reducible rfl)
            simp only [Act.put, List.setIfInBounds_toArray, List.set_cons_zero, List.set_cons_succ, List.getElem_toArray, List.getElem_cons_zero, List.getElem_cons_succ]
            refine wpAnyH_take (i := 11) (v := ?_) rfl (by kernel_rfl) (by kernel_rfl) (by kernel_rfl) (fun _ _ _ h => h) (Or.inl ⟨by rfl, ?_⟩) (by assumption) ?_
            rotate_left
            · intro w' hSw; (try dsimp only at hSw); (go_simp; try with_reducible rfl)
            simp only [Act.put, List.setIfInBounds_toArray, List.set_cons_zero, List.set_cons_succ, List.getElem_toArray, List.getElem_cons_zero, List.getElem_cons_succ]
            refine wpAnyH_take (i := 12) (v := ?_) rfl (by kernel_rfl) (by kernel_rfl) (by kernel_rfl) (fun _ _ _ h => h) (Or.inl ⟨by rfl, ?_⟩) (by assumption) ?_
            rotate_left
            · intro w' hSw; (try dsimp only at hSw); (go_simp; try with_reducible rfl)
            simp only [Act.put, List.setIfInBounds_toArray, List.set_cons_zero, List.set_cons_succ, List.getElem_toArray, List.getElem_cons_zero, List.getElem_cons_succ]
            refine wpAnyH_take (i := 13) (v := ?_) rfl (by kernel_rfl) (by kernel_rfl) (by kernel_rfl) (fun _ _ _ h => h) (Or.inl ⟨by rfl, ?_⟩) (by assumption) ?_
            rotate_left
            · intro w' hSw; (try dsimp only at hSw); (go_simp; try with_reducible rfl)
            simp only [Act.put, List.setIfInBounds_toArray, List.set_cons_zero, List.set_cons_succ, List.getElem_toArray, List.getElem_cons_zero, List.getElem_cons_succ]
            refine wpAnyH_take (i := 14) (v := ?_) rfl (by kernel_rfl) (by kernel_rfl) (by kernel_rfl) (fun _ _ _ h => h) (Or.inl ⟨by rfl, ?_⟩) (by assumption) ?_
            rotate_left
            · intro w' hSw; (try dsimp only at hSw); (go_simp; try with_reducible rfl)
            simp only [Act.put, List.setIfInBounds_toArray, List.set_cons_zero, List.set_cons_succ, List.getElem_toArray, List.getElem_cons_zero, List.getElem_cons_succ]
            refine wpAnyH_take (i := 15) (v := ?_) rfl (by kernel_rfl) (by kernel_rfl) (by kernel_rfl) (fun _ _ _ h => h) (Or.inl ⟨by rfl, ?_⟩) (by assumption) ?_
            rotate_left
            · intro w' hSw; (try dsimp only at hSw); (go_simp; try with_reducible rfl)
            simp only [Act.put, List.setIfInBounds_toArray, List.set_cons_zero, List.set_cons_succ, List.getElem_toArray, List.getElem_cons_zero, List.getElem_cons_succ]
            refine wpAnyH_ready (rs := [16]) (by kernel_rfl) (by simp) ?_
            refine AllReadyH.cons rfl (fun K hK => ?_) AllReadyH.nil
            simp only [List.getElem_toArray, List.getElem_cons_zero, List.getElem_cons_succ]
            go_simp
            go_at_call 8
            refine (C4.out _ Z7).mono ?_
            rintro e wd ⟨rfl, bd⟩
            have Z8 := Z7.trans (bd.mono Z7.size)
            refine hK.out _ _ ?_ (fun hHeld => ?_)
            · exact KS.out _ Z8
            clear hK K
            refine wpAnyH_take (i := 17) (v := ?_) rfl (by kernel_rfl) (by kernel_rfl) (by kernel_rfl) (fun _ _ _ h => h) (Or.inl ⟨by rfl, ?_⟩) (by assumption) ?_
            rotate_left
            · intro w' hSw; (try dsimp only at hSw); (go_simp; try with_reducible rfl)
            simp only [Act.put, List.setIfInBounds_toArray, List.set_cons_zero, List.set_cons_succ, List.getElem_toArray, List.getElem_cons_zero, List.getElem_cons_succ]
            refine wpAnyH_take (i := 18) (v := ?_) rfl (by kernel_rfl) (by kernel_rfl) (by kernel_rfl) (fun _ _ _ h => h) (Or.inl ⟨by rfl, ?_⟩) (by assumption) ?_
            rotate_left
            · intro w' hSw; (try dsimp only at hSw); (go_simp; try with_reducible rfl)
            simp only [Act.put, List.setIfInBounds_toArray, List.set_cons_zero, List.set_cons_succ, List.getElem_toArray, List.getElem_cons_zero, List.getElem_cons_succ]
            refine wpAnyH_take (i := 19) (v := ?_) rfl (by kernel_rfl) (by kernel_rfl) (by kernel_rfl) (fun _ _ _ h => h) (Or.inl ⟨by rfl, ?_⟩) (by assumption) ?_
            rotate_left
            · intro w' hSw; (try dsimp only at hSw); (go_simp; try with_reducible rfl)
            simp only [Act.put, List.setIfInBounds_toArray, List.set_cons_zero, List.set_cons_succ, List.getElem_toArray, List.getElem_cons_zero, List.getElem_cons_succ]
            refine wpAnyH_take (i := 20) (v := ?_) rfl (by kernel_rfl) (by kernel_rfl) (by kernel_rfl) (fun _ _ _ h => h) (Or.inl ⟨by rfl, ?_⟩) (by assumption) ?_
            rotate_left
            · intro w' hSw; (try dsimp only at hSw); (go_simp; try with_reducible rfl)
            simp only [Act.put, List.setIfInBounds_toArray, List.set_cons_zero, List.set_cons_succ, List.getElem_toArray, List.getElem_cons_zero, List.getElem_cons_succ]
            refine wpAnyH_take (i := 21) (v := ?_) rfl (by kernel_rfl) (by kernel_rfl) (by kernel_rfl) (fun _ _ _ h => h) (Or.inl ⟨by rfl, ?_⟩) (by assumption) ?_
            rotate_left
            · intro w' hSw; (try dsimp only at hSw); (go_simp; try with_reducible rfl)
            simp only [Act.put, List.setIfInBounds_toArray, List.set_cons_zero, List.set_cons_succ, List.getElem_toArray, List.getElem_cons_zero, List.getElem_cons_succ]
            refine wpAnyH_take (i := 22) (v := ?_) rfl (by kernel_rfl) (by kernel_rfl) (by kernel_rfl) (fun _ _ _ h => h) (Or.inl ⟨by rfl, ?_⟩) (by assumption) ?_
            rotate_left
            · intro w' hSw; (try dsimp only at hSw); (go_simp; try with_reducible rfl)
            simp only [Act.put, List.setIfInBounds_toArray, List.set_cons_zero, List.set_cons_succ, List.getElem_toArray, List.getElem_cons_zero, List.getElem_cons_succ]
            refine wpAnyH_take (i := 23) (v := ?_) rfl (by kernel_rfl) (by kernel_rfl) (by kernel_rfl) (fun _ _ _ h => h) (Or.inl ⟨by rfl, ?_⟩) (by assumption) ?_
            rotate_left
            · intro w' hSw; (try dsimp only at hSw); (go_simp; try with_reducible rfl)
            simp only [Act.put, List.setIfInBounds_toArray, List.set_cons_zero, List.set_cons_succ, List.getElem_toArray, List.getElem_cons_zero, List.getElem_cons_succ]
            refine wpAnyH_take (i := 24) (v := ?_) rfl (by kernel_rfl) (by kernel_rfl) (by kernel_rfl) (fun _ _ _ h => h) (Or.inl ⟨by rfl, ?_⟩) (by assumption) ?_
            rotate_left
            · intro w' hSw; (try dsimp only at hSw); (go_simp; try with_reducible rfl)
            simp only [Act.put, List.setIfInBounds_toArray, List.set_cons_zero, List.set_cons_succ, List.getElem_toArray, List.getElem_cons_zero, List.getElem_cons_succ]
            refine wpAnyH_take (i := 25) (v := ?_) rfl (by kernel_rfl) (by kernel_rfl) (by kernel_rfl) (fun _ _ _ h => h) (Or.inl ⟨by rfl, ?_⟩) (by assumption) ?_
            rotate_left
            · intro w' hSw; (try dsimp only at hSw); (go_simp; try with_reducible rfl)
            simp only [Act.put, List.setIfInBounds_toArray, List.set_cons_zero, List.set_cons_succ, List.getElem_toArray, List.getElem_cons_zero, List.getElem_cons_succ]
            refine wpAnyH_take (i := 26) (v := ?_) rfl (by kernel_rfl) (by kernel_rfl) (by kernel_rfl) (fun _ _ _ h => h) (Or.inl ⟨by rfl, ?_⟩) (by assumption) ?_
            rotate_left
            · intro w' hSw; (try dsimp only at hSw); (go_simp; try with_reducible rfl)
            simp only [Act.put, List.setIfInBounds_toArray, List.set_cons_zero, List.set_cons_succ, List.getElem_toArray, List.getElem_cons_zero, List.getElem_cons_succ]
            refine wpAnyH_take (i := 27) (v := ?_) rfl (by kernel_rfl) (by kernel_rfl) (by kernel_rfl) (fun _ _ _ h => h) (Or.inl ⟨by rfl, ?_⟩) (by assumption) ?_
            rotate_left
            · intro w' hSw; (try dsimp only at hSw); (go_simp; try with_reducible rfl)
            simp only [Act.put, List.setIfInBounds_toArray, List.set_cons_zero, List.set_cons_succ, List.getElem_toArray, List.getElem_cons_zero, List.getElem_cons_succ]
            refine wpAnyH_take (i := 28) (v := ?_) rfl (by kernel_rfl) (by kernel_rfl) (by kernel_rfl) (fun _ _ _ h => h) (Or.inl ⟨by rfl, ?_⟩) (by assumption) ?_
            rotate_left
            · intro w' hSw; (try dsimp only at hSw); (go_simp; try with_reducible rfl)
            simp only [Act.put, List.setIfInBounds_toArray, List.set_cons_zero, List.set_cons_succ, List.getElem_toArray, List.getElem_cons_zero, List.getElem_cons_succ]
            refine wpAnyH_take (i := 29) (v := ?_) rfl (by kernel_rfl) (by kernel_rfl) (by kernel_rfl) (fun _ _ _ h => h) (Or.inl ⟨by rfl, ?_⟩) (by assumption) ?_
            rotate_left
            · intro w' hSw; (try dsimp only at hSw); (go_simp; try with_reducible rfl)
            simp only [Act.put, List.setIfInBounds_toArray, List.set_cons_zero, List.set_cons_succ, List.getElem_toArray, List.getElem_cons_zero, List.getElem_cons_succ]
            refine wpAnyH_take (i := 30) (v := ?_) rfl (by kernel_rfl) (by kernel_rfl) (by kernel_rfl) (fun _ _ _ h => h) (Or.inl ⟨by rfl, ?_⟩) (by assumption) ?_
            rotate_left
            · intro w' hSw; (try dsimp only at hSw); (go_simp; try with_reducible rfl)
            simp only [Act.put, List.setIfInBounds_toArray, List.set_cons_zero, List.set_cons_succ, List.getElem_toArray, List.getElem_cons_zero, List.getElem_cons_succ]
            refine wpAnyH_take (i := 31) (v := ?_) rfl (by kernel_rfl) (by kernel_rfl) (by kernel_rfl) (fun _ _ _ h => h) (Or.inl ⟨by rfl, ?_⟩) (by assumption) ?_
            rotate_left
            · intro w' hSw; (try dsimp only at hSw); (go_simp; try with_reducible rfl)
            simp only [Act.put, List.setIfInBounds_toArray, List.set_cons_zero, List.set_cons_succ, List.getElem_toArray, List.getElem_cons_zero, List.getElem_cons_succ]
            refine wpAnyH_take (i := 32) (v := ?_) rfl (by kernel_rfl) (by kernel_rfl) (by kernel_rfl) (fun _ _ _ h => h) (Or.inl ⟨by rfl, ?_⟩) (by assumption) ?_
            rotate_left
            · intro w' hSw; (try dsimp only at hSw); (go_simp; try with_reducible rfl)
            simp only [Act.put, List.setIfInBounds_toArray, List.set_cons_zero, List.set_cons_succ, List.getElem_toArray, List.getElem_cons_zero, List.getElem_cons_succ]
            refine wpAnyH_take (i := 33) (v := ?_) rfl (by kernel_rfl) (by kernel_rfl) (by kernel_rfl) (fun _ _ _ h => h) (Or.inl ⟨by rfl, ?_⟩) (by assumption) ?_
            rotate_left
            · intro w' hSw; (try dsimp only at hSw); (go_simp; try with_reducible rfl)
            simp only [Act.put, List.setIfInBounds_toArray, List.set_cons_zero, List.set_cons_succ, List.getElem_toArray, List.getElem_cons_zero, List.getElem_cons_succ]
            refine wpAnyH_take (i := 34) (v := ?_) rfl (by kernel_rfl) (by kernel_rfl) (by kernel_rfl) (fun _ _ _ h => h) (Or.inl ⟨by rfl, ?_⟩) (by assumption) ?_
            rotate_left
            · intro w' hSw; (try dsimp only at hSw); (go_simp; try with_reducible rfl)
            simp only [Act.put, List.setIfInBounds_toArray, List.set_cons_zero, List.set_cons_succ, List.getElem_toArray, List.getElem_cons_zero, List.getElem_cons_succ]
            refine wpAnyH_take (i := 35) (v := ?_) rfl (by kernel_rfl) (by kernel_rfl) (by kernel_rfl) (fun _ _ _ h => h) (Or.inl ⟨by rfl, ?_⟩) (by assumption) ?_
            rotate_left
            · intro w' hSw; (try dsimp only at hSw); (go_simp; try with_reducible rfl)
            simp only [Act.put, List.setIfInBounds_toArray, List.set_cons_zero, List.set_cons_succ, List.getElem_toArray, List.getElem_cons_zero, List.getElem_cons_succ]
            refine wpAnyH_take (i := 36) (v := ?_) rfl (by kernel_rfl) (by kernel_rfl) (by kernel_rfl) (fun _ _ _ h => h) (Or.inl ⟨by rfl, ?_⟩) (by assumption) ?_
            rotate_left
            · intro w' hSw; (try dsimp only at hSw); (go_simp; try with_reducible rfl)
            simp only [Act.put, List.setIfInBounds_toArray, List.set_cons_zero, List.set_cons_succ, List.getElem_toArray, List.getElem_cons_zero, List.getElem_cons_succ]
            refine wpAnyH_ready (rs := [37]) (by kernel_rfl) (by simp) ?_
            refine AllReadyH.cons rfl (fun K hK => ?_) AllReadyH.nil
            simp only [List.getElem_toArray, List.getElem_cons_zero, List.getElem_cons_succ]
            go_simp
            go_at_call 9
            refine (C5.out _ Z8).mono ?_
            rintro e we ⟨rfl, be⟩
            have Z9 := Z8.trans (be.mono Z8.size)
            refine hK.out _ _ ?_ (fun hHeld => ?_)
            · exact KS.out _ Z9
            clear hK K
            refine wpAnyH_take (i := 38) (v := ?_) rfl (by kernel_rfl) (by kernel_rfl) (by kernel_rfl) (fun _ _ _ h => h) (Or.inl ⟨by rfl, ?_⟩) (by assumption) ?_
            rotate_left
            · intro w' hSw; (try dsimp only at hSw); (go_simp; try with_reducible rfl)
            simp only [Act.put, List.setIfInBounds_toArray, List.set_cons_zero, List.set_cons_succ, List.getElem_toArray, List.getElem_cons_zero, List.getElem_cons_succ]
            refine wpAnyH_take (i := 39) (v := ?_) rfl (by kernel_rfl) (by kernel_rfl) (by kernel_rfl) (fun _ _ _ h => h) (Or.inl ⟨by rfl, ?_⟩) (by assumption) ?_
            rotate_left
            · intro w' hSw; (try dsimp only at hSw); (go_simp; try with_reducible rfl)
            simp only [Act.put, List.setIfInBounds_toArray, List.set_cons_zero, List.set_cons_succ, List.getElem_toArray, List.getElem_cons_zero, List.getElem_cons_succ]
            refine wpAnyH_take (i := 40) (v := ?_) rfl (by kernel_rfl) (by kernel_rfl) (by kernel_rfl) (fun _ _ _ h => h) (Or.inl ⟨by rfl, ?_⟩) (by assumption) ?_
            rotate_left
            · intro w' hSw; (try dsimp only at hSw); (go_simp; try with_reducible rfl)
            simp only [Act.put, List.setIfInBounds_toArray, List.set_cons_zero, List.set_cons_succ, List.getElem_toArray, List.getElem_cons_zero, List.getElem_cons_succ]
            refine wpAnyH_take (i := 41) (v := ?_) rfl (by kernel_rfl) (by kernel_rfl) (by kernel_rfl) (fun _ _ _ h => h) (Or.inl ⟨by rfl, ?_⟩) (by assumption) ?_
            rotate_left
            · intro w' hSw; (try dsimp only at hSw); (go_simp; try with_reducible rfl)
            simp only [Act.put, List.setIfInBounds_toArray, List.set_cons_zero, List.set_cons_succ, List.getElem_toArray, List.getElem_cons_zero, List.getElem_cons_succ]
            refine wpAnyH_done (by kernel_rfl) ?_ _
            go_wp2_with fail
            go_ret
            exact ⟨rfl, bl_go B8 Z9⟩
          · rw [if_neg hce] at C5
            refine wp_region_held_drew (S := (fun w' => w'.cell? ⟨bx, 0, none⟩ = some (.int .i64 W) ∧ w'.cell? ⟨bx, 1, none⟩ = some (.int .i64 T) ∧ w'.cell? ⟨bx, 2, none⟩ = some (.slice B xs.length k))) (by kernel_rfl) ?_ (fun hHeld => ?_)
            · exact KS.out _ Z0
            refine wpAnyH_take (i := 0) (v := ?_) rfl (by kernel_rfl) (by kernel_rfl) (by kernel_rfl) (fun _ _ _ h => h) (Or.inl ⟨by rfl, ?_⟩) (by assumption) ?_
            rotate_left
            · intro w' hSw; (try dsimp only at hSw); (go_simp; try with_reducible rfl)
            simp only [Act.put, List.setIfInBounds_toArray, List.set_cons_zero, List.set_cons_succ, List.getElem_toArray, List.getElem_cons_zero]
            refine wpAnyH_take (i := 1) (v := ?_) rfl (by kernel_rfl) (by kernel_rfl) (by kernel_rfl) (fun _ _ _ h => h) (Or.inl ⟨by rfl, ?_⟩) (by assumption) ?_
            rotate_left
            · intro w' hSw; (try dsimp only at hSw); (go_simp; try with_reducible rfl)
            simp only [Act.put, List.setIfInBounds_toArray, List.set_cons_zero, List.set_cons_succ, List.getElem_toArray, List.getElem_cons_zero, List.getElem_cons_succ]
            refine wpAnyH_take (i := 2) (v := ?_) rfl (by kernel_rfl) (by kernel_rfl) (by kernel_rfl) (fun _ _ _ h => h) (Or.inl ⟨by rfl, ?_⟩) (by assumption) ?_
            rotate_left
            · intro w' hSw; (try dsimp only at hSw); (go_simp; try with_reducible rfl)
            simp only [Act.put, List.setIfInBounds_toArray, List.set_cons_zero, List.set_cons_succ, List.getElem_toArray, List.getElem_cons_zero, List.getElem_cons_succ]
            refine wpAnyH_take (i := 4) (v := ?_) rfl (by kernel_rfl) (by kernel_rfl) (by kernel_rfl) (fun _ _ _ h => h) (Or.inl ⟨by rfl, ?_⟩) (by assumption) ?_
            rotate_left
            · intro w' hSw; (try dsimp only at hSw); (go_simp; try with_reducible rfl)
            simp only [Act.put, List.setIfInBounds_toArray, List.set_cons_zero, List.set_cons_succ, List.getElem_toArray, List.getElem_cons_zero, List.getElem_cons_succ]
            refine wpAnyH_ready (rs := [3]) (by kernel_rfl) (by simp) ?_
            refine AllReadyH.cons rfl (fun K hK => ?_) AllReadyH.nil
            simp only [List.getElem_toArray, List.getElem_cons_zero, List.getElem_cons_succ]
            go_simp
            go_at_call 13
            refine (C1.out _ Z0).mono ?_
            rintro e wa ⟨ga, rfl, Wa, hga, hgsa, ba⟩
            have Z5 := Z0.trans (ba.mono Z0.size)
            have Ra := Wa.rd
            refine hK.out _ _ ?_ (fun hHeld => ?_)
            · exact KS.out _ Z5
            clear hK K
            refine wpAnyH_ready (rs := [5]) (by kernel_rfl) (by simp) ?_
            refine AllReadyH.cons rfl (fun K hK => ?_) AllReadyH.nil
            simp only [List.getElem_toArray, List.getElem_cons_zero, List.getElem_cons_succ]
            go_simp
            go_at_call 8
            refine (C2.out _ _ Z5 Ra).mono ?_
            rintro e wb ⟨rfl, bb⟩
            have Z6 := Z5.trans (bb.mono Z5.size)
            refine hK.out _ _ ?_ (fun hHeld => ?_)
            · exact KS.out _ Z6
            clear hK K
            refine wpAnyH_take (i := 6) (v := ?_) rfl (by kernel_rfl) (by kernel_rfl) (by kernel_rfl) (fun _ _ _ h => h) (Or.inl ⟨by rfl, ?_⟩) (by assumption) ?_
            rotate_left
            · intro w' hSw; (try dsimp only at hSw); (go_simp; try with_reducible rfl)
            simp only [Act.put, List.setIfInBounds_toArray, List.set_cons_zero, List.set_cons_succ, List.getElem_toArray, List.getElem_cons_zero, List.getElem_cons_succ]
            refine wpAnyH_take (i := 7) (v := ?_) rfl (by kernel_rfl) (by kernel_rfl) (by kernel_rfl) (fun _ _ _ h => h) (Or.inl ⟨by rfl, ?_⟩) (by assumption) ?_
            rotate_left
            · intro w' hSw; (try dsimp only at hSw); (go_simp; try with_reducible rfl)
            simp only [Act.put, List.setIfInBounds_toArray, List.set_cons_zero, List.set_cons_succ, List.getElem_toArray, List.getElem_cons_zero, List.getElem_cons_succ]
            refine wpAnyH_take (i := 8) (v := ?_) rfl (by kernel_rfl) (by kernel_rfl) (by kernel_rfl) (fun _ _ _ h => h) (Or.inl ⟨by rfl, ?_⟩) (by assumption) ?_
            rotate_left
            · intro w' hSw; (try dsimp only at hSw); (go_simp; try with_reducible rfl)
            simp only [Act.put, List.setIfInBounds_toArray, List.set_cons_zero, List.set_cons_succ, List.getElem_toArray, List.getElem_cons_zero, List.getElem_cons_succ]
            refine wpAnyH_ready (rs := [9]) (by kernel_rfl) (by simp) ?_
            refine AllReadyH.cons rfl (fun K hK => ?_) AllReadyH.nil
            simp only [List.getElem_toArray, List.getElem_cons_zero, List.getElem_cons_succ]
            go_simp
            go_at_call 14
            refine (C3'.out _ Z6).mono ?_
            rintro e wc ⟨rfl, bc⟩
            have Z7 := Z6.trans (bc.mono Z6.size)
            refine hK.out _ _ ?_ (fun hHeld => ?_)
            · exact KS.out _ Z7
            clear hK K
            refine wpAnyH_take (i := 10) (v := ?_) rfl (by kernel_rfl) (by kernel_rfl) (by kernel_rfl) (fun _ _ _ h => h) (Or.inl ⟨by rfl, ?_⟩) (by assumption) ?_
            rotate_left
            · intro w' hSw; (try dsimp only at hSw); (go_simp; try with_reducible rfl)
            simp only [Act.put, List.setIfInBounds_toArray, List.set_cons_zero, List.set_cons_succ, List.getElem_toArray, List.getElem_cons_zero, List.getElem_cons_succ]
            refine wpAnyH_take (i := 11) (v := ?_) rfl (by kernel_rfl) (by kernel_rfl) (by kernel_rfl) (fun _ _ _ h => h) (Or.inl ⟨by rfl, ?_⟩) (by assumption) ?_
            rotate_left
            · intro w' hSw; (try dsimp only at hSw); (go_simp; try with_reducible rfl)
            simp only [Act.put, List.setIfInBounds_toArray, List.set_cons_zero, List.set_cons_succ, List.getElem_toArray, List.getElem_cons_zero, List.getElem_cons_succ]
            refine wpAnyH_take (i := 12) (v := ?_) rfl (by kernel_rfl) (by kernel_rfl) (by kernel_rfl) (fun _ _ _ h => h) (Or.inl ⟨by rfl, ?_⟩) (by assumption) ?_
            rotate_left
            · intro w' hSw; (try dsimp only at hSw); (go_simp; try with_reducible rfl)
            simp only [Act.put, List.setIfInBounds_toArray, List.set_cons_zero, List.set_cons_succ, List.getElem_toArray, List.getElem_cons_zero, List.getElem_cons_succ]
            refine wpAnyH_take (i := 13) (v := ?_) rfl (by kernel_rfl) (by kernel_rfl) (by kernel_rfl) (fun _ _ _ h => h) (Or.inl ⟨by rfl, ?_⟩) (by assumption) ?_
            rotate_left
            · intro w' hSw; (try dsimp only at hSw); (go_simp; try with_reducible rfl)
            simp only [Act.put, List.setIfInBounds_toArray, List.set_cons_zero, List.set_cons_succ, List.getElem_toArray, List.getElem_cons_zero, List.getElem_cons_succ]
            refine wpAnyH_take (i := 14) (v := ?_) rfl (by kernel_rfl) (by kernel_rfl) (by kernel_rfl) (fun _ _ _ h => h) (Or.inl ⟨by rfl, ?_⟩) (by assumption) ?_
            rotate_left
            · intro w' hSw; (try dsimp only at hSw); (go_simp; try with_reducible rfl)
            simp only [Act.put, List.setIfInBounds_toArray, List.set_cons_zero, List.set_cons_succ, List.getElem_toArray, List.getElem_cons_zero, List.getElem_cons_succ]
            refine wpAnyH_take (i := 15) (v := ?_) rfl (by kernel_rfl) (by kernel_rfl) (by kernel_rfl) (fun _ _ _ h => h) (Or.inl ⟨by rfl, ?_⟩) (by assumption) ?_
            rotate_left
            · intro w' hSw; (try dsimp only at hSw); (go_simp; try with_reducible rfl)
            simp only [Act.put, List.setIfInBounds_toArray, List.set_cons_zero, List.set_cons_succ, List.getElem_toArray, List.getElem_cons_zero, List.getElem_cons_succ]
            refine wpAnyH_ready (rs := [16]) (by kernel_rfl) (by simp) ?_
            refine AllReadyH.cons rfl (fun K hK => ?_) AllReadyH.nil
            simp only [List.getElem_toArray, List.getElem_cons_zero, List.getElem_cons_succ]
            go_simp
            go_at_call 8
            refine (C4.out _ Z7).mono ?_
            rintro e wd ⟨rfl, bd⟩
            have Z8 := Z7.trans (bd.mono Z7.size)
            refine hK.out _ _ ?_ (fun hHeld => ?_)
            · exact KS.out _ Z8
            clear hK K
            refine wpAnyH_take (i := 17) (v := ?_) rfl (by kernel_rfl) (by kernel_rfl) (by kernel_rfl) (fun _ _ _ h => h) (Or.inl ⟨by rfl, ?_⟩) (by assumption) ?_
            rotate_left
            · intro w' hSw; (try dsimp only at hSw); (go_simp; try with_reducible rfl)
            simp only [Act.put, List.setIfInBounds_toArray, List.set_cons_zero, List.set_cons_succ, List.getElem_toArray, List.getElem_cons_zero, List.getElem_cons_succ]
            refine wpAnyH_take (i := 18) (v := ?_) rfl (by kernel_rfl) (by kernel_rfl) (by kernel_rfl) (fun _ _ _ h => h) (Or.inl ⟨by rfl, ?_⟩) (by assumption) ?_
            rotate_left
            · intro w' hSw; (try dsimp only at hSw); (go_simp; try with_reducible rfl)
            simp only [Act.put, List.setIfInBounds_toArray, List.set_cons_zero, List.set_cons_succ, List.getElem_toArray, List.getElem_cons_zero, List.getElem_cons_succ]
            refine wpAnyH_take (i := 19) (v := ?_) rfl (by kernel_rfl) (by kernel_rfl) (by kernel_rfl) (fun _ _ _ h => h) (Or.inl ⟨by rfl, ?_⟩) (by assumption) ?_
            rotate_left
            · intro w' hSw; (try dsimp only at hSw); (go_simp; try with_reducible rfl)
            simp only [Act.put, List.setIfInBounds_toArray, List.set_cons_zero, List.set_cons_succ, List.getElem_toArray, List.getElem_cons_zero, List.getElem_cons_succ]
            refine wpAnyH_take (i := 20) (v := ?_) rfl (by kernel_rfl) (by kernel_rfl) (by kernel_rfl) (fun _ _ _ h => h) (Or.inl ⟨by rfl, ?_⟩) (by assumption) ?_
            rotate_left
            · intro w' hSw; (try dsimp only at hSw); (go_simp; try with_reducible rfl)
            simp only [Act.put, List.setIfInBounds_toArray, List.set_cons_zero, List.set_cons_succ, List.getElem_toArray, List.getElem_cons_zero, List.getElem_cons_succ]
            refine wpAnyH_take (i := 21) (v := ?_) rfl (by kernel_rfl) (by kernel_rfl) (by kernel_rfl) (fun _ _ _ h => h) (Or.inl ⟨by rfl, ?_⟩) (by assumption) ?_
            rotate_left
            · intro w' hSw; (try dsimp only at hSw); (go_simp; try with_reducible rfl)
            simp only [Act.put, List.setIfInBounds_toArray, List.set_cons_zero, List.set_cons_succ, List.getElem_toArray, List.getElem_cons_zero, List.getElem_cons_succ]
            refine wpAnyH_take (i := 22) (v := ?_) rfl (by kernel_rfl) (by kernel_rfl) (by kernel_rfl) (fun _ _ _ h => h) (Or.inl ⟨by rfl, ?_⟩) (by assumption) ?_
            rotate_left
            · intro w' hSw; (try dsimp only at hSw); (go_simp; try with_reducible rfl)
            simp only [Act.put, List.setIfInBounds_toArray, List.set_cons_zero, List.set_cons_succ, List.getElem_toArray, List.getElem_cons_zero, List.getElem_cons_succ]
            refine wpAnyH_take (i := 23) (v := ?_) rfl (by kernel_rfl) (by kernel_rfl) (by kernel_rfl) (fun _ _ _ h => h) (Or.inl ⟨by rfl, ?_⟩) (by assumption) ?_
            rotate_left
            · intro w' hSw; (try dsimp only at hSw); (go_simp; try with_reducible rfl)
            simp only [Act.put, List.setIfInBounds_toArray, List.set_cons_zero, List.set_cons_succ, List.getElem_toArray, List.getElem_cons_zero, List.getElem_cons_succ]
            refine wpAnyH_take (i := 24) (v := ?_) rfl (by kernel_rfl) (by kernel_rfl) (by kernel_rfl) (fun _ _ _ h => h) (Or.inl ⟨by rfl, ?_⟩) (by assumption) ?_
            rotate_left
            · intro w' hSw; (try dsimp only at hSw); (go_simp; try with_reducible rfl)
            simp only [Act.put, List.setIfInBounds_toArray, List.set_cons_zero, List.set_cons_succ, List.getElem_toArray, List.getElem_cons_zero, List.getElem_cons_succ]
            refine wpAnyH_take (i := 25) (v := ?_) rfl (by kernel_rfl) (by kernel_rfl) (by kernel_rfl) (fun _ _ _ h => h) (Or.inl ⟨by rfl, ?_⟩) (by assumption) ?_
            rotate_left
            · intro w' hSw; (try dsimp only at hSw); (go_simp; try with_reducible rfl)
            simp only [Act.put, List.setIfInBounds_toArray, List.set_cons_zero, List.set_cons_succ, List.getElem_toArray, List.getElem_cons_zero, List.getElem_cons_succ]
            refine wpAnyH_take (i := 26) (v := ?_) rfl (by kernel_rfl) (by kernel_rfl) (by kernel_rfl) (fun _ _ _ h => h) (Or.inl ⟨by rfl, ?_⟩) (by assumption) ?_
            rotate_left
            · intro w' hSw; (try dsimp only at hSw); (go_simp; try with_reducible rfl)
            simp only [Act.put, List.setIfInBounds_toArray, List.set_cons_zero, List.set_cons_succ, List.getElem_toArray, List.getElem_cons_zero, List.getElem_cons_succ]
            refine wpAnyH_take (i := 27) (v := ?_) rfl (by kernel_rfl) (by kernel_rfl) (by kernel_rfl) (fun _ _ _ h => h) (Or.inl ⟨by rfl, ?_⟩) (by assumption) ?_
            rotate_left
            · intro w' hSw; (try dsimp only at hSw); (go_simp; try with_reducible rfl)
            simp only [Act.put, List.setIfInBounds_toArray, List.set_cons_zero, List.set_cons_succ, List.getElem_toArray, List.getElem_cons_zero, List.getElem_cons_succ]
            refine wpAnyH_take (i := 28) (v := ?_) rfl (by kernel_rfl) (by kernel_rfl) (by kernel_rfl) (fun _ _ _ h => h) (Or.inl ⟨by rfl, ?_⟩) (by assumption) ?_
            rotate_left
            · intro w' hSw; (try dsimp only at hSw); (go_simp; try with_reducible rfl)
            simp only [Act.put, List.setIfInBounds_toArray, List.set_cons_zero, List.set_cons_succ, List.getElem_toArray, List.getElem_cons_zero, List.getElem_cons_succ]
            refine wpAnyH_take (i := 29) (v := ?_) rfl (by kernel_rfl) (by kernel_rfl) (by kernel_rfl) (fun _ _ _ h => h) (Or.inl ⟨by rfl, ?_⟩) (by assumption) ?_
            rotate_left
            · intro w' hSw; (try dsimp only at hSw); (go_simp; try with_reducible rfl)
            simp only [Act.put, List.setIfInBounds_toArray, List.set_cons_zero, List.set_cons_succ, List.getElem_toArray, List.getElem_cons_zero, List.getElem_cons_succ]
            refine wpAnyH_take (i := 30) (v := ?_) rfl (by kernel_rfl) (by kernel_rfl) (by kernel_rfl) (fun _ _ _ h => h) (Or.inl ⟨by rfl, ?_⟩) (by assumption) ?_
            rotate_left
            · intro w' hSw; (try dsimp only at hSw); (go_simp; try with_reducible rfl)
            simp only [Act.put, List.setIfInBounds_toArray, List.set_cons_zero, List.set_cons_succ, List.getElem_toArray, List.getElem_cons_zero, List.getElem_cons_succ]
            refine wpAnyH_take (i := 31) (v := ?_) rfl (by kernel_rfl) (by kernel_rfl) (by kernel_rfl) (fun _ _ _ h => h) (Or.inl ⟨by rfl, ?_⟩) (by assumption) ?_
            rotate_left
            · intro w' hSw; (try dsimp only at hSw); (go_simp; try with_reducible rfl)
            simp only [Act.put, List.setIfInBounds_toArray, List.set_cons_zero, List.set_cons_succ, List.getElem_toArray, List.getElem_cons_zero, List.getElem_cons_succ]
            refine wpAnyH_take (i := 32) (v := ?_) rfl (by kernel_rfl) (by kernel_rfl) (by kernel_rfl) (fun _ _ _ h => h) (Or.inl ⟨by rfl, ?_⟩) (by assumption) ?_
            rotate_left
            · intro w' hSw; (try dsimp only at hSw); (go_simp; try with_reducible rfl)
            simp only [Act.put, List.setIfInBounds_toArray, List.set_cons_zero, List.set_cons_succ, List.getElem_toArray, List.getElem_cons_zero, List.getElem_cons_succ]
            refine wpAnyH_take (i := 33) (v := ?_) rfl (by kernel_rfl) (by kernel_rfl) (by kernel_rfl) (fun _ _ _ h => h) (Or.inl ⟨by rfl, ?_⟩) (by assumption) ?_
            rotate_left
            · intro w' hSw; (try dsimp only at hSw); (go_simp; try with_reducible rfl)
            simp only [Act.put, List.setIfInBounds_toArray, List.set_cons_zero, List.set_cons_succ, List.getElem_toArray, List.getElem_cons_zero, List.getElem_cons_succ]
            refine wpAnyH_take (i := 34) (v := ?_) rfl (by kernel_rfl) (by kernel_rfl) (by kernel_rfl) (fun _ _ _ h => h) (Or.inl ⟨by rfl, ?_⟩) (by assumption) ?_
            rotate_left
            · intro w' hSw; (try dsimp only at hSw); (go_simp; try with_reducible rfl)
            simp only [Act.put, List.setIfInBounds_toArray, List.set_cons_zero, List.set_cons_succ, List.getElem_toArray, List.getElem_cons_zero, List.getElem_cons_succ]
            refine wpAnyH_take (i := 35) (v := ?_) rfl (by kernel_rfl) (by kernel_rfl) (by kernel_rfl) (fun _ _ _ h => h) (Or.inl ⟨by rfl, ?_⟩) (by assumption) ?_
            rotate_left
            · intro w' hSw; (try dsimp only at hSw); (go_simp; try with_reducible rfl)
            simp only [Act.put, List.setIfInBounds_toArray, List.set_cons_zero, List.set_cons_succ, List.getElem_toArray, List.getElem_cons_zero, List.getElem_cons_succ]
            refine wpAnyH_take (i := 36) (v := ?_) rfl (by kernel_rfl) (by kernel_rfl) (by kernel_rfl) (fun _ _ _ h => h) (Or.inl ⟨by rfl, ?_⟩) (by assumption) ?_
            rotate_left
            · intro w' hSw; (try dsimp only at hSw); (go_simp; try with_reducible rfl)
            simp only [Act.put, List.setIfInBounds_toArray, List.set_cons_zero, List.set_cons_succ, List.getElem_toArray, List.getElem_cons_zero, List.getElem_cons_succ]
            refine wpAnyH_ready (rs := [37]) (by kernel_rfl) (by simp) ?_
            refine AllReadyH.cons rfl (fun K hK => ?_) AllReadyH.nil
            simp only [List.getElem_toArray, List.getElem_cons_zero, List.getElem_cons_succ]
            go_simp
            go_at_call 9
            refine (C5.out _ Z8).mono ?_
            rintro e we ⟨rfl, be⟩
            have Z9 := Z8.trans (be.mono Z8.size)
            refine hK.out _ _ ?_ (fun hHeld => ?_)
            · exact KS.out _ Z9
            clear hK K
            refine wpAnyH_take (i := 38) (v := ?_) rfl (by kernel_rfl) (by kernel_rfl) (by kernel_rfl) (fun _ _ _ h => h) (Or.inl ⟨by rfl, ?_⟩) (by assumption) ?_
            rotate_left
            · intro w' hSw; (try dsimp only at hSw); (go_simp; try with_reducible rfl)
            simp only [Act.put, List.setIfInBounds_toArray, List.set_cons_zero, List.set_cons_succ, List.getElem_toArray, List.getElem_cons_zero, List.getElem_cons_succ]
            refine wpAnyH_take (i := 39) (v := ?_) rfl (by kernel_rfl) (by kernel_rfl) (by kernel_rfl) (fun _ _ _ h => h) (Or.inl ⟨by rfl, ?_⟩) (by assumption) ?_
            rotate_left
            · intro w' hSw; (try dsimp only at hSw); (go_simp; try with_reducible rfl)
            simp only [Act.put, List.setIfInBounds_toArray, List.set_cons_zero, List.set_cons_succ, List.getElem_toArray, List.getElem_cons_zero, List.getElem_cons_succ]
            refine wpAnyH_take (i := 40) (v := ?_) rfl (by kernel_rfl) (by kernel_rfl) (by kernel_rfl) (fun _ _ _ h => h) (Or.inl ⟨by rfl, ?_⟩) (by assumption) ?_
            rotate_left
            · intro w' hSw; (try dsimp only at hSw); (go_simp; try with_reducible rfl)
            simp only [Act.put, List.setIfInBounds_toArray, List.set_cons_zero, List.set_cons_succ, List.getElem_toArray, List.getElem_cons_zero, List.getElem_cons_succ]
            refine wpAnyH_take (i := 41) (v := ?_) rfl (by kernel_rfl) (by kernel_rfl) (by kernel_rfl) (fun _ _ _ h => h) (Or.inl ⟨by rfl, ?_⟩) (by assumption) ?_
            rotate_left
            · intro w' hSw; (try dsimp only at hSw); (go_simp; try with_reducible rfl)
            simp only [Act.put, List.setIfInBounds_toArray, List.set_cons_zero, List.set_cons_succ, List.getElem_toArray, List.getElem_cons_zero, List.getElem_cons_succ]
            refine wpAnyH_done (by kernel_rfl) ?_ _
            go_wp2_with fail
            go_ret
            exact ⟨rfl, bl_go B8 Z9⟩
      | false =>
        have CF7 := Lib.hid (CFA.out A7 c7 w7 R7 A7Q hc7)
        rw [HAF.out hpa] at CF7
        rw [hpa] at CPV
        clear CFA HAT HAF hpa
        go_wp2_with fail
        refine CF7.out.mono ?_
        intro e w8 h8
        obtain ⟨rfl, b8⟩ := h8.no
        have R8 := R7.belo b8
        have Q8 := Q7.belo b8
        have B8 := bl_go B7 b8
        have X8 := X7.belo b8
        have D8 := D7.belo b8
        have F8 := F7.belo b8
        have AQ8 := A7Q.belo b8
        clear R7 Q7 B7 X7 D7 F7 A7Q b8 h8 CF7 hc7 x0 x1 x2
        obtain ⟨x0, x1, x2⟩ := id X8
        rcases Nat.eq_zero_or_pos n with h0 | h0
        · have hn0 : ((n : Int) == 0) = true := by rw [beq_iff_eq]; omega
          clear h0 CCU HCJ
          have Z0 : Below w8.heap.size w8 w8.drew := (Below.refl _ _).drew
          have KS := Lib.hid (fun (z : World) (Z : Below w8.heap.size w8 z) => show z.cell? ⟨bx, 0, none⟩ = some (.int .i64 W) ∧ z.cell? ⟨bx, 1, none⟩ = some (.int .i64 T) ∧ z.cell? ⟨bx, 2, none⟩ = some (.slice B xs.length k) from X8.belo Z)
          have C1 := Lib.hid (fun (z : World) (Z : Below w8.heap.size w8 z) => CP6.out z (R8.belo Z) (F8.belo Z) (Q8.belo Z))
          have C2 := Lib.hid (fun (g : Nat) (z : World) (Z : Below w8.heap.size w8 z) (R : Rd z (some ⟨g, 0, none⟩) (M.map (.int .i64))) => CSI.out (some ⟨g, 0, none⟩) (some ⟨g3, 0, none⟩) xs.length xs.length z R (D8.belo Z))
          have C3' := Lib.hid (fun (z : World) (Z : Below w8.heap.size w8 z) => CPV.out A7 c7 z (R8.belo Z) (AQ8.belo Z))
          clear CP6 CSI CPV
          go_upto_region 15 with fail
          refine wp_region_held_drew (S := (fun w' => w'.cell? ⟨bx, 0, none⟩ = some (.int .i64 W) ∧ w'.cell? ⟨bx, 1, none⟩ = some (.int .i64 T) ∧ w'.cell? ⟨bx, 2, none⟩ = some (.slice B xs.length k))) (by kernel_rfl) ?_ (fun hHeld => ?_)
          · exact KS.out _ Z0
          refine wpAnyH_take (i := 0) (v := ?_) rfl (by kernel_rfl) (by kernel_rfl) (by kernel_rfl) (fun _ _ _ h => h) (Or.inl ⟨by rfl, ?_⟩) (by assumption) ?_
          rotate_left
          · intro w' hSw; (try dsimp only at hSw); (go_simp; try with_reducible rfl)
          simp only [Act.put, List.setIfInBounds_toArray, List.set_cons_zero, List.set_cons_succ, List.getElem_toArray, List.getElem_cons_zero]
          refine wpAnyH_take (i := 1) (v := ?_) rfl (by kernel_rfl) (by kernel_rfl) (by kernel_rfl) (fun _ _ _ h => h) (Or.inl ⟨by rfl, ?_⟩) (by assumption) ?_
          rotate_left
          · intro w' hSw; (try dsimp only at hSw); (go_simp; try with_reducible rfl)
          simp only [Act.put, List.setIfInBounds_toArray, List.set_cons_zero, List.set_cons_succ, List.getElem_toArray, List.getElem_cons_zero, List.getElem_cons_succ]
          refine wpAnyH_take (i := 2) (v := ?_) rfl (by kernel_rfl) (by kernel_rfl) (by kernel_rfl) (fun _ _ _ h => h) (Or.inl ⟨by rfl, ?_⟩) (by assumption) ?_
          rotate_left
          · intro w' hSw; (try dsimp only at hSw); (go_simp; try with_reducible rfl)
          simp only [Act.put, List.setIfInBounds_toArray, List.set_cons_zero, List.set_cons_succ, List.getElem_toArray, List.getElem_cons_zero, List.getElem_cons_succ]
          refine wpAnyH_take (i := 4) (v := ?_) rfl (by kernel_rfl) (by kernel_rfl) (by kernel_rfl) (fun _ _ _ h => h) (Or.inl ⟨by rfl, ?_⟩) (by assumption) ?_
          rotate_left
          · intro w' hSw; (try dsimp only at hSw); (go_simp; try with_reducible rfl)
          simp only [Act.put, List.setIfInBounds_toArray, List.set_cons_zero, List.set_cons_succ, List.getElem_toArray, List.getElem_cons_zero, List.getElem_cons_succ]
          refine wpAnyH_ready (rs := [3]) (by kernel_rfl) (by simp) ?_
          refine AllReadyH.cons rfl (fun K hK => ?_) AllReadyH.nil
          simp only [List.getElem_toArray, List.getElem_cons_zero, List.getElem_cons_succ]
          go_simp
          go_at_call 13
          refine (C1.out _ Z0).mono ?_
          rintro e wa ⟨ga, rfl, Wa, hga, hgsa, ba⟩
          have Z5 := Z0.trans (ba.mono Z0.size)
          have Ra := Wa.rd
          refine hK.out _ _ ?_ (fun hHeld => ?_)
          · exact KS.out _ Z5
          clear hK K
          refine wpAnyH_ready (rs := [5]) (by kernel_rfl) (by simp) ?_
          refine AllReadyH.cons rfl (fun K hK => ?_) AllReadyH.nil
          simp only [List.getElem_toArray, List.getElem_cons_zero, List.getElem_cons_succ]
          go_simp
          go_at_call 8
          refine (C2.out _ _ Z5 Ra).mono ?_
          rintro e wb ⟨rfl, bb⟩
          have Z6 := Z5.trans (bb.mono Z5.size)
          refine hK.out _ _ ?_ (fun hHeld => ?_)
          · exact KS.out _ Z6
          clear hK K
          refine wpAnyH_take (i := 6) (v := ?_) rfl (by kernel_rfl) (by kernel_rfl) (by kernel_rfl) (fun _ _ _ h => h) (Or.inl ⟨by rfl, ?_⟩) (by assumption) ?_
          rotate_left
          · intro w' hSw; (try dsimp only at hSw); (go_simp; try with_reducible rfl)
          simp only [Act.put, List.setIfInBounds_toArray, List.set_cons_zero, List.set_cons_succ, List.getElem_toArray, List.getElem_cons_zero, List.getElem_cons_succ]
          refine wpAnyH_take (i := 7) (v := ?_) rfl (by kernel_rfl) (by kernel_rfl) (by kernel_rfl) (fun _ _ _ h => h) (Or.inl ⟨by rfl, ?_⟩) (by assumption) ?_
          rotate_left
          · intro w' hSw; (try dsimp only at hSw); (go_simp; try with_reducible rfl)
          simp only [Act.put, List.setIfInBounds_toArray, List.set_cons_zero, List.set_cons_succ, List.getElem_toArray, List.getElem_cons_zero, List.getElem_cons_succ]
          refine wpAnyH_take (i := 8) (v := ?_) rfl (by kernel_rfl) (by kernel_rfl) (by kernel_rfl) (fun _ _ _ h => h) (Or.inl ⟨by rfl, ?_⟩) (by assumption) ?_
          rotate_left
          · intro w' hSw; (try dsimp only at hSw); (go_simp; try with_reducible rfl)
          simp only [Act.put, List.setIfInBounds_toArray, List.set_cons_zero, List.set_cons_succ, List.getElem_toArray, List.getElem_cons_zero, List.getElem_cons_succ]
          refine wpAnyH_ready (rs := [9]) (by kernel_rfl) (by simp) ?_
          refine AllReadyH.cons rfl (fun K hK => ?_) AllReadyH.nil
          simp only [List.getElem_toArray, List.getElem_cons_zero, List.getElem_cons_succ]
          go_simp
          go_at_call 14
          refine (C3'.out _ Z6).mono ?_
          rintro e wc ⟨rfl, bc⟩
          have Z7 := Z6.trans (bc.mono Z6.size)
          refine hK.out _ _ ?_ (fun hHeld => ?_)
          · exact KS.out _ Z7
          clear hK K
          refine wpAnyH_take (i := 10) (v := ?_) rfl (by kernel_rfl) (by kernel_rfl) (by kernel_rfl) (fun _ _ _ h => h) (Or.inl ⟨by rfl, ?_⟩) (by assumption) ?_
          rotate_left
          · intro w' hSw; (try dsimp only at hSw); (go_simp; try with_reducible rfl)
          simp only [Act.put, List.setIfInBounds_toArray, List.set_cons_zero, List.set_cons_succ, List.getElem_toArray, List.getElem_cons_zero, List.getElem_cons_succ]
          refine wpAnyH_take (i := 11) (v := ?_) rfl (by kernel_rfl) (by kernel_rfl) (by kernel_rfl) (fun _ _ _ h => h) (Or.inl ⟨by rfl, ?_⟩) (by assumption) ?_
          rotate_left
          · intro w' hSw; (try dsimp only at hSw); (go_simp; try with_reducible rfl)
          simp only [Act.put, List.setIfInBounds_toArray, List.set_cons_zero, List.set_cons_succ, List.getElem_toArray, List.getElem_cons_zero, List.getElem_cons_succ]
          refine wpAnyH_take (i := 12) (v := undef) rfl (by kernel_rfl) (by kernel_rfl) (by kernel_rfl) (fun _ _ _ h => h) (Or.inr ⟨by rfl, rfl⟩) (by assumption) ?_
          simp only [Act.put, List.setIfInBounds_toArray, List.set_cons_zero, List.set_cons_succ, List.getElem_toArray, List.getElem_cons_zero, List.getElem_cons_succ]
          refine wpAnyH_take (i := 13) (v := undef) rfl (by kernel_rfl) (by kernel_rfl) (by kernel_rfl) (fun _ _ _ h => h) (Or.inr ⟨by rfl, rfl⟩) (by assumption) ?_
          simp only [Act.put, List.setIfInBounds_toArray, List.set_cons_zero, List.set_cons_succ, List.getElem_toArray, List.getElem_cons_zero, List.getElem_cons_succ]
          refine wpAnyH_take (i := 14) (v := undef) rfl (by kernel_rfl) (by kernel_rfl) (by kernel_rfl) (fun _ _ _ h => h) (Or.inr ⟨by rfl, rfl⟩) (by assumption) ?_
          simp only [Act.put, List.setIfInBounds_toArray, List.set_cons_zero, List.set_cons_succ, List.getElem_toArray, List.getElem_cons_zero, List.getElem_cons_succ]
          refine wpAnyH_take (i := 15) (v := undef) rfl (by kernel_rfl) (by kernel_rfl) (by kernel_rfl) (fun _ _ _ h => h) (Or.inr ⟨by rfl, rfl⟩) (by assumption) ?_
          simp only [Act.put, List.setIfInBounds_toArray, List.set_cons_zero, List.set_cons_succ, List.getElem_toArray, List.getElem_cons_zero, List.getElem_cons_succ]
          refine wpAnyH_take (i := 16) (v := undef) rfl (by kernel_rfl) (by kernel_rfl) (by kernel_rfl) (fun _ _ _ h => h) (Or.inr ⟨by rfl, rfl⟩) (by assumption) ?_
          simp only [Act.put, List.setIfInBounds_toArray, List.set_cons_zero, List.set_cons_succ, List.getElem_toArray, List.getElem_cons_zero, List.getElem_cons_succ]
          refine wpAnyH_take (i := 17) (v := undef) rfl (by kernel_rfl) (by kernel_rfl) (by kernel_rfl) (fun _ _ _ h => h) (Or.inr ⟨by rfl, rfl⟩) (by assumption) ?_
          simp only [Act.put, List.setIfInBounds_toArray, List.set_cons_zero, List.set_cons_succ, List.getElem_toArray, List.getElem_cons_zero, List.getElem_cons_succ]
          refine wpAnyH_take (i := 18) (v := undef) rfl (by kernel_rfl) (by kernel_rfl) (by kernel_rfl) (fun _ _ _ h => h) (Or.inr ⟨by rfl, rfl⟩) (by assumption) ?_
          simp only [Act.put, List.setIfInBounds_toArray, List.set_cons_zero, List.set_cons_succ, List.getElem_toArray, List.getElem_cons_zero, List.getElem_cons_succ]
          refine wpAnyH_take (i := 19) (v := undef) rfl (by kernel_rfl) (by kernel_rfl) (by kernel_rfl) (fun _ _ _ h => h) (Or.inr ⟨by rfl, rfl⟩) (by assumption) ?_
          simp only [Act.put, List.setIfInBounds_toArray, List.set_cons_zero, List.set_cons_succ, List.getElem_toArray, List.getElem_cons_zero, List.getElem_cons_succ]
          refine wpAnyH_take (i := 20) (v := undef) rfl (by kernel_rfl) (by kernel_rfl) (by kernel_rfl) (fun _ _ _ h => h) (Or.inr ⟨by rfl, rfl⟩) (by assumption) ?_
          simp only [Act.put, List.setIfInBounds_toArray, List.set_cons_zero, List.set_cons_succ, List.getElem_toArray, List.getElem_cons_zero, List.getElem_cons_succ]
          refine wpAnyH_take (i := 21) (v := undef) rfl (by kernel_rfl) (by kernel_rfl) (by kernel_rfl) (fun _ _ _ h => h) (Or.inr ⟨by rfl, rfl⟩) (by assumption) ?_
          simp only [Act.put, List.setIfInBounds_toArray, List.set_cons_zero, List.set_cons_succ, List.getElem_toArray, List.getElem_cons_zero, List.getElem_cons_succ]
          refine wpAnyH_take (i := 22) (v := undef) rfl (by kernel_rfl) (by kernel_rfl) (by kernel_rfl) (fun _ _ _ h => h) (Or.inr ⟨by rfl, rfl⟩) (by assumption) ?_
          simp only [Act.put, List.setIfInBounds_toArray, List.set_cons_zero, List.set_cons_succ, List.getElem_toArray, List.getElem_cons_zero, List.getElem_cons_succ]
          refine wpAnyH_take (i := 23) (v := ?_) rfl (by kernel_rfl) (by kernel_rfl) (by kernel_rfl) (fun _ _ _ h => h) (Or.inl ⟨by rfl, ?_⟩) (by assumption) ?_
          rotate_left
          · intro w' hSw; (try dsimp only at hSw); (go_simp; try with_reducible rfl)
          simp only [Act.put, List.setIfInBounds_toArray, List.set_cons_zero, List.set_cons_succ, List.getElem_toArray, List.getElem_cons_zero, List.getElem_cons_succ]
          refine wpAnyH_take (i := 24) (v := ?_) rfl (by kernel_rfl) (by kernel_rfl) (by kernel_rfl) (fun _ _ _ h => h) (Or.inl ⟨by rfl, ?_⟩) (by assumption) ?_
          rotate_left
          · intro w' hSw; (try dsimp only at hSw); (go_simp; try with_reducible rfl)
          simp only [Act.put, List.setIfInBounds_toArray, List.set_cons_zero, List.set_cons_succ, List.getElem_toArray, List.getElem_cons_zero, List.getElem_cons_succ]
          refine wpAnyH_take (i := 25) (v := ?_) rfl (by kernel_rfl) (by kernel_rfl) (by kernel_rfl) (fun _ _ _ h => h) (Or.inl ⟨by rfl, ?_⟩) (by assumption) ?_
          rotate_left
          · intro w' hSw; (try dsimp only at hSw); (go_simp; try with_reducible rfl)
          simp only [Act.put, List.setIfInBounds_toArray, List.set_cons_zero, List.set_cons_succ, List.getElem_toArray, List.getElem_cons_zero, List.getElem_cons_succ]
          refine wpAnyH_take (i := 26) (v := ?_) rfl (by kernel_rfl) (by kernel_rfl) (by kernel_rfl) (fun _ _ _ h => h) (Or.inl ⟨by rfl, ?_⟩) (by assumption) ?_
          rotate_left
          · intro w' hSw; (try dsimp only at hSw); (go_simp; try with_reducible rfl)
          simp only [Act.put, List.setIfInBounds_toArray, List.set_cons_zero, List.set_cons_succ, List.getElem_toArray, List.getElem_cons_zero, List.getElem_cons_succ]
          refine wpAnyH_take (i := 27) (v := ?_) rfl (by kernel_rfl) (by kernel_rfl) (by kernel_rfl) (fun _ _ _ h => h) (Or.inl ⟨by rfl, ?_⟩) (by assumption) ?_
          rotate_left
          · intro w' hSw; (try dsimp only at hSw); (go_simp; try with_reducible rfl)
          simp only [Act.put, List.setIfInBounds_toArray, List.set_cons_zero, List.set_cons_succ, List.getElem_toArray, List.getElem_cons_zero, List.getElem_cons_succ]
          refine wpAnyH_take (i := 28) (v := ?_) rfl (by kernel_rfl) (by kernel_rfl) (by kernel_rfl) (fun _ _ _ h => h) (Or.inl ⟨by rfl, ?_⟩) (by assumption) ?_
          rotate_left
          · intro w' hSw; (try dsimp only at hSw); (go_simp; try with_reducible rfl)
          simp only [Act.put, List.setIfInBounds_toArray, List.set_cons_zero, List.set_cons_succ, List.getElem_toArray, List.getElem_cons_zero, List.getElem_cons_succ]
          refine wpAnyH_take (i := 29) (v := undef) rfl (by kernel_rfl) (by kernel_rfl) (by kernel_rfl) (fun _ _ _ h => h) (Or.inr ⟨by rfl, rfl⟩) (by assumption) ?_
          simp only [Act.put, List.setIfInBounds_toArray, List.set_cons_zero, List.set_cons_succ, List.getElem_toArray, List.getElem_cons_zero, List.getElem_cons_succ]
          refine wpAnyH_take (i := 30) (v := undef) rfl (by kernel_rfl) (by kernel_rfl) (by kernel_rfl) (fun _ _ _ h => h) (Or.inr ⟨by rfl, rfl⟩) (by assumption) ?_
          simp only [Act.put, List.setIfInBounds_toArray, List.set_cons_zero, List.set_cons_succ, List.getElem_toArray, List.getElem_cons_zero, List.getElem_cons_succ]
          refine wpAnyH_take (i := 31) (v := undef) rfl (by kernel_rfl) (by kernel_rfl) (by kernel_rfl) (fun _ _ _ h => h) (Or.inr ⟨by rfl, rfl⟩) (by assumption) ?_
          simp only [Act.put, List.setIfInBounds_toArray, List.set_cons_zero, List.set_cons_succ, List.getElem_toArray, List.getElem_cons_zero, List.getElem_cons_succ]
          refine wpAnyH_take (i := 32) (v := undef) rfl (by kernel_rfl) (by kernel_rfl) (by kernel_rfl) (fun _ _ _ h => h) (Or.inr ⟨by rfl, rfl⟩) (by assumption) ?_
          simp only [Act.put, List.setIfInBounds_toArray, List.set_cons_zero, List.set_cons_succ, List.getElem_toArray, List.getElem_cons_zero, List.getElem_cons_succ]
          refine wpAnyH_take (i := 33) (v := undef) rfl (by kernel_rfl) (by kernel_rfl) (by kernel_rfl) (fun _ _ _ h => h) (Or.inr ⟨by rfl, rfl⟩) (by assumption) ?_
          simp only [Act.put, List.setIfInBounds_toArray, List.set_cons_zero, List.set_cons_succ, List.getElem_toArray, List.getElem_cons_zero, List.getElem_cons_succ]
          refine wpAnyH_take (i := 34) (v := undef) rfl (by kernel_rfl) (by kernel_rfl) (by kernel_rfl) (fun _ _ _ h => h) (Or.inr ⟨by rfl, rfl⟩) (by assumption) ?_
          simp only [Act.put, List.setIfInBounds_toArray, List.set_cons_zero, List.set_cons_succ, List.getElem_toArray, List.getElem_cons_zero, List.getElem_cons_succ]
          refine wpAnyH_take (i := 35) (v := undef) rfl (by kernel_rfl) (by kernel_rfl) (by kernel_rfl) (fun _ _ _ h => h) (Or.inr ⟨by rfl, rfl⟩) (by assumption) ?_
          simp only [Act.put, List.setIfInBounds_toArray, List.set_cons_zero, List.set_cons_succ, List.getElem_toArray, List.getElem_cons_zero, List.getElem_cons_succ]
          refine wpAnyH_take (i := 36) (v := undef) rfl (by kernel_rfl) (by kernel_rfl) (by kernel_rfl) (fun _ _ _ h => h) (Or.inr ⟨by rfl, rfl⟩) (by assumption) ?_
          simp only [Act.put, List.setIfInBounds_toArray, List.set_cons_zero, List.set_cons_succ, List.getElem_toArray, List.getElem_cons_zero, List.getElem_cons_succ]
          refine wpAnyH_take (i := 37) (v := undef) rfl (by kernel_rfl) (by kernel_rfl) (by kernel_rfl) (fun _ _ _ h => h) (Or.inr ⟨by rfl, rfl⟩) (by assumption) ?_
          simp only [Act.put, List.setIfInBounds_toArray, List.set_cons_zero, List.set_cons_succ, List.getElem_toArray, List.getElem_cons_zero, List.getElem_cons_succ]
          refine wpAnyH_take (i := 38) (v := undef) rfl (by kernel_rfl) (by kernel_rfl) (by kernel_rfl) (fun _ _ _ h => h) (Or.inr ⟨by rfl, rfl⟩) (by assumption) ?_
          simp only [Act.put, List.setIfInBounds_toArray, List.set_cons_zero, List.set_cons_succ, List.getElem_toArray, List.getElem_cons_zero, List.getElem_cons_succ]
          refine wpAnyH_take (i := 39) (v := ?_) rfl (by kernel_rfl) (by kernel_rfl) (by kernel_rfl) (fun _ _ _ h => h) (Or.inl ⟨by rfl, ?_⟩) (by assumption) ?_
          rotate_left
          · intro w' hSw; (try dsimp only at hSw); (go_simp; try with_reducible rfl)
          simp only [Act.put, List.setIfInBounds_toArray, List.set_cons_zero, List.set_cons_succ, List.getElem_toArray, List.getElem_cons_zero, List.getElem_cons_succ]
          refine wpAnyH_take (i := 40) (v := ?_) rfl (by kernel_rfl) (by kernel_rfl) (by kernel_rfl) (fun _ _ _ h => h) (Or.inl ⟨by rfl, ?_⟩) (by assumption) ?_
          rotate_left
          · intro w' hSw; (try dsimp only at hSw); (go_simp; try with_reducible rfl)
          simp only [Act.put, List.setIfInBounds_toArray, List.set_cons_zero, List.set_cons_succ, List.getElem_toArray, List.getElem_cons_zero, List.getElem_cons_succ]
          refine wpAnyH_take (i := 41) (v := ?_) rfl (by kernel_rfl) (by kernel_rfl) (by kernel_rfl) (fun _ _ _ h => h) (Or.inl ⟨by rfl, ?_⟩) (by assumption) ?_
          rotate_left
          · intro w' hSw; (try dsimp only at hSw); (go_simp; try with_reducible rfl)
          simp only [Act.put, List.setIfInBounds_toArray, List.set_cons_zero, List.set_cons_succ, List.getElem_toArray, List.getElem_cons_zero, List.getElem_cons_succ]
          refine wpAnyH_done (by kernel_rfl) ?_ _
          go_wp2_with fail
          go_ret
          exact ⟨rfl, bl_go B8 Z7⟩
        · have hn0 : ((n : Int) == 0) = false := by rw [beq_eq_false_iff_ne]; omega
          obtain ⟨i, hi⟩ : ∃ i, n = i + 1 := ⟨n - 1, by omega⟩
          have CUI := Lib.hid (CCU.out i (by omega) (HCJ.out i (by omega)))
          have hks : IntKind.i64.wrap ((ps.length : Int) - (n : Int)) = ((ps.length - n : Nat) : Int) := by rw [Int.ofNat_sub hnp]; exact IntWalk.i64_in _ (by omega)
          have hks2 : IntKind.i64.wrap (((ps.length - n : Nat) : Int) + 1) = ((ps.length - i : Nat) : Int) := by rw [show ((ps.length - i : Nat) : Int) = ((ps.length - n : Nat) : Int) + 1 by omega]; exact IntWalk.i64_in _ (by omega)
          have hkI2 : ((ps.length - i : Nat) : Int) ≤ (ps.length : Int) := by omega
          have hkI3 : ((ps.length - i : Nat) : Int) ≤ (cp : Int) := by omega
          have HI := Lib.hid hi
          clear h0 CCU HCJ hi
          have Z0 : Below w8.heap.size w8 w8.drew := (Below.refl _ _).drew
          have KS := Lib.hid (fun (z : World) (Z : Below w8.heap.size w8 z) => show z.cell? ⟨bx, 0, none⟩ = some (.int .i64 W) ∧ z.cell? ⟨bx, 1, none⟩ = some (.int .i64 T) ∧ z.cell? ⟨bx, 2, none⟩ = some (.slice B xs.length k) from X8.belo Z)
          have C1 := Lib.hid (fun (z : World) (Z : Below w8.heap.size w8 z) => CP6.out z (R8.belo Z) (F8.belo Z) (Q8.belo Z))
          have C2 := Lib.hid (fun (g : Nat) (z : World) (Z : Below w8.heap.size w8 z) (R : Rd z (some ⟨g, 0, none⟩) (M.map (.int .i64))) => CSI.out (some ⟨g, 0, none⟩) (some ⟨g3, 0, none⟩) xs.length xs.length z R (D8.belo Z))
          have C3' := Lib.hid (fun (z : World) (Z : Below w8.heap.size w8 z) => CPV.out A7 c7 z (R8.belo Z) (AQ8.belo Z))
          clear CP6 CSI CPV
          go_upto_region 15 with fail
          have C5 := Lib.hid (fun (z : World) (Z : Below w8.heap.size w8 z) => CUI.out z (R8.belo Z) (Q8.belo Z))
          by_cases hce : cp = ps.length - i
          · have hz : cp - (ps.length - i) = 0 := by omega
            rw [if_pos hce, hz] at C5
            have hce' : (cp = ps.length - i) = True := eq_true hce
            clear hce
            refine wp_region_held_drew (S := (fun w' => w'.cell? ⟨bx, 0, none⟩ = some (.int .i64 W) ∧ w'.cell? ⟨bx, 1, none⟩ = some (.int .i64 T) ∧ w'.cell? ⟨bx, 2, none⟩ = some (.slice B xs.length k))) (by kernel_rfl) ?_ (fun hHeld => ?_)
            · exact KS.out _ Z0
            refine wpAnyH_take (i := 0) (v := ?_) rfl (by kernel_rfl) (by kernel_rfl) (by kernel_rfl) (fun _ _ _ h => h) (Or.inl ⟨by rfl, ?_⟩) (by assumption) ?_
            rotate_left
            · intro w' hSw; (try dsimp only at hSw); (go_simp; try with_reducible rfl)
            simp only [Act.put, List.setIfInBounds_toArray, List.set_cons_zero, List.set_cons_succ, List.getElem_toArray, List.getElem_cons_zero]
            refine wpAnyH_take (i := 1) (v := ?_) rfl (by kernel_rfl) (by kernel_rfl) (by kernel_rfl) (fun _ _ _ h => h) (Or.inl ⟨by rfl, ?_⟩) (by assumption) ?_
            rotate_left
            · intro w' hSw; (try dsimp only at hSw); (go_simp; try with_reducible rfl)
            simp only [Act.put, List.setIfInBounds_toArray, List.set_cons_zero, List.set_cons_succ, List.getElem_toArray, List.getElem_cons_zero, List.getElem_cons_succ]
            refine wpAnyH_take (i := 2) (v := ?_) rfl (by kernel_rfl) (by kernel_rfl) (by kernel_rfl) (fun _ _ _ h => h) (Or.inl ⟨by rfl, ?_⟩) (by assumption) ?_
            rotate_left
            · intro w' hSw; (try dsimp only at hSw); (go_simp; try with_reducible rfl)
            simp only [Act.put, List.setIfInBounds_toArray, List.set_cons_zero, List.set_cons_succ, List.getElem_toArray, List.getElem_cons_zero, List.getElem_cons_succ]
            refine wpAnyH_take (i := 4) (v := ?_) rfl (by kernel_rfl) (by kernel_rfl) (by kernel_rfl) (fun _ _ _ h => h) (Or.inl ⟨by rfl, ?_⟩) (by assumption) ?_
            rotate_left
            · intro w' hSw; (try dsimp only at hSw); (go_simp; try with_reducible rfl)
            simp only [Act.put, List.setIfInBounds_toArray, List.set_cons_zero, List.set_cons_succ, List.getElem_toArray, List.getElem_cons_zero, List.getElem_cons_succ]
            refine wpAnyH_ready (rs := [3]) (by kernel_rfl) (by simp) ?_
            refine AllReadyH.cons rfl (fun K hK => ?_) AllReadyH.nil
            simp only [List.getElem_toArray, List.getElem_cons_zero, List.getElem_cons_succ]
            go_simp
            go_at_call 13
            refine (C1.out _ Z0).mono ?_
            rintro e wa ⟨ga, rfl, Wa, hga, hgsa, ba⟩
            have Z5 := Z0.trans (ba.mono Z0.size)
            have Ra := Wa.rd
            refine hK.out _ _ ?_ (fun hHeld => ?_)
            · exact KS.out _ Z5
            clear hK K
            refine wpAnyH_ready (rs := [5]) (by kernel_rfl) (by simp) ?_
            refine AllReadyH.cons rfl (fun K hK => ?_) AllReadyH.nil
            simp only [List.getElem_toArray, List.getElem_cons_zero, List.getElem_cons_succ]
            go_simp
            go_at_call 8
            refine (C2.out _ _ Z5 Ra).mono ?_
            rintro e wb ⟨rfl, bb⟩
            have Z6 := Z5.trans (bb.mono Z5.size)
            refine hK.out _ _ ?_ (fun hHeld => ?_)
            · exact KS.out _ Z6
            clear hK K
            refine wpAnyH_take (i := 6) (v := ?_) rfl (by kernel_rfl) (by kernel_rfl) (by kernel_rfl) (fun _ _ _ h => h) (Or.inl ⟨by rfl, ?_⟩) (by assumption) ?_
            rotate_left
            · intro w' hSw; (try dsimp only at hSw); (go_simp; try with_reducible rfl)
            simp only [Act.put, List.setIfInBounds_toArray, List.set_cons_zero, List.set_cons_succ, List.getElem_toArray, List.getElem_cons_zero, List.getElem_cons_succ]
            refine wpAnyH_take (i := 7) (v := ?_) rfl (by kernel_rfl) (by kernel_rfl) (by kernel_rfl) (fun _ _ _ h => h) (Or.inl ⟨by rfl, ?_⟩) (by assumption) ?_
            rotate_left
            · intro w' hSw; (try dsimp only at hSw); (go_simp; try with_reducible rfl)
            simp only [Act.put, List.setIfInBounds_toArray, List.set_cons_zero, List.set_cons_succ, List.getElem_toArray, List.getElem_cons_zero, List.getElem_cons_succ]
            refine wpAnyH_take (i := 8) (v := ?_) rfl (by kernel_rfl) (by kernel_rfl) (by kernel_rfl) (fun _ _ _ h => h) (Or.inl ⟨by rfl, ?_⟩) (by assumption) ?_
            rotate_left
            · intro w' hSw; (try dsimp only at hSw); (go_simp; try with_reducible rfl)
            simp only [Act.put, List.setIfInBounds_toArray, List.set_cons_zero, List.set_cons_succ, List.getElem_toArray, List.getElem_cons_zero, List.getElem_cons_succ]
            refine wpAnyH_ready (rs := [9]) (by kernel_rfl) (by simp) ?_
            refine AllReadyH.cons rfl (fun K hK => ?_) AllReadyH.nil
            simp only [List.getElem_toArray, List.getElem_cons_zero, List.getElem_cons_succ]
            go_simp
            go_at_call 14
            refine (C3'.out _ Z6).mono ?_
            rintro e wc ⟨rfl, bc⟩
            have Z7 := Z6.trans (bc.mono Z6.size)
            refine hK.out _ _ ?_ (fun hHeld => ?_)
            · exact KS.out _ Z7
            clear hK K
            refine wpAnyH_take (i := 10) (v := ?_) rfl (by kernel_rfl) (by kernel_rfl) (by kernel_rfl) (fun _ _ _ h => h) (Or.inl ⟨by rfl, ?_⟩) (by assumption) ?_
            rotate_left
            · intro w' hSw; (try dsimp only at hSw); (go_simp; try with_reducible rfl)
            simp only [Act.put, List.setIfInBounds_toArray, List.set_cons_zero, List.set_cons_succ, List.getElem_toArray, List.getElem_cons_zero, List.getElem_cons_succ]
            refine wpAnyH_take (i := 11) (v := ?_) rfl (by kernel_rfl) (by kernel_rfl) (by kernel_rfl) (fun _ _ _ h => h) (Or.inl ⟨by rfl, ?_⟩) (by assumption) ?_
            rotate_left
            · intro w' hSw; (try dsimp only at hSw); (go_simp; try with_reducible rfl)
            simp only [Act.put, List.setIfInBounds_toArray, List.set_cons_zero, List.set_cons_succ, List.getElem_toArray, List.getElem_cons_zero, List.getElem_cons_succ]
            refine wpAnyH_take (i := 12) (v := undef) rfl (by kernel_rfl) (by kernel_rfl) (by kernel_rfl) (fun _ _ _ h => h) (Or.inr ⟨by rfl, rfl⟩) (by assumption) ?_
            simp only [Act.put, List.setIfInBounds_toArray, List.set_cons_zero, List.set_cons_succ, List.getElem_toArray, List.getElem_cons_zero, List.getElem_cons_succ]
            refine wpAnyH_take (i := 13) (v := undef) rfl (by kernel_rfl) (by kernel_rfl) (by kernel_rfl) (fun _ _ _ h => h) (Or.inr ⟨by rfl, rfl⟩) (by assumption) ?_
            simp only [Act.put, List.setIfInBounds_toArray, List.set_cons_zero, List.set_cons_succ, List.getElem_toArray, List.getElem_cons_zero, List.getElem_cons_succ]
            refine wpAnyH_take (i := 14) (v := undef) rfl (by kernel_rfl) (by kernel_rfl) (by kernel_rfl) (fun _ _ _ h => h) (Or.inr ⟨by rfl, rfl⟩) (by assumption) ?_
            simp only [Act.put, List.setIfInBounds_toArray, List.set_cons_zero, List.set_cons_succ, List.getElem_toArray, List.getElem_cons_zero, List.getElem_cons_succ]
            refine wpAnyH_take (i := 15) (v := undef) rfl (by kernel_rfl) (by kernel_rfl) (by kernel_rfl) (fun _ _ _ h => h) (Or.inr ⟨by rfl, rfl⟩) (by assumption) ?_
            simp only [Act.put, List.setIfInBounds_toArray, List.set_cons_zero, List.set_cons_succ, List.getElem_toArray, List.getElem_cons_zero, List.getElem_cons_succ]
            refine wpAnyH_take (i := 16) (v := undef) rfl (by kernel_rfl) (by kernel_rfl) (by kernel_rfl) (fun _ _ _ h => h) (Or.inr ⟨by rfl, rfl⟩) (by assumption) ?_
            simp only [Act.put, List.setIfInBounds_toArray, List.set_cons_zero, List.set_cons_succ, List.getElem_toArray, List.getElem_cons_zero, List.getElem_cons_succ]
            refine wpAnyH_take (i := 17) (v := undef) rfl (by kernel_rfl) (by kernel_rfl) (by kernel_rfl) (fun _ _ _ h => h) (Or.inr ⟨by rfl, rfl⟩) (by assumption) ?_
            simp only [Act.put, List.setIfInBounds_toArray, List.set_cons_zero, List.set_cons_succ, List.getElem_toArray, List.getElem_cons_zero, List.getElem_cons_succ]
            refine wpAnyH_take (i := 18) (v := undef) rfl (by kernel_rfl) (by kernel_rfl) (by kernel_rfl) (fun _ _ _ h => h) (Or.inr ⟨by rfl, rfl⟩) (by assumption) ?_
            simp only [Act.put, List.setIfInBounds_toArray, List.set_cons_zero, List.set_cons_succ, List.getElem_toArray, List.getElem_cons_zero, List.getElem_cons_succ]
            refine wpAnyH_take (i := 19) (v := undef) rfl (by kernel_rfl) (by kernel_rfl) (by kernel_rfl) (fun _ _ _ h => h) (Or.inr ⟨by rfl, rfl⟩) (by assumption) ?_
            simp only [Act.put, List.setIfInBounds_toArray, List.set_cons_zero, List.set_cons_succ, List.getElem_toArray, List.getElem_cons_zero, List.getElem_cons_succ]
            refine wpAnyH_take (i := 20) (v := undef) rfl (by kernel_rfl) (by kernel_rfl) (by kernel_rfl) (fun _ _ _ h => h) (Or.inr ⟨by rfl, rfl⟩) (by assumption) ?_
            simp only [Act.put, List.setIfInBounds_toArray, List.set_cons_zero, List.set_cons_succ, List.getElem_toArray, List.getElem_cons_zero, List.getElem_cons_succ]
            refine wpAnyH_take (i := 21) (v := undef) rfl (by kernel_rfl) (by kernel_rfl) (by kernel_rfl) (fun _ _ _ h => h) (Or.inr ⟨by rfl, rfl⟩) (by assumption) ?_
            simp only [Act.put, List.setIfInBounds_toArray, List.set_cons_zero, List.set_cons_succ, List.getElem_toArray, List.getElem_cons_zero, List.getElem_cons_succ]
            refine wpAnyH_take (i := 22) (v := undef) rfl (by kernel_rfl) (by kernel_rfl) (by kernel_rfl) (fun _ _ _ h => h) (Or.inr ⟨by rfl, rfl⟩) (by assumption) ?_
            simp only [Act.put, List.setIfInBounds_toArray, List.set_cons_zero, List.set_cons_succ, List.getElem_toArray, List.getElem_cons_zero, List.getElem_cons_succ]
            refine wpAnyH_take (i := 23) (v := ?_) rfl (by kernel_rfl) (by kernel_rfl) (by kernel_rfl) (fun _ _ _ h => h) (Or.inl ⟨by rfl, ?_⟩) (by assumption) ?_
            rotate_left
            · intro w' hSw; (try dsimp only at hSw); (go_simp; try with_reducible rfl)
            simp only [Act.put, List.setIfInBounds_toArray, List.set_cons_zero, List.set_cons_succ, List.getElem_toArray, List.getElem_cons_zero, List.getElem_cons_succ]
            refine wpAnyH_take (i := 24) (v := ?_) rfl (by kernel_rfl) (by kernel_rfl) (by kernel_rfl) (fun _ _ _ h => h) (Or.inl ⟨by rfl, ?_⟩) (by assumption) ?_
            rotate_left
            · intro w' hSw; (try dsimp only at hSw); (go_simp; try with_reducible rfl)
            simp only [Act.put, List.setIfInBounds_toArray, List.set_cons_zero, List.set_cons_succ, List.getElem_toArray, List.getElem_cons_zero, List.getElem_cons_succ]
            refine wpAnyH_take (i := 25) (v := ?_) rfl (by kernel_rfl) (by kernel_rfl) (by kernel_rfl) (fun _ _ _ h => h) (Or.inl ⟨by rfl, ?_⟩) (by assumption) ?_
            rotate_left
            · intro w' hSw; (try dsimp only at hSw); (go_simp; try with_reducible rfl)
            simp only [Act.put, List.setIfInBounds_toArray, List.set_cons_zero, List.set_cons_succ, List.getElem_toArray, List.getElem_cons_zero, List.getElem_cons_succ]
            refine wpAnyH_take (i := 26) (v := ?_) rfl (by kernel_rfl) (by kernel_rfl) (by kernel_rfl) (fun _ _ _ h => h) (Or.inl ⟨by rfl, ?_⟩) (by assumption) ?_
            rotate_left
            · intro w' hSw; (try dsimp only at hSw); (go_simp; try with_reducible rfl)
            simp only [Act.put, List.setIfInBounds_toArray, List.set_cons_zero, List.set_cons_succ, List.getElem_toArray, List.getElem_cons_zero, List.getElem_cons_succ]
            refine wpAnyH_take (i := 27) (v := ?_) rfl (by kernel_rfl) (by kernel_rfl) (by kernel_rfl) (fun _ _ _ h => h) (Or.inl ⟨by rfl, ?_⟩) (by assumption) ?_
            rotate_left
            · intro w' hSw; (try dsimp only at hSw); (go_simp; try with_reducible rfl)
            simp only [Act.put, List.setIfInBounds_toArray, List.set_cons_zero, List.set_cons_succ, List.getElem_toArray, List.getElem_cons_zero, List.getElem_cons_succ]
            refine wpAnyH_take (i := 28) (v := ?_) rfl (by kernel_rfl) (by kernel_rfl) (by kernel_rfl) (fun _ _ _ h => h) (Or.inl ⟨by rfl, ?_⟩) (by assumption) ?_
            rotate_left
            · intro w' hSw; (try dsimp only at hSw); (go_simp; try with_reducible rfl)
            simp only [Act.put, List.setIfInBounds_toArray, List.set_cons_zero, List.set_cons_succ, List.getElem_toArray, List.getElem_cons_zero, List.getElem_cons_succ]
            refine wpAnyH_take (i := 29) (v := ?_) rfl (by kernel_rfl) (by kernel_rfl) (by kernel_rfl) (fun _ _ _ h => h) (Or.inl ⟨by rfl, ?_⟩) (by assumption) ?_
            rotate_left
            · intro w' hSw; (try dsimp only at hSw); (go_simp; try with_reducible rfl)
            simp only [Act.put, List.setIfInBounds_toArray, List.set_cons_zero, List.set_cons_succ, List.getElem_toArray, List.getElem_cons_zero, List.getElem_cons_succ]
            refine wpAnyH_take (i := 30) (v := ?_) rfl (by kernel_rfl) (by kernel_rfl) (by kernel_rfl) (fun _ _ _ h => h) (Or.inl ⟨by rfl, ?_⟩) (by assumption) ?_
            rotate_left
            · intro w' hSw; (try dsimp only at hSw); (go_simp; try with_reducible rfl)
            simp only [Act.put, List.setIfInBounds_toArray, List.set_cons_zero, List.set_cons_succ, List.getElem_toArray, List.getElem_cons_zero, List.getElem_cons_succ]
            refine wpAnyH_take (i := 31) (v := ?_) rfl (by kernel_rfl) (by kernel_rfl) (by kernel_rfl) (fun _ _ _ h => h) (Or.inl ⟨by rfl, ?_⟩) (by assumption) ?_
            rotate_left
            · intro w' hSw; (try dsimp only at hSw); (go_simp; try with_reducible rfl)
            simp only [Act.put, List.setIfInBounds_toArray, List.set_cons_zero, List.set_cons_succ, List.getElem_toArray, List.getElem_cons_zero, List.getElem_cons_succ]
            refine wpAnyH_take (i := 32) (v := ?_) rfl (by kernel_rfl) (by kernel_rfl) (by kernel_rfl) (fun _ _ _ h => h) (Or.inl ⟨by rfl, ?_⟩) (by assumption) ?_
            rotate_left
            · intro w' hSw; (try dsimp only at hSw); (go_simp; try with_reducible rfl)
            simp only [Act.put, List.setIfInBounds_toArray, List.set_cons_zero, List.set_cons_succ, List.getElem_toArray, List.getElem_cons_zero, List.getElem_cons_succ]
            refine wpAnyH_take (i := 33) (v := ?_) rfl (by kernel_rfl) (by kernel_rfl) (by kernel_rfl) (fun _ _ _ h => h) (Or.inl ⟨by rfl, ?_⟩) (by assumption) ?_
            rotate_left
            · intro w' hSw; (try dsimp only at hSw); (go_simp; try with_reducible rfl)
            simp only [Act.put, List.setIfInBounds_toArray, List.set_cons_zero, List.set_cons_succ, List.getElem_toArray, List.getElem_cons_zero, List.getElem_cons_succ]
            refine wpAnyH_take (i := 34) (v := ?_) rfl (by kernel_rfl) (by kernel_rfl) (by kernel_rfl) (fun _ _ _ h => h) (Or.inl ⟨by rfl, ?_⟩) (by assumption) ?_
            rotate_left
            · intro w' hSw; (try dsimp only at hSw); (go_simp; try with_reducible rfl)
            simp only [Act.put, List.setIfInBounds_toArray, List.set_cons_zero, List.set_cons_succ, List.getElem_toArray, List.getElem_cons_zero, List.getElem_cons_succ]
            refine wpAnyH_take (i := 35) (v := ?_) rfl (by kernel_rfl) (by kernel_rfl) (by kernel_rfl) (fun _ _ _ h => h) (Or.inl ⟨by rfl, ?_⟩) (by assumption) ?_
            rotate_left
            · intro w' hSw; (try dsimp only at hSw); (go_simp; try with_reducible rfl)
            simp only [Act.put, List.setIfInBounds_toArray, List.set_cons_zero, List.set_cons_succ, List.getElem_toArray, List.getElem_cons_zero, List.getElem_cons_succ]
            refine wpAnyH_take (i := 36) (v := ?_) rfl (by kernel_rfl) (by kernel_rfl) (by kernel_rfl) (fun _ _ _ h => h) (Or.inl ⟨by rfl, ?_⟩) (by assumption) ?_
            rotate_left
            · intro w' hSw; (try dsimp only at hSw); (go_simp; try with_reducible rfl)
            simp only [Act.put, List.setIfInBounds_toArray, List.set_cons_zero, List.set_cons_succ, List.getElem_toArray, List.getElem_cons_zero, List.getElem_cons_succ]
            refine wpAnyH_ready (rs := [37]) (by kernel_rfl) (by simp) ?_
            refine AllReadyH.cons rfl (fun K hK => ?_) AllReadyH.nil
            simp only [List.getElem_toArray, List.getElem_cons_zero, List.getElem_cons_succ]
            go_simp
            go_at_call 9
            refine (C5.out _ Z7).mono ?_
            rintro e we ⟨rfl, be⟩
            have Z9 := Z7.trans (be.mono Z7.size)
            refine hK.out _ _ ?_ (fun hHeld => ?_)
            · exact KS.out _ Z9
            clear hK K
            refine wpAnyH_take (i := 38) (v := ?_) rfl (by kernel_rfl) (by kernel_rfl) (by kernel_rfl) (fun _ _ _ h => h) (Or.inl ⟨by rfl, ?_⟩) (by assumption) ?_
            rotate_left
            · intro w' hSw; (try dsimp only at hSw); (go_simp; try with_reducible rfl)
            simp only [Act.put, List.setIfInBounds_toArray, List.set_cons_zero, List.set_cons_succ, List.getElem_toArray, List.getElem_cons_zero, List.getElem_cons_succ]
            refine wpAnyH_take (i := 39) (v := ?_) rfl (by kernel_rfl) (by kernel_rfl) (by kernel_rfl) (fun _ _ _ h => h) (Or.inl ⟨by rfl, ?_⟩) (by assumption) ?_
            rotate_left
            · intro w' hSw; (try dsimp only at hSw); (go_simp; try with_reducible rfl)
            simp only [Act.put, List.setIfInBounds_toArray, List.set_cons_zero, List.set_cons_succ, List.getElem_toArray, List.getElem_cons_zero, List.getElem_cons_succ]
            refine wpAnyH_take (i := 40) (v := ?_) rfl (by kernel_rfl) (by kernel_rfl) (by kernel_rfl) (fun _ _ _ h => h) (Or.inl ⟨by rfl, ?_⟩) (by assumption) ?_
            rotate_left
            · intro w' hSw; (try dsimp only at hSw); (go_simp; try with_reducible rfl)
            simp only [Act.put, List.setIfInBounds_toArray, List.set_cons_zero, List.set_cons_succ, List.getElem_toArray, List.getElem_cons_zero, List.getElem_cons_succ]
            refine wpAnyH_take (i := 41) (v := ?_) rfl (by kernel_rfl) (by kernel_rfl) (by kernel_rfl) (fun _ _ _ h => h) (Or.inl ⟨by rfl, ?_⟩) (by assumption) ?_
            rotate_left
            · intro w' hSw; (try dsimp only at hSw); (go_simp; try with_reducible rfl)
            simp only [Act.put, List.setIfInBounds_toArray, List.set_cons_zero, List.set_cons_succ, List.getElem_toArray, List.getElem_cons_zero, List.getElem_cons_succ]
            refine wpAnyH_done (by kernel_rfl) ?_ _
            go_wp2_with fail
            go_ret
            exact ⟨rfl, bl_go B8 Z9⟩
          · rw [if_neg hce] at C5
            refine wp_region_held_drew (S := (fun w' => w'.cell? ⟨bx, 0, none⟩ = some (.int .i64 W) ∧ w'.cell? ⟨bx, 1, none⟩ = some (.int .i64 T) ∧ w'.cell? ⟨bx, 2, none⟩ = some (.slice B xs.length k))) (by kernel_rfl) ?_ (fun hHeld => ?_)
            · exact KS.out _ Z0
            refine wpAnyH_take (i := 0) (v := ?_) rfl (by kernel_rfl) (by kernel_rfl) (by kernel_rfl) (fun _ _ _ h => h) (Or.inl ⟨by rfl, ?_⟩) (by assumption) ?_
            rotate_left
            · intro w' hSw; (try dsimp only at hSw); (go_simp; try with_reducible rfl)
            simp only [Act.put, List.setIfInBounds_toArray, List.set_cons_zero, List.set_cons_succ, List.getElem_toArray, List.getElem_cons_zero]
            refine wpAnyH_take (i := 1) (v := ?_) rfl (by kernel_rfl) (by kernel_rfl) (by kernel_rfl) (fun _ _ _ h => h) (Or.inl ⟨by rfl, ?_⟩) (by assumption) ?_
            rotate_left
            · intro w' hSw; (try dsimp only at hSw); (go_simp; try with_reducible rfl)
            simp only [Act.put, List.setIfInBounds_toArray, List.set_cons_zero, List.set_cons_succ, List.getElem_toArray, List.getElem_cons_zero, List.getElem_cons_succ]
            refine wpAnyH_take (i := 2) (v := ?_) rfl (by kernel_rfl) (by kernel_rfl) (by kernel_rfl) (fun _ _ _ h => h) (Or.inl ⟨by rfl, ?_⟩) (by assumption) ?_
            rotate_left
            · intro w' hSw; (try dsimp only at hSw); (go_simp; try with_reducible rfl)
            simp only [Act.put, List.setIfInBounds_toArray, List.set_cons_zero, List.set_cons_succ, List.getElem_toArray, List.getElem_cons_zero, List.getElem_cons_succ]
            refine wpAnyH_take (i := 4) (v := ?_) rfl (by kernel_rfl) (by kernel_rfl) (by kernel_rfl) (fun _ _ _ h => h) (Or.inl ⟨by rfl, ?_⟩) (by assumption) ?_
            rotate_left
            · intro w' hSw; (try dsimp only at hSw); (go_simp; try with_reducible rfl)
            simp only [Act.put, List.setIfInBounds_toArray, List.set_cons_zero, List.set_cons_succ, List.getElem_toArray, List.getElem_cons_zero, List.getElem_cons_succ]
            refine wpAnyH_ready (rs := [3]) (by kernel_rfl) (by simp) ?_
            refine AllReadyH.cons rfl (fun K hK => ?_) AllReadyH.nil
            simp only [List.getElem_toArray, List.getElem_cons_zero, List.getElem_cons_succ]
            go_simp
            go_at_call 13
            refine (C1.out _ Z0).mono ?_
            rintro e wa ⟨ga, rfl, Wa, hga, hgsa, ba⟩
            have Z5 := Z0.trans (ba.mono Z0.size)
            have Ra := Wa.rd
            refine hK.out _ _ ?_ (fun hHeld => ?_)
            · exact KS.out _ Z5
            clear hK K
            refine wpAnyH_ready (rs := [5]) (by kernel_rfl) (by simp) ?_
            refine AllReadyH.cons rfl (fun K hK => ?_) AllReadyH.nil
            simp only [List.getElem_toArray, List.getElem_cons_zero, List.getElem_cons_succ]
            go_simp
            go_at_call 8
            refine (C2.out _ _ Z5 Ra).mono ?_
            rintro e wb ⟨rfl, bb⟩
            have Z6 := Z5.trans (bb.mono Z5.size)
            refine hK.out _ _ ?_ (fun hHeld => ?_)
            · exact KS.out _ Z6
            clear hK K
            refine wpAnyH_take (i := 6) (v := ?_) rfl (by kernel_rfl) (by kernel_rfl) (by kernel_rfl) (fun _ _ _ h => h) (Or.inl ⟨by rfl, ?_⟩) (by assumption) ?_
            rotate_left
            · intro w' hSw; (try dsimp only at hSw); (go_simp; try with_reducible rfl)
            simp only [Act.put, List.setIfInBounds_toArray, List.set_cons_zero, List.set_cons_succ, List.getElem_toArray, List.getElem_cons_zero, List.getElem_cons_succ]
            refine wpAnyH_take (i := 7) (v := ?_) rfl (by kernel_rfl) (by kernel_rfl) (by kernel_rfl) (fun _ _ _ h => h) (Or.inl ⟨by rfl, ?_⟩) (by assumption) ?_
            rotate_left
            · intro w' hSw; (try dsimp only at hSw); (go_simp; try with_reducible rfl)
            simp only [Act.put, List.setIfInBounds_toArray, List.set_cons_zero, List.set_cons_succ, List.getElem_toArray, List.getElem_cons_zero, List.getElem_cons_succ]
            refine wpAnyH_take (i := 8) (v := ?_) rfl (by kernel_rfl) (by kernel_rfl) (by kernel_rfl) (fun _ _ _ h => h) (Or.inl ⟨by rfl, ?_⟩) (by assumption) ?_
            rotate_left
            · intro w' hSw; (try dsimp only at hSw); (go_simp; try with_reducible rfl)
            simp only [Act.put, List.setIfInBounds_toArray, List.set_cons_zero, List.set_cons_succ, List.getElem_toArray, List.getElem_cons_zero, List.getElem_cons_succ]
            refine wpAnyH_ready (rs := [9]) (by kernel_rfl) (by simp) ?_
            refine AllReadyH.cons rfl (fun K hK => ?_) AllReadyH.nil
            simp only [List.getElem_toArray, List.getElem_cons_zero, List.getElem_cons_succ]
            go_simp
            go_at_call 14
            refine (C3'.out _ Z6).mono ?_
            rintro e wc ⟨rfl, bc⟩
            have Z7 := Z6.trans (bc.mono Z6.size)
            refine hK.out _ _ ?_ (fun hHeld => ?_)
            · exact KS.out _ Z7
            clear hK K
            refine wpAnyH_take (i := 10) (v := ?_) rfl (by kernel_rfl) (by kernel_rfl) (by kernel_rfl) (fun _ _ _ h => h) (Or.inl ⟨by rfl, ?_⟩) (by assumption) ?_
            rotate_left
            · intro w' hSw; (try dsimp only at hSw); (go_simp; try with_reducible rfl)
            simp only [Act.put, List.setIfInBounds_toArray, List.set_cons_zero, List.set_cons_succ, List.getElem_toArray, List.getElem_cons_zero, List.getElem_cons_succ]
            refine wpAnyH_take (i := 11) (v := ?_) rfl (by kernel_rfl) (by kernel_rfl) (by kernel_rfl) (fun _ _ _ h => h) (Or.inl ⟨by rfl, ?_⟩) (by assumption) ?_
            rotate_left
            · intro w' hSw; (try dsimp only at hSw); (go_simp; try with_reducible rfl)
            simp only [Act.put, List.setIfInBounds_toArray, List.set_cons_zero, List.set_cons_succ, List.getElem_toArray, List.getElem_cons_zero, List.getElem_cons_succ]
            refine wpAnyH_take (i := 12) (v := undef) rfl (by kernel_rfl) (by kernel_rfl) (by kernel_rfl) (fun _ _ _ h => h) (Or.inr ⟨by rfl, rfl⟩) (by assumption) ?_
            simp only [Act.put, List.setIfInBounds_toArray, List.set_cons_zero, List.set_cons_succ, List.getElem_toArray, List.getElem_cons_zero, List.getElem_cons_succ]
            refine wpAnyH_take (i := 13) (v := undef) rfl (by kernel_rfl) (by kernel_rfl) (by kernel_rfl) (fun _ _ _ h => h) (Or.inr ⟨by rfl, rfl⟩) (by assumption) ?_
            simp only [Act.put, List.setIfInBounds_toArray, List.set_cons_zero, List.set_cons_succ, List.getElem_toArray, List.getElem_cons_zero, List.getElem_cons_succ]
            refine wpAnyH_take (i := 14) (v := undef) rfl (by kernel_rfl) (by kernel_rfl) (by kernel_rfl) (fun _ _ _ h => h) (Or.inr ⟨by rfl, rfl⟩) (by assumption) ?_
            simp only [Act.put, List.setIfInBounds_toArray, List.set_cons_zero, List.set_cons_succ, List.getElem_toArray, List.getElem_cons_zero, List.getElem_cons_succ]
            refine wpAnyH_take (i := 15) (v := undef) rfl (by kernel_rfl) (by kernel_rfl) (by kernel_rfl) (fun _ _ _ h => h) (Or.inr ⟨by rfl, rfl⟩) (by assumption) ?_
            simp only [Act.put, List.setIfInBounds_toArray, List.set_cons_zero, List.set_cons_succ, List.getElem_toArray, List.getElem_cons_zero, List.getElem_cons_succ]
            refine wpAnyH_take (i := 16) (v := undef) rfl (by kernel_rfl) (by kernel_rfl) (by kernel_rfl) (fun _ _ _ h => h) (Or.inr ⟨by rfl, rfl⟩) (by assumption) ?_
            simp only [Act.put, List.setIfInBounds_toArray, List.set_cons_zero, List.set_cons_succ, List.getElem_toArray, List.getElem_cons_zero, List.getElem_cons_succ]
            refine wpAnyH_take (i := 17) (v := undef) rfl (by kernel_rfl) (by kernel_rfl) (by kernel_rfl) (fun _ _ _ h => h) (Or.inr ⟨by rfl, rfl⟩) (by assumption) ?_
            simp only [Act.put, List.setIfInBounds_toArray, List.set_cons_zero, List.set_cons_succ, List.getElem_toArray, List.getElem_cons_zero, List.getElem_cons_succ]
            refine wpAnyH_take (i := 18) (v := undef) rfl (by kernel_rfl) (by kernel_rfl) (by kernel_rfl) (fun _ _ _ h => h) (Or.inr ⟨by rfl, rfl⟩) (by assumption) ?_
            simp only [Act.put, List.setIfInBounds_toArray, List.set_cons_zero, List.set_cons_succ, List.getElem_toArray, List.getElem_cons_zero, List.getElem_cons_succ]
            refine wpAnyH_take (i := 19) (v := undef) rfl (by kernel_rfl) (by kernel_rfl) (by kernel_rfl) (fun _ _ _ h => h) (Or.inr ⟨by rfl, rfl⟩) (by assumption) ?_
            simp only [Act.put, List.setIfInBounds_toArray, List.set_cons_zero, List.set_cons_succ, List.getElem_toArray, List.getElem_cons_zero, List.getElem_cons_succ]
            refine wpAnyH_take (i := 20) (v := undef) rfl (by kernel_rfl) (by kernel_rfl) (by kernel_rfl) (fun _ _ _ h => h) (Or.inr ⟨by rfl, rfl⟩) (by assumption) ?_
            simp only [Act.put, List.setIfInBounds_toArray, List.set_cons_zero, List.set_cons_succ, List.getElem_toArray, List.getElem_cons_zero, List.getElem_cons_succ]
            refine wpAnyH_take (i := 21) (v := undef) rfl (by kernel_rfl) (by kernel_rfl) (by kernel_rfl) (fun _ _ _ h => h) (Or.inr ⟨by rfl, rfl⟩) (by assumption) ?_
            simp only [Act.put, List.setIfInBounds_toArray, List.set_cons_zero, List.set_cons_succ, List.getElem_toArray, List.getElem_cons_zero, List.getElem_cons_succ]
            refine wpAnyH_take (i := 22) (v := undef) rfl (by kernel_rfl) (by kernel_rfl) (by kernel_rfl) (fun _ _ _ h => h) (Or.inr ⟨by rfl, rfl⟩) (by assumption) ?_
            simp only [Act.put, List.setIfInBounds_toArray, List.set_cons_zero, List.set_cons_succ, List.getElem_toArray, List.getElem_cons_zero, List.getElem_cons_succ]
            refine wpAnyH_take (i := 23) (v := ?_) rfl (by kernel_rfl) (by kernel_rfl) (by kernel_rfl) (fun _ _ _ h => h) (Or.inl ⟨by rfl, ?_⟩) (by assumption) ?_
            rotate_left
            · intro w' hSw; (try dsimp only at hSw); (go_simp; try with_reducible rfl)
            simp only [Act.put, List.setIfInBounds_toArray, List.set_cons_zero, List.set_cons_succ, List.getElem_toArray, List.getElem_cons_zero, List.getElem_cons_succ]
            refine wpAnyH_take (i := 24) (v := ?_) rfl (by kernel_rfl) (by kernel_rfl) (by kernel_rfl) (fun _ _ _ h => h) (Or.inl ⟨by rfl, ?_⟩) (by assumption) ?_
            rotate_left
            · intro w' hSw; (try dsimp only at hSw); (go_simp; try with_reducible rfl)
            simp only [Act.put, List.setIfInBounds_toArray, List.set_cons_zero, List.set_cons_succ, List.getElem_toArray, List.getElem_cons_zero, List.getElem_cons_succ]
            refine wpAnyH_take (i := 25) (v := ?_) rfl (by kernel_rfl) (by kernel_rfl) (by kernel_rfl) (fun _ _ _ h => h) (Or.inl ⟨by rfl, ?_⟩) (by assumption) ?_
            rotate_left
            · intro w' hSw; (try dsimp only at hSw); (go_simp; try with_reducible rfl)
            simp only [Act.put, List.setIfInBounds_toArray, List.set_cons_zero, List.set_cons_succ, List.getElem_toArray, List.getElem_cons_zero, List.getElem_cons_succ]
            refine wpAnyH_take (i := 26) (v := ?_) rfl (by kernel_rfl) (by kernel_rfl) (by kernel_rfl) (fun _ _ _ h => h) (Or.inl ⟨by rfl, ?_⟩) (by assumption) ?_
            rotate_left
            · intro w' hSw; (try dsimp only at hSw); (go_simp; try with_reducible rfl)
            simp only [Act.put, List.setIfInBounds_toArray, List.set_cons_zero, List.set_cons_succ, List.getElem_toArray, List.getElem_cons_zero, List.getElem_cons_succ]
            refine wpAnyH_take (i := 27) (v := ?_) rfl (by kernel_rfl) (by kernel_rfl) (by kernel_rfl) (fun _ _ _ h => h) (Or.inl ⟨by rfl, ?_⟩) (by assumption) ?_
            rotate_left
            · intro w' hSw; (try dsimp only at hSw); (go_simp; try with_reducible rfl)
            simp only [Act.put, List.setIfInBounds_toArray, List.set_cons_zero, List.set_cons_succ, List.getElem_toArray, List.getElem_cons_zero, List.getElem_cons_succ]
            refine wpAnyH_take (i := 28) (v := ?_) rfl (by kernel_rfl) (by kernel_rfl) (by kernel_rfl) (fun _ _ _ h => h) (Or.inl ⟨by rfl, ?_⟩) (by assumption) ?_
            rotate_left
            · intro w' hSw; (try dsimp only at hSw); (go_simp; try with_reducible rfl)
            simp only [Act.put, List.setIfInBounds_toArray, List.set_cons_zero, List.set_cons_succ, List.getElem_toArray, List.getElem_cons_zero, List.getElem_cons_succ]
            refine wpAnyH_take (i := 29) (v := ?_) rfl (by kernel_rfl) (by kernel_rfl) (by kernel_rfl) (fun _ _ _ h => h) (Or.inl ⟨by rfl, ?_⟩) (by assumption) ?_
            rotate_left
            · intro w' hSw; (try dsimp only at hSw); (go_simp; try with_reducible rfl)
            simp only [Act.put, List.setIfInBounds_toArray, List.set_cons_zero, List.set_cons_succ, List.getElem_toArray, List.getElem_cons_zero, List.getElem_cons_succ]
            refine wpAnyH_take (i := 30) (v := ?_) rfl (by kernel_rfl) (by kernel_rfl) (by kernel_rfl) (fun _ _ _ h => h) (Or.inl ⟨by rfl, ?_⟩) (by assumption) ?_
            rotate_left
            · intro w' hSw; (try dsimp only at hSw); (go_simp; try with_reducible rfl)
            simp only [Act.put, List.setIfInBounds_toArray, List.set_cons_zero, List.set_cons_succ, List.getElem_toArray, List.getElem_cons_zero, List.getElem_cons_succ]
            refine wpAnyH_take (i := 31) (v := ?_) rfl (by kernel_rfl) (by kernel_rfl) (by kernel_rfl) (fun _ _ _ h => h) (Or.inl ⟨by rfl, ?_⟩) (by assumption) ?_
            rotate_left
            · intro w' hSw; (try dsimp only at hSw); (go_simp; try with_reducible rfl)
            simp only [Act.put, List.setIfInBounds_toArray, List.set_cons_zero, List.set_cons_succ, List.getElem_toArray, List.getElem_cons_zero, List.getElem_cons_succ]
            refine wpAnyH_take (i := 32) (v := ?_) rfl (by kernel_rfl) (by kernel_rfl) (by kernel_rfl) (fun _ _ _ h => h) (Or.inl ⟨by rfl, ?_⟩) (by assumption) ?_
            rotate_left
            · intro w' hSw; (try dsimp only at hSw); (go_simp; try with_reducible rfl)
            simp only [Act.put, List.setIfInBounds_toArray, List.set_cons_zero, List.set_cons_succ, List.getElem_toArray, List.getElem_cons_zero, List.getElem_cons_succ]
            refine wpAnyH_take (i := 33) (v := ?_) rfl (by kernel_rfl) (by kernel_rfl) (by kernel_rfl) (fun _ _ _ h => h) (Or.inl ⟨by rfl, ?_⟩) (by assumption) ?_
            rotate_left
            · intro w' hSw; (try dsimp only at hSw); (go_simp; try with_reducible rfl)
            simp only [Act.put, List.setIfInBounds_toArray, List.set_cons_zero, List.set_cons_succ, List.getElem_toArray, List.getElem_cons_zero, List.getElem_cons_succ]
            refine wpAnyH_take (i := 34) (v := ?_) rfl (by kernel_rfl) (by kernel_rfl) (by kernel_rfl) (fun _ _ _ h => h) (Or.inl ⟨by rfl, ?_⟩) (by assumption) ?_
            rotate_left
            · intro w' hSw; (try dsimp only at hSw); (go_simp; try with_reducible rfl)
            simp only [Act.put, List.setIfInBounds_toArray, List.set_cons_zero, List.set_cons_succ, List.getElem_toArray, List.getElem_cons_zero, List.getElem_cons_succ]
            refine wpAnyH_take (i := 35) (v := ?_) rfl (by kernel_rfl) (by kernel_rfl) (by kernel_rfl) (fun _ _ _ h => h) (Or.inl ⟨by rfl, ?_⟩) (by assumption) ?_
            rotate_left
            · intro w' hSw; (try dsimp only at hSw); (go_simp; try with_reducible rfl)
            simp only [Act.put, List.setIfInBounds_toArray, List.set_cons_zero, List.set_cons_succ, List.getElem_toArray, List.getElem_cons_zero, List.getElem_cons_succ]
            refine wpAnyH_take (i := 36) (v := ?_) rfl (by kernel_rfl) (by kernel_rfl) (by kernel_rfl) (fun _ _ _ h => h) (Or.inl ⟨by rfl, ?_⟩) (by assumption) ?_
            rotate_left
            · intro w' hSw; (try dsimp only at hSw); (go_simp; try with_reducible rfl)
            simp only [Act.put, List.setIfInBounds_toArray, List.set_cons_zero, List.set_cons_succ, List.getElem_toArray, List.getElem_cons_zero, List.getElem_cons_succ]
            refine wpAnyH_ready (rs := [37]) (by kernel_rfl) (by simp) ?_
            refine AllReadyH.cons rfl (fun K hK => ?_) AllReadyH.nil
            simp only [List.getElem_toArray, List.getElem_cons_zero, List.getElem_cons_succ]
            go_simp
            go_at_call 9
            refine (C5.out _ Z7).mono ?_
            rintro e we ⟨rfl, be⟩
            have Z9 := Z7.trans (be.mono Z7.size)
            refine hK.out _ _ ?_ (fun hHeld => ?_)
            · exact KS.out _ Z9
            clear hK K
            refine wpAnyH_take (i := 38) (v := ?_) rfl (by kernel_rfl) (by kernel_rfl) (by kernel_rfl) (fun _ _ _ h => h) (Or.inl ⟨by rfl, ?_⟩) (by assumption) ?_
            rotate_left
            · intro w' hSw; (try dsimp only at hSw); (go_simp; try with_reducible rfl)
            simp only [Act.put, List.setIfInBounds_toArray, List.set_cons_zero, List.set_cons_succ, List.getElem_toArray, List.getElem_cons_zero, List.getElem_cons_succ]
            refine wpAnyH_take (i := 39) (v := ?_) rfl (by kernel_rfl) (by kernel_rfl) (by kernel_rfl) (fun _ _ _ h => h) (Or.inl ⟨by rfl, ?_⟩) (by assumption) ?_
            rotate_left
            · intro w' hSw; (try dsimp only at hSw); (go_simp; try with_reducible rfl)
            simp only [Act.put, List.setIfInBounds_toArray, List.set_cons_zero, List.set_cons_succ, List.getElem_toArray, List.getElem_cons_zero, List.getElem_cons_succ]
            refine wpAnyH_take (i := 40) (v := ?_) rfl (by kernel_rfl) (by kernel_rfl) (by kernel_rfl) (fun _ _ _ h => h) (Or.inl ⟨by rfl, ?_⟩) (by assumption) ?_
            rotate_left
            · intro w' hSw; (try dsimp only at hSw); (go_simp; try with_reducible rfl)
            simp only [Act.put, List.setIfInBounds_toArray, List.set_cons_zero, List.set_cons_succ, List.getElem_toArray, List.getElem_cons_zero, List.getElem_cons_succ]
            refine wpAnyH_take (i := 41) (v := ?_) rfl (by kernel_rfl) (by kernel_rfl) (by kernel_rfl) (fun _ _ _ h => h) (Or.inl ⟨by rfl, ?_⟩) (by assumption) ?_
            rotate_left
            · intro w' hSw; (try dsimp only at hSw); (go_simp; try with_reducible rfl)
            simp only [Act.put, List.setIfInBounds_toArray, List.set_cons_zero, List.set_cons_succ, List.getElem_toArray, List.getElem_cons_zero, List.getElem_cons_succ]
            refine wpAnyH_done (by kernel_rfl) ?_ _
            go_wp2_with fail
            go_ret
            exact ⟨rfl, bl_go B8 Z9⟩
  · have hg : decide ((1048576 : Int) < (bs.length : Int)) = true := by simp; omega
    go_enter Tryz.func3, Tryz.ntmps3
    go_wp2
    go_ret
    exact ⟨rfl, Below.refl _ _⟩
end Go.Proofs.YtafmpgikdhlknaaGreat
