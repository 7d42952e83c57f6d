/- FnLackMost: joined from DrawFew, DrawLack, Ones, LackI, LackE, BalI, PerfN, LLackMost. -/
import Derived.Test.YtbplnjigoghboaaDrawSome
import Derived.Test.YtbplnjigoghboaaDrawCol
import Derived.Test.YtbplnjigoghboaaDark
import Derived.Test.YtbplnjigoghboaaPopN
import Derived.Test.YtbplnjigoghboaaBase
import Derived.Laws.BitsAllLaws
import Derived.Laws.BitsLemmas
import Derived.Laws.Bits64b
import Derived.WalkKit
import Derived.Test.YtbplnjigoghboaaLackN
import Derived.Test.YtbplnjigoghboaaBesideI
import Derived.Test.YtbplnjigoghboaaCellMark
import Derived.Test.YtbplnjigoghboaaAscend
import Derived.Test.YtbplnjigoghboaaDarkMany
import Derived.Test.YtbplnjigoghboaaBw
import Derived.Test.YtbplnjigoghboaaLaidN
import Derived.Test.YtbplnjigoghboaaMTil
import Derived.Test.YtbplnjigoghboaaGb
import Derived.Test.YtbplnjigoghboaaAlive
import Derived.Test.YtbplnjigoghboaaLaidI
import Derived.Test.YtbplnjigoghboaaMemE
/- Contract: the draw of a region with few dark cells. -/
namespace Go.Proofs.Ytbplnjigoghboaa
open Go.RowKit

section
variable {w wr w' : World} {g : Nat} {A : Option Addr} {c : Nat} {bytes : List Int} {q : Nat}
theorem Rs.setb (h : Rs w g A c bytes q wr) {bx i : Nat} (hb : w.heap.size < bx) (u : Value) : Rs w g A c bytes q (wr.setCell ⟨bx, i, none⟩ u) := by
  have hg := h.hg
  have hs : ∀ k, k ≠ bx → (wr.setCell ⟨bx, i, none⟩ u).heap[k]? = wr.heap[k]? := fun k hk => Below.heap_setCell _ _ _ _ hk
  refine ⟨⟨(hs g (by omega)).trans h.rds.1, ?_, h.rds.2.2.1, h.rds.2.2.2⟩, (hs _ (by omega)).trans h.res, ⟨h.gb.os, h.gb.tape, h.gb.output, ?_, fun k hk hn => (hs k (by omega)).trans (h.gb.block k hk hn)⟩, h.hg, h.ha⟩
  · refine h.rds.2.1.grownBelow (set_grownR wr ⟨bx, i, none⟩ u) (fun hne ad ha e => ?_)
    have := h.ha (by simpa using hne) ad ha
    have e' : ad.block = bx := by simpa using e
    omega
  · have := h.gb.size
    simpa [World.setCell] using this
end
theorem box3_set {w : World} {b : Nat} {x y z : Value} {t : TypeId} (h : w.heap[b]? = some (.cells #[x, y, z] t (0, 0))) (x' y' z' : Value) : (((w.setCell ⟨b, 0, none⟩ x').setCell ⟨b, 1, none⟩ y').setCell ⟨b, 2, none⟩ z').heap[b]? = some (.cells #[x', y', z'] t (0, 0)) :=
  heap_setCell_same _ b 2 _ _ z' (heap_setCell_same _ b 1 _ _ y' (heap_setCell_same _ b 0 _ _ x' h))
set_option maxRecDepth 100000 in
set_option maxHeartbeats 8000000 in
theorem few_any (n : Int) (w : World) (g : Nat) (A : Option Addr) (c : Nat) (bytes : List Int) (p : Nat) (h : RdS w g A c bytes p) (hp : p ≤ 30000) (hn0 : 0 ≤ n) (hn : n ≤ 1000) :
    Calls Try.prog 131 #[.pointer (some ⟨g, 0, none⟩), .int .i64 n] w (SomeReg g A c bytes p 130 w) := by
  have hg := heap_lt h.1
  have hA : bytes ≠ [] → ∀ ad, A = some ad → ad.block < w.heap.size := by
    intro hne ad ha
    obtain ⟨ad', ha', hc⟩ := h.2.1 (by simpa using hne)
    obtain rfl := Option.some.inj (ha.symm.trans ha')
    obtain ⟨x, ys, rfl⟩ := List.exists_cons_of_ne_nil hne
    have := World.block_lt_of_cell? w _ (hc 0 _ rfl)
    simpa [Addr.add] using this
  have H0 : Rs w g A c bytes p (w.alloc (.cells #[.int .i64 0, .int .i64 0, .slice none 0 0] 40)) :=
    ⟨h.below hg (bl_alloc (Below.refl _ _) _), heap_alloc_new w _, gb_below (World.grownBy.refl _ _) (bl_alloc (Below.refl _ _) _), hg, hA⟩
  go_enter Try.func131, Try.ntmps131
  go_wp2_with fail
  have hsa : (w.alloc (.cells #[.int .i64 0, .int .i64 0, .slice none 0 0] 40)).heap.size = w.heap.size + 1 := by simp
  generalize w.alloc (.cells #[.int .i64 0, .int .i64 0, .slice none 0 0] 40) = wa at *
  refine (region_any n _ g A c bytes p H0.rds (by omega) hn0 hn).mono ?_
  rintro e w1 ⟨W, T, bs, B, kb, q, rfl, hrd, hl37, S1, hq, G1, hB⟩
  have hB1 : ∀ ad, B = some ad → w.heap.size < ad.block := fun ad ha => by have := hB ad ha; omega
  have H1 := (H0.pick S1 G1).alloc (.cells #[.int .i64 W, .int .i64 T, .slice B bs.length kb] 40)
  have R1 := hrd.alloc (.cells #[.int .i64 W, .int .i64 T, .slice B bs.length kb] 40)
  have X1 : (w1.alloc (.cells #[.int .i64 W, .int .i64 T, .slice B bs.length kb] 40)).heap[w1.heap.size]? = some (.cells #[.int .i64 W, .int .i64 T, .slice B bs.length kb] 40 (0, 0)) := heap_alloc_new w1 _
  have hbx : w.heap.size < w1.heap.size := by have := heap_lt (H0.pick S1 G1).res; omega
  have hB1' : ∀ ad, B = some ad → g ≠ ad.block := fun ad ha => by have := hB1 ad ha; omega
  clear H0 S1 G1 hrd hB
  go_wp2_with fail
  generalize w1.alloc (.cells #[.int .i64 W, .int .i64 T, .slice B bs.length kb] 40) = wb at *
  generalize w1.heap.size = bx at *
  refine (pick_any 3 _ g A c bytes q H1.rds (by omega) (by omega)).mono ?_
  rintro e w2 ⟨r, rfl, hr, S2, G2⟩
  have H2 := H1.pick S2 G2
  have R2 := R1.grownBelow G2 (fun _ ad ha e => hB1' ad ha (by have e' : ad.block = g := (by simpa using e); exact e'.symm))
  have X2 := (G2.block bx (heap_lt X1) (by simp; omega)).trans X1
  clear H1 S2 G2 R1 X1
  obtain ⟨s0, s1, s2, t0, t1, t2⟩ := blk3 X2
  by_cases hr0 : r = 0
  · subst hr0
    go_wp2_with fail
    refine (some_any n _ g A c bytes (q + 1) H2.rds (by omega) hn0 hn).mono ?_
    rintro e w3 ⟨W', T', bs', B', kb', q', rfl, hrd', hl37', S3, hq', G3, hB'⟩
    have H3 := H2.pick S3 G3
    have X3 := (G3.block bx (heap_lt X2) (by simp; omega)).trans X2
    have hbx2 := heap_lt X2
    have hK := fun (v : World) (i : Nat) (u : Value) (R : Rd v B' (bs'.map .bool)) => R.grownBelow (set_grownR v ⟨bx, i, none⟩ u) (fun _ ad ha e => by have := hB' ad ha; have e' : ad.block = bx := (by simpa using e); omega)
    have R4 := hK _ 2 (.slice B' bs'.length kb') (hK _ 1 (.int .i64 T') (hK _ 0 (.int .i64 W') hrd'))
    have H4 := ((H3.setb (i := 0) hbx (.int .i64 W')).setb (i := 1) hbx (.int .i64 T')).setb (i := 2) hbx (.slice B' bs'.length kb')
    have X4 := box3_set X3 (.int .i64 W') (.int .i64 T') (.slice B' bs'.length kb')
    have hB4 : ∀ ad, B' = some ad → w.heap.size < ad.block := fun ad ha => by have := hB' ad ha; omega
    have hq4 : q' ≤ p + 121 := by omega
    clear s0 s1 s2 t0 t1 t2 H2 R2 hK
    obtain ⟨s0, s1, s2, t0, t1, t2⟩ := blk3 X3
    clear H3 hrd' S3 G3 X2
    have hmx : bs'.length ≤ maxLen := by unfold maxLen; omega
    have CD := Lib.hid (fun (z : World) (R : Rd z B' (bs'.map .bool)) => sDarkCells_any W' T' B' kb' bs' z R hmx)
    have hdl := darkV_len W' T' bs' hl37'
    generalize darkV W' T' bs' = D at CD hdl
    go_wp2_with fail
    generalize ((w3.setCell ⟨bx, 0, none⟩ (.int .i64 W')).setCell ⟨bx, 1, none⟩ (.int .i64 T')).setCell ⟨bx, 2, none⟩ (.slice B' bs'.length kb') = w4 at *
    clear s0 s1 s2 t0 t1 t2
    obtain ⟨s0, s1, s2, t0, t1, t2⟩ := blk3 X4
    skip
    refine (CD.out _ R4).mono ?_
    rintro e w5 ⟨A5, k5, rfl, -, b5, -⟩
    have H5 := H4.below b5
    have R5 := R4.belo b5
    have X5 := (b5.block bx (heap_lt X4)).trans X4
    clear H4 R4 X4 b5 s0 s1 s2 t0 t1 t2
    by_cases hd : 10 < D.length
    · have hgt : decide ((10 : Int) < (D.length : Int)) = true := by simp; omega
      go_wp2_with fail
      refine (pick_any 4 _ g A c bytes _ H5.rds (by omega) (by omega)).mono ?_
      rintro e w6 ⟨r6, rfl, ⟨c6, d6⟩, S6, G6⟩
      have H6 := H5.pick S6 G6
      have d6' : r6 ≤ 3 := by omega
      clear H5 S6 G6 R5 X5
      go_wp2_with fail
      refine (pick_any 4 _ g A c bytes _ H6.rds (by omega) (by omega)).mono ?_
      rintro e w7 ⟨r7, rfl, ⟨c7, d7⟩, S7, G7⟩
      have H7 := H6.pick S7 G7
      have d7' : r7 ≤ 3 := by omega
      clear H6 S7 G7
      go_wp2_with fail
      refine (sRegionBox_any (1 + r6) (1 + r7) _).mono ?_
      rintro e w8 ⟨B8, k8, rfl, o8, b8⟩
      have H8 := H7.below b8
      have hB8 : ∀ ad, B8 = some ad → w.heap.size < ad.block := fun ad ha => by have t := o8.1 ad ha; have := heap_lt H7.res; omega
      obtain ⟨s0, s1, s2, t0, t1, t2⟩ := blk3 H8.res
      clear H7 b8
      go_wp2_with fail
      refine bodyPost_ret (v := .agg #[.int .i64 (boxW (1 + r6) (1 + r7)), .int .i64 (boxT (1 + r6) (1 + r7)), .slice B8 (boxB (1 + r6) (1 + r7)).length k8]) (by simp [results, Try.results131, go_sem, s0, s1, s2]) rfl ?_
      exact H8.done o8.rd hB8 (by have := box_len (1 + r6) (1 + r7); omega) (by omega)
    · have hgt : decide ((10 : Int) < (D.length : Int)) = false := by simp; omega
      obtain ⟨x0, x1, x2, -, -, -⟩ := blk3 X5
      obtain ⟨s0, s1, s2, t0, t1, t2⟩ := blk3 H5.res
      go_wp2_with fail
      refine bodyPost_ret (v := .agg #[.int .i64 W', .int .i64 T', .slice B' bs'.length kb']) (by simp [results, Try.results131, go_sem, s0, s1, s2]) rfl ?_
      exact H5.done R5 hB4 hl37' (by omega)
  · have hr0' : (r == 0) = false := by simpa using hr0
    have H4 := H2
    have R4 := R2
    have X4 := X2
    have hq4 : q + 1 ≤ p + 121 := by omega
    clear H2 R2 X2
    have hmx : bs.length ≤ maxLen := by unfold maxLen; omega
    have CD := Lib.hid (fun (z : World) (R : Rd z B (bs.map .bool)) => sDarkCells_any W T B kb bs z R hmx)
    have hdl := darkV_len W T bs hl37
    generalize darkV W T bs = D at CD hdl
    go_wp2_with fail
    skip
    clear s0 s1 s2 t0 t1 t2
    obtain ⟨s0, s1, s2, t0, t1, t2⟩ := blk3 X4
    skip
    refine (CD.out _ R4).mono ?_
    rintro e w5 ⟨A5, k5, rfl, -, b5, -⟩
    have H5 := H4.below b5
    have R5 := R4.belo b5
    have X5 := (b5.block bx (heap_lt X4)).trans X4
    clear H4 R4 X4 b5 s0 s1 s2 t0 t1 t2
    by_cases hd : 10 < D.length
    · have hgt : decide ((10 : Int) < (D.length : Int)) = true := by simp; omega
      go_wp2_with fail
      refine (pick_any 4 _ g A c bytes _ H5.rds (by omega) (by omega)).mono ?_
      rintro e w6 ⟨r6, rfl, ⟨c6, d6⟩, S6, G6⟩
      have H6 := H5.pick S6 G6
      have d6' : r6 ≤ 3 := by omega
      clear H5 S6 G6 R5 X5
      go_wp2_with fail
      refine (pick_any 4 _ g A c bytes _ H6.rds (by omega) (by omega)).mono ?_
      rintro e w7 ⟨r7, rfl, ⟨c7, d7⟩, S7, G7⟩
      have H7 := H6.pick S7 G7
      have d7' : r7 ≤ 3 := by omega
      clear H6 S7 G7
      go_wp2_with fail
      refine (sRegionBox_any (1 + r6) (1 + r7) _).mono ?_
      rintro e w8 ⟨B8, k8, rfl, o8, b8⟩
      have H8 := H7.below b8
      have hB8 : ∀ ad, B8 = some ad → w.heap.size < ad.block := fun ad ha => by have t := o8.1 ad ha; have := heap_lt H7.res; omega
      obtain ⟨s0, s1, s2, t0, t1, t2⟩ := blk3 H8.res
      clear H7 b8
      go_wp2_with fail
      refine bodyPost_ret (v := .agg #[.int .i64 (boxW (1 + r6) (1 + r7)), .int .i64 (boxT (1 + r6) (1 + r7)), .slice B8 (boxB (1 + r6) (1 + r7)).length k8]) (by simp [results, Try.results131, go_sem, s0, s1, s2]) rfl ?_
      exact H8.done o8.rd hB8 (by have := box_len (1 + r6) (1 + r7); omega) (by omega)
    · have hgt : decide ((10 : Int) < (D.length : Int)) = false := by simp; omega
      obtain ⟨x0, x1, x2, -, -, -⟩ := blk3 X5
      obtain ⟨s0, s1, s2, t0, t1, t2⟩ := blk3 H5.res
      go_wp2_with fail
      refine bodyPost_ret (v := .agg #[.int .i64 W, .int .i64 T, .slice B bs.length kb]) (by simp [results, Try.results131, go_sem, s0, s1, s2]) rfl ?_
      exact H5.done R5 hB1 hl37 (by omega)
end Go.Proofs.Ytbplnjigoghboaa

/- Contracts: more draws of a region with few dark cells. -/
namespace Go.Proofs.Ytbplnjigoghboaa
open Go.RowKit

set_option maxRecDepth 100000 in
set_option maxHeartbeats 2000000 in
theorem drawLackMost_any (A : Option Addr) (c : Nat) (bs : List Int) (w : World) (hr : Rd w A (bs.map (.int .u8))) (hw : ∀ x ∈ bs, 0 ≤ x ∧ x ≤ 255) (hn : bs.length ≤ 1048576) (hcap : bs.length ≤ c) :
    Calls Try.prog 62 #[.slice A bs.length c] w (Drawn0 w) := by
  have HW := Lib.hid hw
  clear hw
  have hr1 := hr.alloc (.cells #[.int .i64 0, .int .i64 0, .slice none 0 0] 40)
  have P0 : (w.alloc (.cells #[.int .i64 0, .int .i64 0, .slice none 0 0] 40)).heap[w.heap.size]? = some (.cells #[.int .i64 0, .int .i64 0, .slice none 0 0] 40 (0, 0)) := heap_alloc_new w _
  have Z0 := bl_alloc (Below.refl w.heap.size w) (.cells #[.int .i64 0, .int .i64 0, .slice none 0 0] 40)
  have hs0 : (w.alloc (.cells #[.int .i64 0, .int .i64 0, .slice none 0 0] 40)).heap.size = w.heap.size + 1 := by simp
  go_enter Try.func62, Try.ntmps62
  go_wp2_with fail
  generalize w.alloc (.cells #[.int .i64 0, .int .i64 0, .slice none 0 0] 40) = wa at *
  refine (open_any A c bs _ hr1 HW.out hn hcap).mono ?_
  rintro e w1 ⟨g, A1, c1, by1, rfl, O1⟩
  clear hr1 HW hn hcap hr
  go_wp2_with fail
  refine (few_any 9 _ g A1 c1 by1 0 O1.1 (by omega) (by omega) (by omega)).mono ?_
  rintro e w2 ⟨W, T, xs, B, k, p2, rfl, R2, hl2, S2, hp2, G2, f2⟩
  have O2 := O1.pick S2 G2
  have hsz : w.heap.size < w1.heap.size := by have := O1.lt; have := O1.2.1; omega
  clear S2 G2 O1
  have hB := O2.2.2
  obtain ⟨s0, s1, s2, g0, g1, g2⟩ := blk3 ((hB.block w.heap.size (by omega)).trans P0)
  have K := fun (v : World) (i : Nat) (u : Value) (R : Rd v B (xs.map .bool)) => R.grownBelow (set_grownR v ⟨w.heap.size, i, none⟩ u) (fun _ ad ha e => by have := f2 ad ha; have e' : ad.block = w.heap.size := (by simpa using e); omega)
  have R8 := K _ 2 (.slice B xs.length k) (K _ 1 (.int .i64 T) (K _ 0 (.int .i64 W) R2))
  have B8 := (((Z0.trans (hB.mono (show w.heap.size ≤ wa.heap.size by omega))).setCell (p := ⟨w.heap.size, 0, none⟩) (Nat.le_refl _) (.int .i64 W)).setCell (p := ⟨w.heap.size, 1, none⟩) (Nat.le_refl _) (.int .i64 T)).setCell (p := ⟨w.heap.size, 2, none⟩) (Nat.le_refl _) (.slice B xs.length k)
  clear K
  go_wp2
  refine bodyPost_ret (v := .agg #[.int .i64 W, .int .i64 T, .slice B xs.length k]) (by simp [results, Try.results62, go_sem, s0, s1, s2]) rfl ⟨W, T, xs, B, k, rfl, R8, hl2, B8⟩
end Go.Proofs.Ytbplnjigoghboaa

/- Contracts: math/bits.OnesCount64, OnesCount. -/
namespace Go.Proofs.Ytbplnjigoghboaa
open Go.RowKit

theorem ofInt_n64 (a : Nat) (ha : a < 18446744073709551616) : (BitVec.ofInt 64 (a : Int)).toNat = a := by
  rw [BitVec.ofInt_natCast, BitVec.toNat_ofNat]; exact Nat.mod_eq_of_lt (by omega)
theorem i64_and_nat (a b : Nat) (ha : a < 9223372036854775808) (hb : b < 9223372036854775808) : bits .and .i64 (a : Int) (b : Int) = ((a &&& b : Nat) : Int) := by
  have hx : a &&& b < 2 ^ 63 := Nat.and_lt_two_pow _ (by omega)
  show IntKind.i64.wrap ((BitVec.ofInt 64 (a : Int) &&& BitVec.ofInt 64 (b : Int)).toNat : Int) = _
  rw [BitVec.toNat_and, ofInt_n64 a (by omega), ofInt_n64 b (by omega), IntKind.wrap_i64]
  omega
theorem u64_wrap (a : Nat) (ha : a < 18446744073709551616) : IntKind.u64.wrap (a : Int) = a := by
  simp [IntKind.wrap, IntKind.bits, IntKind.signed]; omega
theorem msk_eq : msk 0x55 8 = 6148914691236517205 ∧ msk 0x33 8 = 3689348814741910323 ∧ msk 0x0f 8 = 1085102592571150095 := by decide
/-- the sums as the code makes them -/
theorem pop_code (x : Nat) (hx : x < 18446744073709551616) : ∃ a1 a2 b1 b2 s3 x3 x6 : Nat,
    bits .and .u64 ((x : Int) / 2) 6148914691236517205 = a1 ∧ bits .and .u64 (x : Int) 6148914691236517205 = a2 ∧ IntKind.u64.wrap ((a1 : Int) + a2) = ((a1 + a2 : Nat) : Int) ∧
    bits .and .u64 (((a1 + a2 : Nat) : Int) / 4) 3689348814741910323 = b1 ∧ bits .and .u64 ((a1 + a2 : Nat) : Int) 3689348814741910323 = b2 ∧ IntKind.u64.wrap ((b1 : Int) + b2) = ((b1 + b2 : Nat) : Int) ∧
    IntKind.u64.wrap (((b1 + b2 : Nat) : Int) / 16 + ((b1 + b2 : Nat) : Int)) = s3 ∧ bits .and .u64 (s3 : Int) 1085102592571150095 = x3 ∧
    x3 ≤ 578721382704613384 ∧ x6 = x3 + x3 / 256 + (x3 + x3 / 256) / 65536 + (x3 + x3 / 256 + (x3 + x3 / 256) / 65536) / 4294967296 ∧ x6 % 128 = bitsCnt 64 x := by
  obtain ⟨m1, m2, m3⟩ := msk_eq
  have h1 := Nat.and_le_right (n := x / 2) (m := 6148914691236517205)
  have h2 := Nat.and_le_right (n := x) (m := 6148914691236517205)
  obtain ⟨a1, ha1⟩ : ∃ a, x / 2 &&& 6148914691236517205 = a := ⟨_, rfl⟩
  obtain ⟨a2, ha2⟩ : ∃ a, x &&& 6148914691236517205 = a := ⟨_, rfl⟩
  rw [ha1] at h1
  rw [ha2] at h2
  have hp1 : pa 8 x = a1 + a2 := by unfold pa; rw [m1, ha1, ha2]
  have h3 := Nat.and_le_right (n := (a1 + a2) / 4) (m := 3689348814741910323)
  have h4 := Nat.and_le_right (n := a1 + a2) (m := 3689348814741910323)
  obtain ⟨b1, hb1⟩ : ∃ a, (a1 + a2) / 4 &&& 3689348814741910323 = a := ⟨_, rfl⟩
  obtain ⟨b2, hb2⟩ : ∃ a, (a1 + a2) &&& 3689348814741910323 = a := ⟨_, rfl⟩
  rw [hb1] at h3
  rw [hb2] at h4
  have hp2 : pb 8 (pa 8 x) = b1 + b2 := by rw [hp1]; unfold pb; rw [m2, hb1, hb2]
  obtain ⟨x3, hx3⟩ : ∃ a, ((b1 + b2) / 16 + (b1 + b2)) &&& 1085102592571150095 = a := ⟨_, rfl⟩
  have hp3 : x3 = pAll 8 x := by unfold pAll; rw [hp2]; unfold pc; rw [m3, hx3]
  obtain ⟨hbd, hsum⟩ := pop_sum x x3 hp3
  refine ⟨a1, a2, b1, b2, (b1 + b2) / 16 + (b1 + b2), x3, _, ?_, ?_, ?_, ?_, ?_, ?_, ?_, ?_, hbd, rfl, hsum⟩
  · rw [show (x : Int) / 2 = ((x / 2 : Nat) : Int) by omega, ← ha1]; exact bits_and_u64_nat _ 6148914691236517205 (by omega) (by omega)
  · rw [← ha2]; exact bits_and_u64_nat _ 6148914691236517205 (by omega) (by omega)
  · rw [← Int.natCast_add]; exact u64_wrap _ (by omega)
  · rw [show ((a1 + a2 : Nat) : Int) / 4 = (((a1 + a2) / 4 : Nat) : Int) by omega, ← hb1]; exact bits_and_u64_nat _ 3689348814741910323 (by omega) (by omega)
  · rw [← hb2]; exact bits_and_u64_nat _ 3689348814741910323 (by omega) (by omega)
  · rw [← Int.natCast_add]; exact u64_wrap _ (by omega)
  · rw [show ((b1 + b2 : Nat) : Int) / 16 + ((b1 + b2 : Nat) : Int) = (((b1 + b2) / 16 + (b1 + b2) : Nat) : Int) by omega]; exact u64_wrap _ (by omega)
  · rw [← hx3]; exact bits_and_u64_nat _ 1085102592571150095 (by omega) (by omega)
set_option maxRecDepth 100000 in
set_option maxHeartbeats 2000000 in
theorem ones64_any (x : Nat) (hx : x < 18446744073709551616) (w : World) :
    Calls Try.prog 176 #[.int .u64 (x : Int)] w fun e w' => e = .returned (.int .i64 (bitsCnt 64 x : Nat)) ∧ w = w' := by
  obtain ⟨a1, a2, b1, b2, s3, x3, x6, f1, f2, f3, f4, f5, f6, f7, f8, hbd, h6, hs⟩ := pop_code x hx
  have f9 : IntKind.u64.wrap ((x3 : Int) + (x3 : Int) / 256) = ((x3 + x3 / 256 : Nat) : Int) := by rw [show (x3 : Int) + (x3 : Int) / 256 = ((x3 + x3 / 256 : Nat) : Int) by omega]; exact u64_wrap _ (by omega)
  obtain ⟨x4, hx4⟩ : ∃ y, x3 + x3 / 256 = y := ⟨_, rfl⟩
  rw [hx4] at f9 h6
  have f10 : IntKind.u64.wrap ((x4 : Int) + (x4 : Int) / 65536) = ((x4 + x4 / 65536 : Nat) : Int) := by rw [show (x4 : Int) + (x4 : Int) / 65536 = ((x4 + x4 / 65536 : Nat) : Int) by omega]; exact u64_wrap _ (by omega)
  obtain ⟨x5, hx5⟩ : ∃ y, x4 + x4 / 65536 = y := ⟨_, rfl⟩
  rw [hx5] at f10 h6
  have f11 : IntKind.u64.wrap ((x5 : Int) + (x5 : Int) / 4294967296) = ((x5 + x5 / 4294967296 : Nat) : Int) := by rw [show (x5 : Int) + (x5 : Int) / 4294967296 = ((x5 + x5 / 4294967296 : Nat) : Int) by omega]; exact u64_wrap _ (by omega)
  rw [← h6] at f11
  have f12 : IntKind.i64.wrap (x6 : Int) = x6 := IntWalk.i64_in _ (by omega)
  have f13 : bits .and .i64 (x6 : Int) 127 = ((x6 % 128 : Nat) : Int) := by
    have h := i64_and_nat x6 127 (by omega) (by omega)
    rw [show (127 : Nat) = 2 ^ 7 - 1 from rfl, Nat.and_two_pow_sub_one_eq_mod] at h
    exact h
  rw [hs] at f13
  obtain ⟨y1, hy1⟩ : ∃ y, a1 + a2 = y := ⟨_, rfl⟩
  obtain ⟨y2, hy2⟩ : ∃ y, b1 + b2 = y := ⟨_, rfl⟩
  rw [hy1] at f3 f4 f5
  rw [hy2] at f6 f7
  clear hs h6 hx4 hx5 hy1 hy2 hbd hx
  go_enter Try.func176, Try.ntmps176
  go_wp2
  go_ret
  exact ⟨rfl, rfl⟩
set_option maxHeartbeats 2000000 in
theorem ones_any (x : Nat) (hx : x < 18446744073709551616) (w : World) :
    Calls Try.prog 175 #[.int .u64 (x : Int)] w fun e w' => e = .returned (.int .i64 (bitsCnt 64 x : Nat)) ∧ w = w' := by
  go_enter Try.func175, Try.ntmps175
  go_wp2_with fail
  refine (ones64_any x hx _).mono ?_
  rintro e w' ⟨rfl, rfl⟩
  go_wp2
  go_ret
  exact ⟨rfl, rfl⟩
end Go.Proofs.Ytbplnjigoghboaa

/- Contracts: the program's sets of dark cells. -/
namespace Go.Proofs.Ytbplnjigoghboaa
open Go.RowKit

theorem Try.infoU : (Try.prog.info? 138).map (fun i => (i.zero, i.size, i.bytes)) = some (some (.int .u64 0), 1, 8) := by kernel_rfl
theorem dark_lt {W : Int} {bs : List Bool} {x : Int} (h : x ∈ darkL W bs true) : 0 ≤ x ∧ x < bs.length := by
  obtain ⟨i, hi, -, rfl⟩ := mem_pick.1 h
  exact ⟨by omega, by omega⟩
theorem bes_lt {W T : Int} {bs : List Bool} {l : List Int} {x : Int} (h : x ∈ besL W T bs l) : 0 ≤ x ∧ x < bs.length := by
  obtain ⟨i, hi, -, rfl⟩ := mem_pick.1 h
  exact ⟨by omega, by omega⟩
def uV (ms : List Nat) : List Value := ms.map fun x : Nat => .int .u64 (x : Int)
theorem uV_at (ms : List Nat) (k : Nat) (h : k < ms.length) : (uV ms)[k]? = some (.int .u64 (ms[k] : Int)) := by unfold uV; rw [List.getElem?_map, List.getElem?_eq_getElem h]; rfl
theorem uV_set (ms : List Nat) (k x : Nat) : (uV ms).set k (.int .u64 (x : Int)) = uV (ms.set k x) := by unfold uV; rw [List.map_set]
theorem set_same0 {ms : List Nat} {k : Nat} (h : ms.getD k 0 = 0) : ms.set k 0 = ms := by
  apply List.ext_getElem?
  intro j
  rw [List.getElem?_set]
  by_cases e : k = j
  · subst e
    rw [if_pos rfl]
    by_cases hk : k < ms.length
    · rw [if_pos hk, List.getElem?_eq_getElem hk]
      rw [List.getD_eq_getElem?_getD, List.getElem?_eq_getElem hk] at h
      simp at h; rw [h]
    · rw [if_neg hk, List.getElem?_eq_none (by omega)]
  · rw [if_neg e]
/-- the bits of the first k cells' neighbours -/
def MskTo (W T : Int) (bs : List Bool) (D : List Int) (ms : List Nat) (k : Nat) : Prop := ms.length = D.length ∧ ∀ j, j < D.length → if j < k then Msk (ms.getD j 0) (besL W T bs [D.getD j 0]) else ms.getD j 0 = 0
theorem MskTo.next {W T : Int} {bs : List Bool} {D : List Int} {ms : List Nat} {k x : Nat} (h : MskTo W T bs D ms k) (hk : k < D.length) (hx : Msk x (besL W T bs [D.getD k 0])) : MskTo W T bs D (ms.set k x) (k + 1) := by
  refine ⟨by rw [List.length_set]; exact h.1, fun j hj => ?_⟩
  have h2 := h.2 j hj
  rw [List.getD_eq_getElem?_getD, List.getElem?_set]
  by_cases e : k = j
  · subst e
    rw [if_pos (by omega), if_pos rfl, if_pos (by rw [h.1]; exact hk)]
    exact hx
  · rw [if_neg e, ← List.getD_eq_getElem?_getD]
    by_cases hjk : j < k
    · rw [if_pos hjk] at h2; rw [if_pos (by omega)]; exact h2
    · rw [if_neg hjk] at h2; rw [if_neg (by omega)]; exact h2
theorem or_nat (a b : Nat) (ha : a < 18446744073709551616) (hb : b < 18446744073709551616) : bits .or .u64 (a : Int) (b : Int) = ((a ||| b : Nat) : Int) := by
  have hx : a ||| b < 2 ^ 64 := Nat.or_lt_two_pow (by omega) (by omega)
  show IntKind.u64.wrap ((BitVec.ofInt 64 (a : Int) ||| BitVec.ofInt 64 (b : Int)).toNat : Int) = _
  rw [BitVec.toNat_or, ofInt_n64 a ha, ofInt_n64 b hb]
  exact u64_wrap _ (by omega)
theorem two_pow64 {y : Nat} (h : y < 64) : 2 ^ y < 18446744073709551616 := by have := Nat.pow_lt_pow_right (a := 2) (by omega) h; omega
theorem shl_u64 {y : Nat} (h : y < 64) : IntKind.u64.wrap ((2 : Int) ^ y) = ((2 ^ y : Nat) : Int) := by
  rw [show ((2 : Int) ^ y) = ((2 ^ y : Nat) : Int) by rw [Int.natCast_pow]; rfl]
  exact u64_wrap _ (two_pow64 h)
theorem shr_nat (s k : Nat) : (s : Int) / 2 ^ k = ((s / 2 ^ k : Nat) : Int) := by rw [Int.natCast_ediv, Int.natCast_pow]; rfl
theorem bit_test (s k : Nat) (hs : s < 9223372036854775808) : (bits .and .i64 ((s : Int) / 2 ^ k) 1 == 1) = s.testBit k := by
  rw [shr_nat]
  have h1 : s / 2 ^ k < 9223372036854775808 := Nat.lt_of_le_of_lt (Nat.div_le_self _ _) hs
  have h := i64_and_nat (s / 2 ^ k) 1 h1 (by omega)
  rw [show bits .and .i64 ((s / 2 ^ k : Nat) : Int) 1 = ((s / 2 ^ k &&& 1 : Nat) : Int) from h, Nat.and_one_is_mod, Nat.testBit_eq_decide_div_mod_eq]
  rcases Nat.mod_two_eq_zero_or_one (s / 2 ^ k) with e | e <;> rw [e] <;> rfl
set_option maxRecDepth 100000 in
set_option maxHeartbeats 4000000 in
theorem lack_any (W T : Int) (A : Option Addr) (c : Nat) (bs : List Bool) (w : World) (hr : Rd w A (bs.map .bool)) (h1 : 1 ≤ W) (h2 : W ≤ 6) (h3 : 1 ≤ T) (h4 : T ≤ 6) (hl : (bs.length : Int) = W * T) (hn : bs.length ≤ 36) (hd : (darkL W bs true).length ≤ 12) :
    Calls Try.prog 136 #[.agg #[.int .i64 W, .int .i64 T, .slice A bs.length c]] w fun e w' => ∃ (A' : Option Addr) (L : List Int), e = .returned (.tuple #[.slice A' L.length L.length, .int .i64 (bestTo W T bs (darkL W bs true) (2 ^ (darkL W bs true).length)).2]) ∧ L = selTo (darkL W bs true) (bestTo W T bs (darkL W bs true) (2 ^ (darkL W bs true).length)).1 (darkL W bs true).length ∧ Wr w' w.heap.size 3 A' (L.map (.int .i64)) ∧ Below w.heap.size w w' := by
  obtain ⟨i0, hi, hz0, hz1, hz2⟩ := info_parts Try.infoU
  have HZ := Lib.hid (And.intro hz0 (And.intro hz1 hz2))
  have HL := Lib.hid hl
  have HDL := Lib.hid (fun x (hx : x ∈ darkL W bs true) => dark_lt hx)
  have CO := Lib.hid (fun (z : World) (R : Rd z A (bs.map .bool)) => coloured_any W T true A c bs z R h1 h2 hn)
  generalize darkL W bs true = D at hd HDL CO ⊢
  clear hl
  have hb1 : i0.bytes * D.length ≤ 281474976710656 := by rw [hz2]; omega
  have X0 := C3.new w (.int .i64 W) (.int .i64 T) (.slice A bs.length c) 40
  have B0 := bl_alloc (Below.refl w.heap.size w) (.cells #[.int .i64 W, .int .i64 T, .slice A bs.length c] 40)
  have R0 := hr.alloc (.cells #[.int .i64 W, .int .i64 T, .slice A bs.length c] 40)
  go_enter Try.func136, Try.ntmps136
  go_wp2_with fail
  refine (CO.out _ R0).mono ?_
  rintro e w1 ⟨A1, rfl, G1, b1⟩
  have D1 := G1.rd
  have hD0 : D.map (Value.int .i64) ≠ [] → ∀ ad', A1 = some ad' → ad'.block < w1.heap.size := fun hne ad' ha => D1.lt ha hne
  have R1 := R0.belo b1
  have B1 := bl_go B0 b1
  have X1 := X0.belo b1
  have s1 : w.heap.size + 1 ≤ w1.heap.size := by have := b1.size; simpa using this
  clear G1 R0 B0 X0 b1
  go_wp2_with (at_make; refine wpList_make_full _ rfl _ _ 137 rfl w1.heap.size 138 i0 (.int .u64 0) 1 Try.underlying137 hi HZ.out.1 HZ.out.2.1 .i64 .i64 _ _ D.length rfl rfl rfl rfl hb1 (by unfold maxLen; omega) (Nat.le_refl _) ?_; intro w2 hown2 hgrow2)
  have R2 := R1.grown hgrow2 (fun g h => by cases h)
  have D2 := D1.grown hgrow2 (fun g h => by cases h)
  have B2 := B1.grown hgrow2 B1.size (fun g h => by cases h)
  have X2 := X1.below ((Below.refl (w.heap.size + 1) w1).grown hgrow2 (by omega) (fun g h => by cases h)) (by omega)
  have s2 := hgrow2.size
  rw [show (Value.int .u64 0).cells = #[.int .u64 0] from rfl, toList_madeCells_one] at hown2
  clear hgrow2 R1 D1 B1 X1
  generalize w1.heap.size = g at *
  go_loopw [26] (fun i wr => ∃ (k : Nat) (ms : List Nat), k ≤ D.length ∧ i = .int .i64 k ∧ Hid (MskTo W T bs D ms k) ∧ wr.ownsRow g 138 1 (.slice (some ⟨g, 0, none⟩) D.length D.length) D.length (uV ms) ∧ Rd wr A1 (D.map (.int .i64)) ∧ Rd wr A (bs.map .bool) ∧ Below w.heap.size w wr ∧ C3 wr w.heap.size (.int .i64 W) (.int .i64 T) (.slice A bs.length c)) (fun i _ => D.length - (intOf i).toNat)
  case atStart =>
    refine ⟨0, List.replicate D.length 0, Nat.zero_le _, rfl, ⟨by simp, fun j hj => ?_⟩, ?_, D2, R2, B2, X2⟩
    · rw [if_neg (by omega)]; simp [List.getD_eq_getElem?_getD, hj]
    · unfold uV; simpa using hown2
  case round =>
    clear hown2 D2 R2 B2 X2
    obtain ⟨k, ms, hk, rfl, HM, OW, D2, R2, B2, X2⟩ := hrel
    obtain ⟨x0, x1, x2⟩ := id X2
    by_cases hlt : k < D.length
    · obtain ⟨ad, rfl, hc0⟩ := D2.atM hlt
      obtain ⟨q, hq⟩ : ∃ q, D[k] = q := ⟨_, rfl⟩
      have HQ := Lib.hid hq
      rw [hq] at hc0
      clear hq
      have R3 := R2.alloc (.cells #[.int .i64 q] 3)
      have X3 := X2.alloc (.cells #[.int .i64 q] 3)
      have B3 := bl_alloc B2 (.cells #[.int .i64 q] 3)
      have OW3 := OW.alloc (.cells #[.int .i64 q] 3)
      have D3 := D2.alloc (.cells #[.int .i64 q] 3)
      have Q3 : Rd (wr.alloc (.cells #[.int .i64 q] 3)) (some ⟨wr.heap.size, 0, none⟩) ([q].map (.int .i64)) := fun _ => ⟨_, rfl, fun j u hu => by
        match j, hu with
        | 0, hu => simp at hu; subst hu; rw [add_zero']; exact cell_of_row _ _ _ _ _ _ (heap_alloc_new wr _)⟩
      have CB := Lib.hid (beside_any W T A (some ⟨wr.heap.size, 0, none⟩) c 1 bs [q] _ R3 Q3 h1 h2 h3 h4 HL.out hn (by simp))
      go_wp2_with fail
      refine CB.out.mono ?_
      rintro e w4 ⟨A4, rfl, G4, b4⟩
      have OW4 := own_below OW3 b4 (Nat.le_refl _)
      have D4 := D3.belo b4
      have R4 := R3.belo b4
      have B4 := bl_go B3 b4
      have X4 := X3.belo b4
      have L4 := G4.rd
      have hL0 : ∀ ad', A4 = some ad' → g < ad'.block := fun ad' ha => by have := G4.1 ad' ha; have hh := (OW.lt g rfl).2; have : (wr.alloc (.cells #[.int .i64 q] 3)).heap.size = wr.heap.size + 1 := (by simp); omega
      have hkD : D.getD k 0 = q := by rw [List.getD_eq_getElem?_getD, List.getElem?_eq_getElem hlt, HQ.out]; rfl
      have hm0 := HM.out.2 k hlt
      rw [if_neg (by omega)] at hm0
      have HMS := Lib.hid (set_same0 hm0)
      have HML := Lib.hid HM.out.1
      have HBL := Lib.hid (fun x (h : x ∈ besL W T bs [q]) => bes_lt h)
      have HLn : (besL W T bs [q]).length ≤ 36 := Nat.le_trans (besL_len _ _ _ _) hn
      have HNX := Lib.hid (fun x (hx : Msk x (besL W T bs [q])) => HM.out.next hlt (by rw [hkD]; exact hx))
      clear OW3 D3 R3 B3 X3 G4 Q3 b4 OW D2 R2 B2 X2 x0 x1 x2 hm0 hkD
      generalize besL W T bs [q] = L at *
      obtain ⟨wo, hwo⟩ : ∃ wo : World, wo = w4 := ⟨_, rfl⟩
      subst hwo
      go_wp2_with fail
      go_loopw [36] (fun i wr => ∃ (t x : Nat), t ≤ L.length ∧ i = .int .i64 t ∧ Hid (Msk x (L.take t)) ∧ wr.ownsRow g 138 1 (.slice (some ⟨g, 0, none⟩) D.length D.length) D.length (uV (ms.set k x)) ∧ Rd wr (some ad) (D.map (.int .i64)) ∧ Rd wr A (bs.map .bool) ∧ Below w.heap.size w wr ∧ C3 wr w.heap.size (.int .i64 W) (.int .i64 T) (.slice A bs.length c) ∧ Rd wr A4 (L.map (.int .i64))) (fun i _ => L.length - (intOf i).toNat)
      case atStart => exact ⟨0, 0, Nat.zero_le _, rfl, Msk.nil, by rw [HMS.out]; exact OW4, D4, R4, B4, X4, L4⟩
      case round =>
        clear OW4 D4 R4 B4 X4 L4
        obtain ⟨t, x, ht, rfl, HX, OW, D4, R4, B4, X4, L4⟩ := hrel
        by_cases htl : t < L.length
        · obtain ⟨adl, rfl, hcl⟩ := L4.atM htl
          obtain ⟨y0, y1⟩ := HBL.out _ (List.getElem_mem htl)
          obtain ⟨y, hy⟩ : ∃ y, L[t] = y := ⟨_, rfl⟩
          have HY := Lib.hid hy
          rw [hy] at hcl y0 y1
          clear hy
          obtain ⟨yn, rfl⟩ := Int.eq_ofNat_of_zero_le y0
          have hy36 : yn < 36 := by omega
          have hks : k < (ms.set k x).length := by rw [List.length_set, HML.out]; exact hlt
          have hge : (ms.set k x)[k] = x := by simp
          have hc1 := (OW.cellAt k (by omega)).trans (uV_at _ k hks)
          rw [hge] at hc1
          have hf1 := OW.frozenAt k
          have hkI : (k : Int) < (D.length : Int) := by omega
          clear hge hks y0 y1
          go_wp2_with fail
          go_region
          have hor : bits .or .u64 (x : Int) (IntKind.u64.wrap (2 ^ yn)) = ((x ||| 2 ^ yn : Nat) : Int) := by rw [shl_u64 (by omega)]; exact or_nat _ _ HX.out.1 (two_pow64 (by omega))
          rw [hor]
          go_wp2_with fail
          go_roundw
          case rel =>
            have hset := (OW.stored k (.int .u64 ((x ||| 2 ^ yn : Nat) : Int))).1
            rw [uV_set, List.set_set] at hset
            have far := (Below.refl g wr).setCell (p := ⟨g, k, none⟩) (Nat.le_refl _) (.int .u64 ((x ||| 2 ^ yn : Nat) : Int))
            refine ⟨t + 1, x ||| 2 ^ yn, by omega, by go_num, ?_, hset, ?_, ?_, (B4.setCell (by simp; omega) _).drew, X4.below far.drew (by omega), ?_⟩
            · have h := HX.out.add (y := yn) (by omega)
              show Msk _ _
              rw [take_one_more L t htl, HY.out]
              exact h
            · exact (D4.grownBelow (set_grown wr g k (.int .u64 ((x ||| 2 ^ yn : Nat) : Int))) (fun hne ad' ha e => by have := hD0 hne ad' ha; have e' : ad'.block = g := (by simpa using e); omega)).drew
            · exact (R4.grownBelow (set_grown wr g k (.int .u64 ((x ||| 2 ^ yn : Nat) : Int))) (fun hne ad' ha e => by have := hr.lt ha hne; have e' : ad'.block = g := (by simpa using e); omega)).drew
            · exact (L4.grownBelow (set_grown wr g k (.int .u64 ((x ||| 2 ^ yn : Nat) : Int))) (fun _ ad' ha e => by have := hL0 ad' ha; have e' : ad'.block = g := (by simpa using e); omega)).drew
          case measure => simp [intOf]; omega
        · obtain rfl : t = L.length := by omega
          have HXA : Hid (Msk x L) := by have h := HX.out; rw [List.take_length] at h; exact h
          go_wp2_with fail
          go_roundw
          case rel => exact ⟨k + 1, ms.set k x, by omega, by go_num, HNX.out x HXA.out, OW, D4, R4, B4, X4⟩
          case measure => simp [intOf]; omega
    · obtain rfl : k = D.length := by omega
      have hpw : 1 ≤ 2 ^ D.length ∧ 2 ^ D.length ≤ 4096 := by
        have h1 := Nat.pow_le_pow_right (n := 2) (by omega) hd
        have h2 := Nat.pow_pos (n := D.length) (show 0 < 2 by omega)
        omega
      have hshl : IntKind.i64.wrap (2 ^ D.length) = ((2 ^ D.length : Nat) : Int) := by
        rw [show ((2 : Int) ^ D.length) = ((2 ^ D.length : Nat) : Int) by rw [Int.natCast_pow]; rfl]
        exact IntWalk.i64_in _ (by omega)
      have HLO := Lib.hid (fun s (hs : s < 2 ^ D.length) => (bits_low (m := D.length) (s := s) (by omega) hs).trans (sel_len D s D.length).symm)
      generalize hN : 2 ^ D.length = N at hpw hshl HLO ⊢
      have hwN : IntKind.i64.wrap (N : Int) = (N : Int) := IntWalk.i64_in _ (by omega)
      obtain ⟨wo, hwo⟩ : ∃ wo : World, wo = wr := ⟨_, rfl⟩
      subst hwo
      have HN := Lib.hid hN
      clear hN hk hlt
      go_wp2_with fail
      go_loopw [10, 11, 53] (fun be mo i wz => ∃ s : Nat, s ≤ N ∧ i = .int .i64 s ∧ be = .int .i64 ((bestTo W T bs D s).1 : Nat) ∧ mo = .int .i64 (bestTo W T bs D s).2 ∧ wz = wo) (fun _ _ i _ => N - (intOf i).toNat)
      case atStart => exact ⟨0, Nat.zero_le _, rfl, rfl, rfl, rfl⟩
      case round =>
        obtain ⟨s, hs, rfl, rfl, rfl, rfl⟩ := hrel
        have hbd := best_bd W T bs D s hn
        have hlb := lack_bd W T bs D s hn
        by_cases hsl : s < N
        · have hsI : (s : Int) < (N : Int) := by omega
          go_wp2_with fail
          go_loopw [13, 58] (fun al i wz => ∃ (k x : Nat), k ≤ D.length ∧ i = .int .i64 k ∧ al = .int .u64 (x : Int) ∧ Hid (Msk x (besL W T bs (selTo D s k))) ∧ wz = wr) (fun _ i _ => D.length - (intOf i).toNat)
          case atStart => exact ⟨0, 0, Nat.zero_le _, rfl, rfl, by show Msk _ _; rw [show selTo D s 0 = [] from rfl, bes_nil]; exact Msk.nil, rfl⟩
          case round =>
            obtain ⟨k, x, hk, rfl, rfl, HX, rfl⟩ := hrel
            by_cases hlt : k < D.length
            · have HBT := bit_test s k (by omega)
              have hkI : (k : Int) < (D.length : Int) := by omega
              have hks : k < ms.length := by rw [HM.out.1]; exact hlt
              have hc1 := (OW.cellAt k (by omega)).trans (uV_at _ k hks)
              cases hb : s.testBit k with
              | true =>
                rw [hb] at HBT
                have hmk := HM.out.2 k hlt
                rw [if_pos hlt] at hmk
                have hgd : ms.getD k 0 = ms[k] := by rw [List.getD_eq_getElem?_getD, List.getElem?_eq_getElem hks]; rfl
                rw [hgd] at hmk
                obtain ⟨y, hy⟩ : ∃ y, ms[k] = y := ⟨_, rfl⟩
                rw [hy] at hc1 hmk
                have hor := or_nat x y HX.out.1 hmk.1
                have HNX : Hid (Msk (x ||| y) (besL W T bs (selTo D s (k + 1)))) := by
                  show Msk _ _
                  rw [sel_t hb]
                  exact HX.out.or hmk (fun z => bes_more W T bs _ _ _)
                clear hmk hgd hy hks hb
                go_wp2_with fail
                go_roundw
                case rel => exact ⟨k + 1, x ||| y, by omega, by go_num, rfl, HNX.out, trivial⟩
                case measure => simp [intOf]; omega
              | false =>
                rw [hb] at HBT
                have HNX : Hid (Msk x (besL W T bs (selTo D s (k + 1)))) := by show Msk _ _; rw [sel_f hb]; exact HX.out
                clear hc1 hks hb
                go_wp2_with fail
                go_roundw
                case rel => exact ⟨k + 1, x, by omega, by go_num, rfl, HNX.out, trivial⟩
                case measure => simp [intOf]; omega
            · obtain rfl : k = D.length := by omega
              have e1 := HLO.out s hsl
              have e2 : bitsCnt 64 x = (besL W T bs (selTo D s D.length)).length := HX.out.cnt (by omega)
              have C1 := Lib.hid (fun z => ones_any s (by omega) z)
              have C2 := Lib.hid (fun z => ones64_any x HX.out.1 z)
              have huw : IntKind.u64.wrap (s : Int) = s := u64_wrap s (by omega)
              have hlz : ((bitsCnt 64 s : Nat) : Int) - ((bitsCnt 64 x : Nat) : Int) = lackZ W T bs D s := by rw [e1, e2]; rfl
              have hb1 := bits_bd 64 s
              have hb2 := bits_bd 64 x
              have hw1 : IntKind.i64.wrap (((bitsCnt 64 s : Nat) : Int) - ((bitsCnt 64 x : Nat) : Int)) = lackZ W T bs D s := by rw [hlz]; exact IntWalk.i64_in _ (by omega)
              generalize bitsCnt 64 s = u at *
              generalize bitsCnt 64 x = v at *
              have HLZ := Lib.hid hlz
              clear e1 e2 hlz hb1 hb2
              cases hgt : decide ((bestTo W T bs D s).2 < lackZ W T bs D s) with
              | true =>
                have HB := Lib.hid (best_t (of_decide_eq_true hgt))
                go_wp2_with (first
                  | (go_at_call 175; refine (C1.out _).mono ?_; rintro e w' ⟨rfl, rfl⟩)
                  | (go_at_call 176; refine (C2.out _).mono ?_; rintro e w' ⟨rfl, rfl⟩))
                go_roundw
                case rel => exact ⟨s + 1, by omega, by go_num, by rw [HB.out], by rw [HB.out], trivial⟩
                case measure => simp [intOf]; omega
              | false =>
                have HB := Lib.hid (best_f (of_decide_eq_false hgt))
                go_wp2_with (first
                  | (go_at_call 175; refine (C1.out _).mono ?_; rintro e w' ⟨rfl, rfl⟩)
                  | (go_at_call 176; refine (C2.out _).mono ?_; rintro e w' ⟨rfl, rfl⟩))
                go_roundw
                case rel => exact ⟨s + 1, by omega, by go_num, by rw [HB.out], by rw [HB.out], trivial⟩
                case measure => simp [intOf]; omega
        · obtain rfl : s = N := by omega
          obtain ⟨bt, hbt⟩ : ∃ bt, (bestTo W T bs D s).1 = bt := ⟨_, rfl⟩
          rw [hbt]
          have HB1 := Lib.hid hbt
          have hbt2 : bt ≤ 4096 := by omega
          obtain ⟨most, hmo⟩ : ∃ most, (bestTo W T bs D s).2 = most := ⟨_, rfl⟩
          rw [hmo] at hbd ⊢
          have HMO := Lib.hid hmo
          clear hmo
          clear hlb hbt hsl
          have hD9 : wr.heap.size ≤ wr.heap.size := Nat.le_refl _
          obtain ⟨wp, hwp⟩ : ∃ wp : World, wp = wr := ⟨_, rfl⟩
          go_wp2_with fail
          go_loopw [16, 87] (fun v i wz => ∃ (k : Nat) (L : List Int), Hid (L = selTo D bt k) ∧ k ≤ D.length ∧ i = .int .i64 k ∧ OwnI wz wp.heap.size v L ∧ Below wp.heap.size wp wz) (fun _ i _ => D.length - (intOf i).toNat)
          case atStart => exact ⟨0, [], rfl, Nat.zero_le _, rfl, OwnI.nil _ _, by rw [hwp]; exact Below.refl _ _⟩
          case round =>
            obtain ⟨k, L, HA, hk, rfl, hown, BZ⟩ := hrel
            obtain ⟨A3, c3, rfl, hw3⟩ := id hown
            have hLk : L.length ≤ D.length := by rw [HA.out, sel_len]; have := bits_bd k bt; omega
            have DZ := (hwp ▸ D2 : Rd wp _ _).belo BZ
            have hszz := BZ.size
            by_cases hlt : k < D.length
            · obtain ⟨ad, rfl, hc0⟩ := DZ.atM hlt
              have HBT := bit_test bt k (by omega)
              obtain ⟨q, hq⟩ : ∃ q, D[k] = q := ⟨_, rfl⟩
              have hgd : D.getD k 0 = q := by rw [List.getD_eq_getElem?_getD, List.getElem?_eq_getElem hlt, hq]; rfl
              rw [hq] at hc0
              clear hq hw3
              cases hb : bt.testBit k with
              | true =>
                rw [hb] at HBT
                have HS := Lib.hid (sel_t (D := D) hb)
                have HG := Lib.hid hgd
                clear hb hgd
                go_wp2_with (at_builtin; refine app_int _ rfl _ _ rfl wp.heap.size _ _ rfl hown _ rfl (by omega) (by omega) ?_; intro A' c' w4 hown4 hg4)
                have b4 := app_below BZ (Nat.le_refl _) hszz hown hg4
                go_roundw
                case rel => exact ⟨k + 1, L ++ [q], by show _ = _; rw [HS.out, HA.out, HG.out], by omega, by go_num, by simpa using hown4, b4⟩
                case measure => simp [intOf]; omega
              | false =>
                rw [hb] at HBT
                have HS := Lib.hid (sel_f (D := D) hb)
                clear hb hgd
                go_wp2_with fail
                go_roundw
                case rel => exact ⟨k + 1, L, by show _ = _; rw [HS.out, HA.out], by omega, by go_num, hown, BZ⟩
                case measure => simp [intOf]; omega
            · obtain rfl : k = D.length := by omega
              go_wp2_with (go_at_call 164; refine (clip_any _ _ _ _ hown).mono ?_; rintro e w' ⟨rfl, rfl⟩)
              go_ret2
              have hsw : w.heap.size ≤ wp.heap.size := by rw [hwp]; exact B2.size
              exact ⟨A3, L, by rw [HN.out, HMO.out]; rfl, by rw [HN.out, HB1.out]; exact HA.out, (Wr.of_own hw3).lower hsw, (hwp ▸ B2 : Below w.heap.size w wp).trans (BZ.mono hsw)⟩
end Go.Proofs.Ytbplnjigoghboaa

/- Contracts: LackMost and LackSet, of the program and of the reference. -/
namespace Go.Proofs.Ytbplnjigoghboaa
open Go.RowKit

def lackOk (W T : Int) (bs : List Bool) : Bool := validB W T bs && decide ((darkL W bs true).length ≤ 12)
def lackMostV (W T : Int) (bs : List Bool) : Int := if lackOk W T bs = true then (bestTo W T bs (darkL W bs true) (2 ^ (darkL W bs true).length)).2 else -1
def lackSetV (W T : Int) (bs : List Bool) : List Int := if lackOk W T bs = true then selTo (darkL W bs true) (bestTo W T bs (darkL W bs true) (2 ^ (darkL W bs true).length)).1 (darkL W bs true).length else []
theorem bit_rem (s k : Nat) : (((s : Int) / 2 ^ k).tmod 2 == 1) = s.testBit k := by
  rw [shr_nat, Int.tmod_eq_emod_of_nonneg (Int.natCast_nonneg _), Nat.testBit_eq_decide_div_mod_eq]
  rcases Nat.mod_two_eq_zero_or_one (s / 2 ^ k) with e | e
  · rw [e]
    have : ((s / 2 ^ k : Nat) : Int) % 2 = 0 := by omega
    rw [this]; rfl
  · rw [e]
    have : ((s / 2 ^ k : Nat) : Int) % 2 = 1 := by omega
    rw [this]; rfl
set_option maxHeartbeats 1000000 in
theorem lackable_any (W T : Int) (A : Option Addr) (c : Nat) (bs : List Bool) (w : World) (hr : Rd w A (bs.map .bool)) (hn : bs.length ≤ maxLen) :
    Calls Try.prog 135 #[.agg #[.int .i64 W, .int .i64 T, .slice A bs.length c]] w fun e w' => e = .returned (.bool (lackOk W T bs)) ∧ Below w.heap.size w w' := by
  have X0 := C3.new w (.int .i64 W) (.int .i64 T) (.slice A bs.length c) 40
  cases hv : validB W T bs with
  | true =>
    obtain ⟨h1, h2, h3, h4, h5, -⟩ := valid_len hv
    rw [show lackOk W T bs = decide (cntTo (inCol W 2 0 bs) bs.length ≤ 12) by unfold lackOk; rw [hv, Bool.true_and, ← darkL_len]; congr 1; apply propext; omega]
    have HV := Lib.hid hv
    clear hv
    go_enter Try.func135, Try.ntmps135
    go_wp2_with (first
      | (go_at_call 103; refine (iRegionValid_any _ _ _ _ _ _ (hr.alloc _) hn).mono ?_; rintro e w1 ⟨rfl, b1⟩; rw [HV.out]; have B1 := bl_go (bl_alloc (Below.refl w.heap.size w) _) b1; obtain ⟨x0, x1, x2⟩ := X0.belo b1)
      | (go_at_call 138; refine (darks_any _ _ _ _ _ _ (hr.belo B1) h1 h2 h5).mono ?_; rintro e w2 ⟨rfl, b2⟩))
    go_ret
    exact ⟨rfl, bl_go B1 b2⟩
  | false =>
    rw [show lackOk W T bs = false by unfold lackOk; rw [hv]; rfl]
    have HV := Lib.hid hv
    clear hv
    go_enter Try.func135, Try.ntmps135
    go_wp2_with (go_at_call 103; refine (iRegionValid_any _ _ _ _ _ _ (hr.alloc _) hn).mono ?_; rintro e w1 ⟨rfl, b1⟩; rw [HV.out]; have B1 := bl_go (bl_alloc (Below.refl w.heap.size w) _) b1)
    go_ret
    exact ⟨rfl, B1⟩
theorem lackOk_t {W T : Int} {bs : List Bool} (h : lackOk W T bs = true) : validB W T bs = true ∧ (darkL W bs true).length ≤ 12 := by
  unfold lackOk at h
  rw [Bool.and_eq_true, decide_eq_true_eq] at h
  exact h
set_option maxHeartbeats 1000000 in
theorem iLackMost_any (W T : Int) (A : Option Addr) (c : Nat) (bs : List Bool) (w : World) (hr : Rd w A (bs.map .bool)) (hn : bs.length ≤ maxLen) :
    Calls Try.prog 63 #[.agg #[.int .i64 W, .int .i64 T, .slice A bs.length c]] w fun e w' => e = .returned (.int .i64 (lackMostV W T bs)) ∧ Below w.heap.size w w' := by
  have X0 := C3.new w (.int .i64 W) (.int .i64 T) (.slice A bs.length c) 40
  cases hk : lackOk W T bs with
  | true =>
    obtain ⟨hv, hd⟩ := lackOk_t hk
    obtain ⟨h1, h2, h3, h4, h5, h6⟩ := valid_len hv
    have HR := Lib.hid (show lackMostV W T bs = (bestTo W T bs (darkL W bs true) (2 ^ (darkL W bs true).length)).2 by unfold lackMostV; rw [if_pos hk])
    have HV := Lib.hid hk
    have HL := Lib.hid h6
    have HD := Lib.hid hd
    clear hv hk h6 hd
    go_enter Try.func63, Try.ntmps63
    go_wp2_with fail
    refine (lackable_any _ _ _ _ _ _ (hr.alloc _) hn).mono ?_
    rintro e w1 ⟨rfl, b1⟩
    rw [HV.out]
    have B1 := bl_go (bl_alloc (Below.refl w.heap.size w) _) b1
    obtain ⟨x0, x1, x2⟩ := X0.belo b1
    go_wp2_with fail
    refine (lack_any _ _ _ _ _ _ (hr.belo B1) h1 h2 h3 h4 HL.out h5 HD.out).mono ?_
    rintro e w2 ⟨A2, L, rfl, -, -, b2⟩
    rw [← HR.out]
    go_wp2
    go_ret
    exact ⟨rfl, bl_go B1 b2⟩
  | false =>
    rw [show lackMostV W T bs = -1 by unfold lackMostV; rw [hk]; rfl]
    have HV := Lib.hid hk
    clear hk
    go_enter Try.func63, Try.ntmps63
    go_wp2_with fail
    refine (lackable_any _ _ _ _ _ _ (hr.alloc _) hn).mono ?_
    rintro e w1 ⟨rfl, b1⟩
    rw [HV.out]
    have B1 := bl_go (bl_alloc (Below.refl w.heap.size w) _) b1
    go_wp2
    go_ret
    exact ⟨rfl, B1⟩
set_option maxRecDepth 100000 in
set_option maxHeartbeats 2000000 in
theorem l7Lack_any (W T : Int) (A A2 : Option Addr) (c c2 : Nat) (bs : List Bool) (D : List Int) (s : Nat) (w : World) (hr : Rd w A (bs.map .bool)) (hD : Rd w A2 (D.map (.int .i64))) (hv : validB W T bs = true) (hd : D.length ≤ 36) :
    Calls Try.prog 137 #[.agg #[.int .i64 W, .int .i64 T, .slice A bs.length c], .slice A2 D.length c2, .int .i64 (s : Int)] w fun e w' => e = .returned (.int .i64 (lackZ W T bs D s)) ∧ Below w.heap.size w w' := by
  obtain ⟨h1, h2, h3, h4, h5, h6⟩ := valid_len hv
  have HB := Lib.hid (fun l => show besV W T bs l = besL W T bs l by unfold besV; rw [if_pos hv])
  clear hv h6 h1 h2 h3 h4
  have X0 := (C3.new w (.int .i64 W) (.int .i64 T) (.slice A bs.length c) 40).alloc (.cells #[] 3)
  have O0 : OwnI ((w.alloc (.cells #[.int .i64 W, .int .i64 T, .slice A bs.length c] 40)).alloc (.cells #[] 3)) (w.heap.size + 1) (.slice (some ⟨w.heap.size + 1, 0, none⟩) 0 0) [] := by
    have := OwnI.empty (w.alloc (.cells #[.int .i64 W, .int .i64 T, .slice A bs.length c] 40))
    simpa using this
  have B0 := bl_alloc (bl_alloc (Below.refl w.heap.size w) (.cells #[.int .i64 W, .int .i64 T, .slice A bs.length c] 40)) (.cells #[] 3)
  go_enter Try.func137, Try.ntmps137
  go_wp2_with fail
  go_loopw [7, 8] (fun v i wr => ∃ (k : Nat) (L : List Int), Hid (L = selTo D s k) ∧ k ≤ D.length ∧ i = .int .i64 k ∧ OwnI wr (w.heap.size + 1) v L ∧ Below w.heap.size w wr ∧ C3 wr w.heap.size (.int .i64 W) (.int .i64 T) (.slice A bs.length c) ∧ w.heap.size + 1 ≤ wr.heap.size) (fun _ i _ => D.length - (intOf i).toNat)
  case atStart => exact ⟨0, [], rfl, Nat.zero_le _, rfl, O0, B0, X0, by simp⟩
  case round =>
    clear X0 O0 B0
    obtain ⟨k, L, HA, hk, rfl, hown, B1, X1, hsz⟩ := hrel
    have hLk : L.length ≤ 36 := by rw [HA.out, sel_len]; have := bits_bd k s; omega
    by_cases hlt : k < D.length
    · obtain ⟨ad, rfl, hc0⟩ := (hD.belo B1).atM hlt
      have HBT := bit_rem s k
      obtain ⟨q, hq⟩ : ∃ q, D[k] = q := ⟨_, rfl⟩
      have hgd : D.getD k 0 = q := by rw [List.getD_eq_getElem?_getD, List.getElem?_eq_getElem hlt, hq]; rfl
      have hkI : (k : Int) < (D.length : Int) := by omega
      rw [hq] at hc0
      clear hq
      obtain ⟨A3, c3, rfl, hw3⟩ := id hown
      clear hw3
      cases hb : s.testBit k with
      | true =>
        rw [hb] at HBT
        have HS := Lib.hid (sel_t (D := D) hb)
        have HG := Lib.hid hgd
        clear hb hgd
        go_wp2_with (at_builtin; refine app_int _ rfl _ _ rfl (w.heap.size + 1) _ _ rfl hown _ rfl (by omega) (by omega) ?_; intro A' c' w4 hown4 hg4)
        have b4 := app_below (Below.refl (w.heap.size + 1) wr) (Nat.le_refl _) (by omega) hown hg4
        go_roundw
        case rel => exact ⟨k + 1, L ++ [q], by show _ = _; rw [HS.out, HA.out, HG.out], by omega, by go_num, by simpa using hown4, B1.trans (b4.mono (by omega)), X1.below b4 (by omega), by have := b4.size; omega⟩
        case measure => simp [intOf]; omega
      | false =>
        rw [hb] at HBT
        have HS := Lib.hid (sel_f (D := D) hb)
        clear hb hgd
        go_wp2_with fail
        go_roundw
        case rel => exact ⟨k + 1, L, by show _ = _; rw [HS.out, HA.out], by omega, by go_num, hown, B1, X1, hsz⟩
        case measure => simp [intOf]; omega
    · obtain rfl : k = D.length := by omega
      obtain ⟨x0, x1, x2⟩ := id X1
      obtain ⟨A3, c3, rfl, hw3⟩ := id hown
      have CB := sCellsBeside_any W T A A3 c c3 bs L wr (hr.belo B1) hown.rd.2 (by unfold maxLen; omega) (by omega)
      rw [HB.out] at CB
      have HLZ := Lib.hid (show lackZ W T bs D s = (L.length : Int) - (besL W T bs L).length by unfold lackZ; rw [HA.out])
      have hbl := besL_len W T bs L
      generalize besL W T bs L = M at CB HLZ hbl
      have CB' := Lib.hid CB
      clear CB hw3
      go_wp2_with fail
      refine CB'.out.mono ?_
      rintro e w2 ⟨A4, c4, rfl, -, b2, -⟩
      go_wp2
      go_ret
      exact ⟨ret_i HLZ.out.symm, bl_go B1 b2⟩
theorem shl_i64 {m : Nat} (h : m ≤ 12) : IntKind.i64.wrap ((2 : Int) ^ m) = ((2 ^ m : Nat) : Int) ∧ 1 ≤ 2 ^ m ∧ 2 ^ m ≤ 4096 := by
  have h1 := Nat.pow_le_pow_right (n := 2) (by omega) h
  have h2 := Nat.pow_pos (n := m) (show 0 < 2 by omega)
  refine ⟨?_, h2, by omega⟩
  rw [show ((2 : Int) ^ m) = ((2 ^ m : Nat) : Int) by rw [Int.natCast_pow]; rfl]
  exact IntWalk.i64_in _ (by omega)
set_option maxRecDepth 100000 in
set_option maxHeartbeats 2000000 in
theorem sLackMost_any (W T : Int) (A : Option Addr) (c : Nat) (bs : List Bool) (w : World) (hr : Rd w A (bs.map .bool)) (hn : bs.length ≤ maxLen) :
    Calls Try.prog 64 #[.agg #[.int .i64 W, .int .i64 T, .slice A bs.length c]] w fun e w' => e = .returned (.int .i64 (lackMostV W T bs)) ∧ Below w.heap.size w w' := by
  have X0 := C3.new w (.int .i64 W) (.int .i64 T) (.slice A bs.length c) 40
  have B0 := bl_alloc (Below.refl w.heap.size w) (.cells #[.int .i64 W, .int .i64 T, .slice A bs.length c] 40)
  have R0 := hr.alloc (.cells #[.int .i64 W, .int .i64 T, .slice A bs.length c] 40)
  have CD := Lib.hid (fun (z : World) (R : Rd z A (bs.map .bool)) => sDarkCells_any W T A c bs z R hn)
  cases hv : validB W T bs with
  | true =>
    obtain ⟨h1, h2, h3, h4, h5, -⟩ := valid_len hv
    rw [show darkV W T bs = darkL W bs true by unfold darkV; rw [if_pos hv]] at CD
    have HV := Lib.hid hv
    have hdl : (darkL W bs true).length ≤ 36 := Nat.le_trans (pick_len _ _) h5
    by_cases hd : (darkL W bs true).length ≤ 12
    · have HR := Lib.hid (show lackMostV W T bs = (bestTo W T bs (darkL W bs true) (2 ^ (darkL W bs true).length)).2 by unfold lackMostV lackOk; rw [hv]; simp [hd])
      clear hv
      generalize darkL W bs true = D at CD hdl hd HR
      obtain ⟨hshl, hp1, hp2⟩ := shl_i64 hd
      generalize 2 ^ D.length = N at hshl hp1 hp2 HR
      have hgt : decide ((12 : Int) < (D.length : Int)) = false := by simp; omega
      go_enter Try.func64, Try.ntmps64
      go_wp2_with fail
      refine (CD.out _ R0).mono ?_
      rintro e w1 ⟨A1, c1, rfl, P1, b1, -⟩
      have R1 := R0.belo b1
      have B1 := bl_go B0 b1
      have X1 := X0.belo b1
      clear R0 B0 X0 b1
      obtain ⟨x0, x1, x2⟩ := id X1
      go_wp2_with (go_at_call 37; refine (sRegionValid_any _ _ _ _ _ _ R1 hn).mono ?_; rintro e w2 ⟨rfl, b2⟩; rw [HV.out])
      have R2 := R1.belo b2
      have B2 := bl_go B1 b2
      have X2 := X1.belo b2
      have P2 := P1.belo b2
      clear R1 B1 X1 P1 b2 x0 x1 x2
      go_loopw [4, 5] (fun be i wr => ∃ s : Nat, s ≤ N ∧ i = .int .i64 s ∧ be = .int .i64 (bestTo W T bs D s).2 ∧ Rd wr A (bs.map .bool) ∧ Rd wr A1 (D.map (.int .i64)) ∧ Below w.heap.size w wr ∧ C3 wr w.heap.size (.int .i64 W) (.int .i64 T) (.slice A bs.length c)) (fun _ i _ => N - (intOf i).toNat)
      case atStart => exact ⟨0, Nat.zero_le _, rfl, rfl, R2, P2, B2, X2⟩
      case round =>
        clear R2 P2 B2 X2
        obtain ⟨s, hs, rfl, rfl, R2, P2, B2, X2⟩ := hrel
        obtain ⟨x0, x1, x2⟩ := id X2
        by_cases hlt : s < N
        · have hsI : (s : Int) < (N : Int) := by omega
          have CL := Lib.hid (l7Lack_any W T A A1 c c1 bs D s wr R2 P2 HV.out hdl)
          have HM := Lib.hid (best_max W T bs D s)
          go_wp2_with fail
          refine CL.out.mono ?_
          rintro e w3 ⟨rfl, b3⟩
          go_wp2_with fail
          go_roundw
          case rel => exact ⟨s + 1, by omega, by go_num, by rw [HM.out], R2.belo b3, P2.belo b3, bl_go B2 b3, X2.belo b3⟩
          case measure => simp [intOf]; omega
        · obtain rfl : s = N := by omega
          rw [← HR.out]
          go_wp2
          go_ret
          exact ⟨rfl, B2⟩
    · have hgt : decide ((12 : Int) < ((darkL W bs true).length : Int)) = true := by simp; omega
      rw [show lackMostV W T bs = -1 by unfold lackMostV lackOk; simp [hd]]
      clear hv
      generalize darkL W bs true = D at CD hdl hd hgt
      go_enter Try.func64, Try.ntmps64
      go_wp2_with fail
      refine (CD.out _ R0).mono ?_
      rintro e w1 ⟨A1, c1, rfl, P1, b1, -⟩
      have R1 := R0.belo b1
      have B1 := bl_go B0 b1
      have X1 := X0.belo b1
      obtain ⟨x0, x1, x2⟩ := id X1
      go_wp2_with (go_at_call 37; refine (sRegionValid_any _ _ _ _ _ _ R1 hn).mono ?_; rintro e w2 ⟨rfl, b2⟩; rw [HV.out])
      go_ret
      exact ⟨rfl, bl_go B1 b2⟩
  | false =>
    rw [show darkV W T bs = [] by unfold darkV; rw [hv]; rfl] at CD
    rw [show lackMostV W T bs = -1 by unfold lackMostV lackOk; rw [hv]; rfl]
    have HV := Lib.hid hv
    clear hv
    go_enter Try.func64, Try.ntmps64
    go_wp2_with fail
    refine (CD.out _ R0).mono ?_
    rintro e w1 ⟨A1, c1, rfl, P1, b1, -⟩
    have R1 := R0.belo b1
    have B1 := bl_go B0 b1
    have X1 := X0.belo b1
    obtain ⟨x0, x1, x2⟩ := id X1
    go_wp2_with (go_at_call 37; refine (sRegionValid_any _ _ _ _ _ _ R1 hn).mono ?_; rintro e w2 ⟨rfl, b2⟩; rw [HV.out])
    go_ret
    exact ⟨rfl, bl_go B1 b2⟩
end Go.Proofs.Ytbplnjigoghboaa

/- Contract: the program's Balanced. -/
namespace Go.Proofs.Ytbplnjigoghboaa
open Go.RowKit

/-- as many dark cells as light ones -/
def balB (W T : Int) (bs : List Bool) : Bool := validB W T bs && decide (2 * cntTo (inCol W 2 0 bs) bs.length = cnt bs)
set_option maxHeartbeats 2000000 in
theorem iBalanced_any (W T : Int) (A : Option Addr) (c : Nat) (bs : List Bool) (w : World) (hr : Rd w A (bs.map .bool)) (hn : bs.length ≤ maxLen) :
    Calls Try.prog 66 #[.agg #[.int .i64 W, .int .i64 T, .slice A bs.length c]] w fun e w' => e = .returned (.bool (balB W T bs)) ∧ Below w.heap.size w w' := by
  have X0 := C3.new w (.int .i64 W) (.int .i64 T) (.slice A bs.length c) 40
  have R0 := hr.alloc (.cells #[.int .i64 W, .int .i64 T, .slice A bs.length c] 40)
  have B0 := bl_alloc (Below.refl w.heap.size w) (.cells #[.int .i64 W, .int .i64 T, .slice A bs.length c] 40)
  have CV := Lib.hid (fun (z : World) (R : Rd z A (bs.map .bool)) => iRegionValid_any W T A c bs z R hn)
  cases hv : validB W T bs with
  | true =>
    obtain ⟨h1, h2, h3, h4, h5, -⟩ := valid_len hv
    have CD := Lib.hid (fun (z : World) (R : Rd z A (bs.map .bool)) => darks_any W T A c bs z R h1 h2 h5)
    have CM := Lib.hid (fun (z : World) (R : Rd z A (bs.map .bool)) => (many_any A c bs z R hn).mono (R' := fun e w' => e = .returned (.int .i64 (cnt bs)) ∧ Below z.heap.size z w') (by rintro e w' ⟨rfl, rfl⟩; exact ⟨rfl, Below.refl _ _⟩))
    have hb := cntTo_bd (inCol W 2 0 bs) bs.length
    have hE : balB W T bs = decide (2 * cntTo (inCol W 2 0 bs) bs.length = cnt bs) := by unfold balB; rw [hv, Bool.true_and]
    rw [hE]
    have HV := Lib.hid hv
    clear hv hE
    generalize cntTo (inCol W 2 0 bs) bs.length = D at hb CD ⊢
    generalize cnt bs = M at CM ⊢
    have hsame : (2 * D == M) = decide (2 * D = M) := by by_cases h : 2 * D = M <;> simp [h]
    go_enter Try.func66, Try.ntmps66
    go_wp2_with fail
    generalize w.alloc (.cells #[.int .i64 W, .int .i64 T, .slice A bs.length c] 40) = wr at *
    have hbx := X0.lt
    obtain ⟨x0, x1, x2⟩ := id X0
    have L0 : ∀ z : BW wr, z.wo.cell? ⟨w.heap.size, 0, none⟩ = some (.int .i64 W) := fun z => z.cell hbx x0
    have L1 : ∀ z : BW wr, z.wo.cell? ⟨w.heap.size, 1, none⟩ = some (.int .i64 T) := fun z => z.cell hbx x1
    have L2 : ∀ z : BW wr, z.wo.cell? ⟨w.heap.size, 2, none⟩ = some (.slice A bs.length c) := fun z => z.cell hbx x2
    (refine region_bw (by kernel_rfl) (by kernel_rfl) ?_; (repeat (first | go_big_quiet_skip | (go_big_quiet_want; go_big_quiet_op; first | go_big_quiet_on | (refine ⟨.bool true, fun zz => ?_, ?_⟩; (go_at_call 103; with_reducible exact zz.on' (CV.out _ (R0.belo zz.ok)) (congrArg Value.bool HV.out)); go_big_quiet_on) | (refine ⟨.int .i64 D, fun zz => ?_, ?_⟩; (go_at_call 138; with_reducible exact zz.on (CD.out _ (R0.belo zz.ok))); go_big_quiet_on) | (refine ⟨.int .i64 M, fun zz => ?_, ?_⟩; (go_at_call 118; with_reducible exact zz.on (CM.out _ (R0.belo zz.ok))); go_big_quiet_on)))); refine wpQuiet_nil ?_; intro wz hw'; obtain ⟨zw, hw''⟩ := hw'; subst hw'')
    go_wp2
    go_ret
    exact ⟨ret_b (by rw [← hsame]), bl_go B0 zw.ok⟩
  | false =>
    have hE : balB W T bs = false := by unfold balB; rw [hv, Bool.false_and]
    rw [hE]
    have HV := Lib.hid hv
    clear hv hE
    go_enter Try.func66, Try.ntmps66
    go_wp2_with fail
    generalize w.alloc (.cells #[.int .i64 W, .int .i64 T, .slice A bs.length c] 40) = wr at *
    have hbx := X0.lt
    obtain ⟨x0, x1, x2⟩ := id X0
    have L0 : ∀ z : BW wr, z.wo.cell? ⟨w.heap.size, 0, none⟩ = some (.int .i64 W) := fun z => z.cell hbx x0
    have L1 : ∀ z : BW wr, z.wo.cell? ⟨w.heap.size, 1, none⟩ = some (.int .i64 T) := fun z => z.cell hbx x1
    have L2 : ∀ z : BW wr, z.wo.cell? ⟨w.heap.size, 2, none⟩ = some (.slice A bs.length c) := fun z => z.cell hbx x2
    (refine region_bw (by kernel_rfl) (by kernel_rfl) ?_; (repeat (first | go_big_quiet_skip | (go_big_quiet_want; go_big_quiet_op; first | go_big_quiet_on | (refine ⟨.bool false, fun zz => ?_, ?_⟩; (go_at_call 103; with_reducible exact zz.on' (CV.out _ (R0.belo zz.ok)) (congrArg Value.bool HV.out)); go_big_quiet_on)))); refine wpQuiet_nil ?_; intro wz hw'; obtain ⟨zw, hw''⟩ := hw'; subst hw'')
    go_wp2
    go_ret
    exact ⟨rfl, bl_go B0 zw.ok⟩
end Go.Proofs.Ytbplnjigoghboaa

/- Tilings are there exactly if all cells can be laid, plainly. -/
namespace Go.Proofs.Ytbplnjigoghboaa
open Go.RowKit

/-- cells in pairs -/
def PM (W T : Int) (F : List Bool) : Prop := ∃ g : Nat → Nat, ∀ k, k < F.length → F.getD k false = true → g k < F.length ∧ F.getD (g k) false = true ∧ g (g k) = k ∧ ∃ way : Int, 1 ≤ way ∧ way ≤ 4 ∧ stepZ W T k way = (g k : Int)
theorem cnt_none {F : List Bool} (h : cnt F ≤ 0) (k : Nat) : F.getD k false = false := by
  rcases Nat.lt_or_ge k F.length with hk | hk
  · cases e : F[k] with
    | false => rw [List.getD_eq_getElem?_getD, List.getElem?_eq_getElem hk]; exact e
    | true =>
      have h1 := cnt_set_lt F k hk e
      have h2 := (cnt_le (F.set k false)).1
      omega
  · rw [List.getD_eq_getElem?_getD, List.getElem?_eq_none hk]; rfl
theorem first_none {F : List Bool} (h : firstB F = F.length) (k : Nat) : F.getD k false = false := by
  rcases Nat.lt_or_ge k F.length with hk | hk
  · rw [List.getD_eq_getElem?_getD, List.getElem?_eq_getElem hk]; exact firstB_f (by omega) hk
  · rw [List.getD_eq_getElem?_getD, List.getElem?_eq_none hk]; rfl
theorem getD2 {F : List Bool} {c s k : Nat} (hc : c < F.length) (hs : s < F.length) : ((F.set c false).set s false).getD k false = if k = s then false else if k = c then false else F.getD k false := by
  rw [getD_set _ false false s k (by simpa using hs), getD_set _ false false c k hc]
theorem getD_lt {F : List Bool} {k : Nat} (h : F.getD k false = true) : k < F.length := by
  rcases Nat.lt_or_ge k F.length with hk | hk
  · exact hk
  · rw [List.getD_eq_getElem?_getD, List.getElem?_eq_none hk] at h; cases h
theorem getD_el {F : List Bool} {k : Nat} (hk : k < F.length) : F.getD k false = F[k] := by rw [List.getD_eq_getElem?_getD, List.getElem?_eq_getElem hk]; rfl
theorem pos_pm {W T : Int} (h1 : 1 ≤ W) (h2 : W ≤ 6) (h3 : 1 ≤ T) (h4 : T ≤ 6) : ∀ (f : Nat) (F : List Bool), (F.length : Int) = W * T → cnt F ≤ f → 0 < barsN W T 2 f F → PM W T F
  | 0, F, _, hc, _ => ⟨id, fun k _ h => by rw [cnt_none (by omega)] at h; cases h⟩
  | f + 1, F, hl, hc, hp => by
    by_cases hF : firstB F = F.length
    · exact ⟨id, fun k _ h => by rw [first_none hF] at h; cases h⟩
    · have hlt : firstB F < F.length := by have := firstB_le F; omega
      have ht := firstB_t hlt
      rw [barsN, if_neg hF] at hp
      generalize firstB F = c at *
      have hnn : ∀ G, 0 ≤ barsN W T 2 f G := fun G => (barsN_bd W T 2 f G).1
      have hpart : ∀ d : Int, 0 < partB W T 2 (barsN W T 2 f) F c d → ∃ s : Nat, stepZ W T c d = (s : Int) ∧ F.getD s false = true ∧ 0 < barsN W T 2 f ((F.set c false).set s false) := fun d hd => by
        by_cases hs : stepZ W T c d < 0 ∨ F.getD (stepZ W T c d).toNat false = false
        · rw [part_f hlt ht hs] at hd; omega
        · have hs0 : 0 ≤ stepZ W T c d := by
            rcases Int.lt_or_le (stepZ W T c d) 0 with h | h
            · exact absurd (.inl h) hs
            · exact h
          obtain ⟨s, e⟩ := Int.eq_ofNat_of_zero_le hs0
          have hFs : F.getD s false = true := by
            cases e2 : F.getD s false with
            | true => rfl
            | false => exact absurd (.inr (by rw [e, Int.toNat_natCast]; exact e2)) hs
          rw [part_t hlt ht e hFs] at hd
          exact ⟨s, e, hFs, hd⟩
      have hex : ∃ d : Int, 1 ≤ d ∧ d ≤ 4 ∧ 0 < partB W T 2 (barsN W T 2 f) F c d := by
        have e : sumB W T 2 (barsN W T 2 f) F c 2 = 0 + partB W T 2 (barsN W T 2 f) F c (((0 : Nat) : Int) + 1) + partB W T 2 (barsN W T 2 f) F c (((1 : Nat) : Int) + 1) := rfl
        rw [e] at hp
        rcases Int.lt_or_le 0 (partB W T 2 (barsN W T 2 f) F c (((0 : Nat) : Int) + 1)) with h | h
        · exact ⟨_, by omega, by omega, h⟩
        · exact ⟨((1 : Nat) : Int) + 1, by omega, by omega, by omega⟩
      obtain ⟨d, d1, d4, hd⟩ := hex
      obtain ⟨s, e, hFs, hps⟩ := hpart d hd
      have hs := getD_lt hFs
      have hsc : s ≠ c := fun x => by
        have := step_neq (W := W) (T := T) (c := (c : Int)) (d := d) h1 (by omega)
        rw [e, x] at this; exact this rfl
      have hc2 : cnt ((F.set c false).set s false) ≤ f := by
        have a := cnt_set_lt F c hlt ht
        have b := cnt_set_le (F.set c false) s
        omega
      obtain ⟨g, hg⟩ := pos_pm h1 h2 h3 h4 f ((F.set c false).set s false) (by simpa using hl) hc2 hps
      have hr := step_rev (W := W) (T := T) (c := (c : Int)) (d := d) h1 h2 h3 h4 (by omega) (by omega) d1 d4 (by omega)
      rw [e] at hr
      have hb := back_bd d
      refine ⟨fun k => if k = c then s else if k = s then c else g k, fun k hk hFk => ?_⟩
      by_cases hkc : k = c
      · subst hkc
        simp only [if_true, if_neg hsc]
        exact ⟨hs, hFs, trivial, d, d1, d4, e⟩
      · by_cases hks : k = s
        · subst hks
          simp only [if_true, if_neg hsc]
          exact ⟨hlt, by rw [getD_el hlt]; exact ht, trivial, backZ d, hb.1, hb.2, hr⟩
        · obtain ⟨g1, g2, g3, g4⟩ := hg k (by simpa using hk) (by rw [getD2 hlt hs, if_neg hks, if_neg hkc]; exact hFk)
          rw [getD2 hlt hs] at g2
          have n1 : g k ≠ s := fun x => by rw [if_pos x] at g2; cases g2
          have n2 : g k ≠ c := fun x => by rw [if_neg n1, if_pos x] at g2; cases g2
          rw [if_neg n1, if_neg n2] at g2
          simp only [if_neg hkc, if_neg hks, if_neg n1, if_neg n2]
          exact ⟨by simpa using g1, g2, g3, g4⟩
theorem pm_pos {W T : Int} (h1 : 1 ≤ W) : ∀ (f : Nat) (F : List Bool), cnt F ≤ f → PM W T F → 0 < barsN W T 2 f F
  | 0, F, hc, _ => by show (0 : Int) < 1; omega
  | f + 1, F, hc, hpm => by
    by_cases hF : firstB F = F.length
    · rw [barsN, if_pos hF]; omega
    · have hlt : firstB F < F.length := by have := firstB_le F; omega
      have ht := firstB_t hlt
      have hfirst := fun k (hk : k < F.length) (h : k < firstB F) => firstB_f h hk
      rw [barsN, if_neg hF]
      generalize firstB F = c at *
      obtain ⟨g, hg⟩ := hpm
      obtain ⟨g1, g2, g3, way, w1, w2, hw⟩ := hg c hlt (by rw [getD_el hlt]; exact ht)
      have hsc : g c ≠ c := fun x => by
        have := step_neq (W := W) (T := T) (c := (c : Int)) (d := way) h1 (by omega)
        rw [hw, x] at this; exact this rfl
      have hgt : c < g c := by
        rcases Nat.lt_or_ge (g c) c with h | h
        · have := hfirst (g c) g1 h
          rw [getD_el g1, this] at g2; cases g2
        · omega
      have hw12 : way = 1 ∨ way = 2 := by
        rcases (show way = 1 ∨ way = 2 ∨ way = 3 ∨ way = 4 from by omega) with rfl | rfl | rfl | rfl
        · exact .inl rfl
        · exact .inr rfl
        · rw [step3] at hw; split at hw <;> omega
        · rw [step4] at hw; split at hw <;> omega
      have hc2 : cnt ((F.set c false).set (g c) false) ≤ f := by
        have a := cnt_set_lt F c hlt ht
        have b := cnt_set_le (F.set c false) (g c)
        omega
      have hrec := pm_pos h1 f ((F.set c false).set (g c) false) hc2 ⟨g, fun k hk hFk => by
        rw [getD2 hlt g1] at hFk
        have n1 : k ≠ g c := fun x => by rw [if_pos x] at hFk; cases hFk
        have n2 : k ≠ c := fun x => by rw [if_neg n1, if_pos x] at hFk; cases hFk
        rw [if_neg n1, if_neg n2] at hFk
        obtain ⟨a1, a2, a3, a4⟩ := hg k (by simpa using hk) hFk
        refine ⟨by simpa using a1, ?_, a3, a4⟩
        rw [getD2 hlt g1, if_neg (fun x => n2 (by rw [← a3, x, g3])), if_neg (fun x => n1 (by rw [← a3, x]))]
        exact a2⟩
      have hp := part_t (W := W) (T := T) (rec := barsN W T 2 f) hlt ht hw g2
      have hnn : ∀ d, 0 ≤ partB W T 2 (barsN W T 2 f) F c d := fun d => by
        unfold partB; split
        · exact (barsN_bd W T 2 f _).1
        · omega
      have e : sumB W T 2 (barsN W T 2 f) F c 2 = 0 + partB W T 2 (barsN W T 2 f) F c (((0 : Nat) : Int) + 1) + partB W T 2 (barsN W T 2 f) F c (((1 : Nat) : Int) + 1) := rfl
      rw [e]
      have n1 := hnn (((0 : Nat) : Int) + 1)
      have n2 := hnn (((1 : Nat) : Int) + 1)
      rcases hw12 with rfl | rfl
      · rw [← hp] at hrec
        have : partB W T 2 (barsN W T 2 f) F c (((0 : Nat) : Int) + 1) = partB W T 2 (barsN W T 2 f) F c 1 := rfl
        omega
      · rw [← hp] at hrec
        have : partB W T 2 (barsN W T 2 f) F c (((1 : Nat) : Int) + 1) = partB W T 2 (barsN W T 2 f) F c 2 := rfl
        omega
/-! ### Pairs and dominoes -/
def lightC (W : Int) (bs : List Bool) (n : Nat) : Nat := (List.range n).countP fun k => bs.getD k false && !darkB W k
theorem cnt_split (W : Int) (bs : List Bool) : cnt bs = ((darkNn W bs).length : Int) + lightC W bs bs.length := by
  have key : ∀ m, m ≤ bs.length → cnt (bs.take m) = (((List.range m).countP fun k => bs.getD k false && darkB W k : Nat) : Int) + ((List.range m).countP fun k => bs.getD k false && !darkB W k : Nat) := by
    intro m
    induction m with
    | zero => intro _; rfl
    | succ m ih =>
      intro hm
      have ih := ih (by omega)
      have hg : bs.getD m false = bs[m] := getD_el (by omega)
      rw [cnt_step bs m (by omega), ih, List.range_succ, List.countP_append, List.countP_append]
      simp only [List.countP_cons, List.countP_nil, hg]
      cases bs[m] <;> cases darkB W m <;> simp <;> omega
  have h := key bs.length (Nat.le_refl _)
  rw [List.take_length] at h
  rw [h]
  unfold lightC darkNn
  rw [← List.countP_eq_length_filter]
  have e : (List.range bs.length).countP (isCol W bs true) = (List.range bs.length).countP fun k => bs.getD k false && darkB W k := by
    refine List.countP_congr (fun k _ => ?_)
    unfold isCol
    cases bs.getD k false <;> cases darkB W k <;> simp
  rw [e]
theorem pm_colour {W T : Int} {F : List Bool} {k g : Nat} (hf : Fld W T F) {way : Int} (hw : stepZ W T k way = (g : Int)) : darkB W g = !darkB W k := by
  have h := dark_step (W := W) (T := T) (c := (k : Int)) way hf.w1 hf.w6 (by omega)
  rw [hw] at h
  exact h
theorem laid_le_dark (W T : Int) (bs : List Bool) : laidN W T bs ≤ (darkNn W bs).length := by
  obtain ⟨M, hM, hs⟩ := laid_max W T bs
  rw [← hs]
  refine Nat.le_trans ?_ (inj_count bs.length hM.1.inj (darkNn W bs))
  unfold szM
  refine List.countP_mono_left (fun l _ hl => ?_)
  obtain ⟨d, hd⟩ := Option.isSome_iff_exists.1 hl
  exact List.any_eq_true.2 ⟨d, (hM.1.edge l d hd).2.1, by simp [hd]⟩
theorem mat_light {W T : Int} {bs : List Bool} (hf : Fld W T bs) {M : Nat → Option Nat} (h : IsM (adjL W T bs) bs.length (darkNn W bs) M) {l d : Nat} (e : M l = some d) : bs.getD l false = true ∧ darkB W l = false := by
  obtain ⟨-, e2, way, w1, w2, hs, hb⟩ := h.edge l d e
  refine ⟨hb, ?_⟩
  rw [pm_colour hf hs, (darkNn_mem.1 e2).2.2]; rfl
theorem laid_le_light {W T : Int} {bs : List Bool} (hf : Fld W T bs) : laidN W T bs ≤ lightC W bs bs.length := by
  obtain ⟨M, hM, hs⟩ := laid_max W T bs
  have hM' := hM.1.congr (adj' := adjL W T bs) (fun d hd l => nb_adj hf (darkNn_mem.1 hd).1 l)
  rw [← hs]
  unfold szM lightC
  refine List.countP_mono_left (fun l _ hl => ?_)
  obtain ⟨d, hd⟩ := Option.isSome_iff_exists.1 hl
  obtain ⟨a, b⟩ := mat_light hf hM' hd
  rw [a, b]; rfl
theorem pm_laid {W T : Int} {bs : List Bool} (hf : Fld W T bs) (h : PM W T bs) : (2 : Int) * laidN W T bs = cnt bs := by
  obtain ⟨g, hg⟩ := h
  have hM : IsM (adjL W T bs) bs.length (darkNn W bs) (fun l => if bs.getD l false = true ∧ darkB W l = false then some (g l) else none) := by
    have key : ∀ l d, (if bs.getD l false = true ∧ darkB W l = false then some (g l) else none) = some d → bs.getD l false = true ∧ darkB W l = false ∧ g l = d := fun l d e => by
      by_cases hc : bs.getD l false = true ∧ darkB W l = false
      · rw [if_pos hc] at e; injection e with e; exact ⟨hc.1, hc.2, e⟩
      · rw [if_neg hc] at e; cases e
    refine ⟨fun l d e => ?_, fun l l' d e e' => ?_⟩
    · obtain ⟨a, b, rfl⟩ := key l d e
      have hl := getD_lt a
      obtain ⟨g1, g2, g3, way, w1, w2, hw⟩ := hg l hl a
      have hn := hf.n
      have hr := step_rev (W := W) (T := T) (c := (l : Int)) (d := way) hf.w1 hf.w6 hf.t1 hf.t6 (by omega) (by omega) w1 w2 (by omega)
      rw [hw] at hr
      have hb := back_bd way
      exact ⟨hl, darkNn_mem.2 ⟨g1, g2, by rw [pm_colour hf hw, b]; rfl⟩, backZ way, hb.1, hb.2, hr, a⟩
    · obtain ⟨a, -, e1⟩ := key l d e
      obtain ⟨a', -, e2⟩ := key l' d e'
      have h1 := (hg l (getD_lt a) a).2.2.1
      have h2 := (hg l' (getD_lt a') a').2.2.1
      rw [e1] at h1; rw [e2] at h2; omega
  have hsz : szM (fun l => if bs.getD l false = true ∧ darkB W l = false then some (g l) else none) bs.length = lightC W bs bs.length := by
    unfold szM lightC
    refine List.countP_congr (fun l _ => ?_)
    have key : ∀ u v : Bool, ((if u = true ∧ v = false then some (g l) else none).isSome = true ↔ (u && !v) = true) := by
      intro u v; cases u <;> cases v <;> simp
    exact key _ _
  have hle : lightC W bs bs.length ≤ laidN W T bs := by
    obtain ⟨M, hMx, hs⟩ := laid_max W T bs
    rw [← hsz, ← hs]
    exact hMx.2 _ (hM.congr (fun d hd l => (nb_adj hf (darkNn_mem.1 hd).1 l).symm))
  have hdl : (darkNn W bs).length ≤ lightC W bs bs.length := by
    have hinj : ∀ l l' d, (if bs.getD l false = true ∧ darkB W l = true then some (g l) else none) = some d → (if bs.getD l' false = true ∧ darkB W l' = true then some (g l') else none) = some d → l = l' := fun l l' d e e' => by
      by_cases hc : bs.getD l false = true ∧ darkB W l = true
      · by_cases hc' : bs.getD l' false = true ∧ darkB W l' = true
        · rw [if_pos hc] at e; rw [if_pos hc'] at e'
          injection e with e; injection e' with e'
          have h1 := (hg l (getD_lt hc.1) hc.1).2.2.1
          have h2 := (hg l' (getD_lt hc'.1) hc'.1).2.2.1
          rw [e] at h1; rw [e'] at h2; omega
        · rw [if_neg hc'] at e'; cases e'
      · rw [if_neg hc] at e; cases e
    have h1 := inj_count (M := fun l => if bs.getD l false = true ∧ darkB W l = true then some (g l) else none) bs.length hinj ((List.range bs.length).filter fun k => bs.getD k false && !darkB W k)
    rw [← List.countP_eq_length_filter] at h1
    refine Nat.le_trans ?_ h1
    unfold darkNn
    rw [← List.countP_eq_length_filter]
    refine List.countP_mono_left (fun d hd hc => ?_)
    unfold isCol at hc
    have hc' : bs.getD d false = true ∧ darkB W d = true := by
      rw [Bool.and_eq_true] at hc
      exact ⟨hc.1, by simpa using hc.2⟩
    obtain ⟨g1, g2, g3, way, w1, w2, hw⟩ := hg d (getD_lt hc'.1) hc'.1
    refine List.any_eq_true.2 ⟨g d, List.mem_filter.2 ⟨List.mem_range.2 g1, by rw [g2, pm_colour hf hw, hc'.2]; rfl⟩, ?_⟩
    rw [if_pos hc']; simp
  have h1 := laid_le_dark W T bs
  have h2 := cnt_split W bs
  omega
theorem laid_pm {W T : Int} {bs : List Bool} (hf : Fld W T bs) (h : (2 : Int) * laidN W T bs = cnt bs) : PM W T bs := by
  have h1 := laid_le_dark W T bs
  have h2 := cnt_split W bs
  have h3 := laid_le_light hf
  obtain ⟨M, hMx, hs⟩ := laid_max W T bs
  have hM := hMx.1.congr (adj' := adjL W T bs) (fun d hd l => nb_adj hf (darkNn_mem.1 hd).1 l)
  have hn := hf.n
  -- every light cell has an owner
  have hlight : ∀ l, l < bs.length → bs.getD l false = true → darkB W l = false → ∃ d, M l = some d := by
    have key : ∀ m, m ≤ bs.length → (List.range m).countP (fun l => (M l).isSome) ≤ (List.range m).countP (fun k => bs.getD k false && !darkB W k) ∧ ((List.range m).countP (fun l => (M l).isSome) = (List.range m).countP (fun k => bs.getD k false && !darkB W k) → ∀ l, l < m → bs.getD l false = true → darkB W l = false → ∃ d, M l = some d) := by
      intro m
      induction m with
      | zero => intro _; exact ⟨by simp, fun _ l hl => by omega⟩
      | succ m ih =>
        intro hm
        obtain ⟨i1, i2⟩ := ih (by omega)
        rw [List.range_succ, List.countP_append, List.countP_append]
        simp only [List.countP_cons, List.countP_nil]
        generalize (List.range m).countP (fun l => (M l).isSome) = ca at *
        generalize (List.range m).countP (fun k => bs.getD k false && !darkB W k) = cb at *
        cases hMm : M m with
        | none =>
          cases hb : (bs.getD m false && !darkB W m) with
          | false =>
            refine ⟨by simp; exact i1, fun e l hl a b => ?_⟩
            simp at e
            rcases Nat.lt_or_ge l m with h4 | h4
            · exact i2 e l h4 a b
            · obtain rfl : l = m := by omega
              rw [a, b] at hb; cases hb
          | true => exact ⟨by simp; omega, fun e => by simp at e; omega⟩
        | some d =>
          obtain ⟨a', b'⟩ := mat_light hf hM hMm
          rw [a', b']
          refine ⟨by simp; exact i1, fun e l hl a b => ?_⟩
          simp at e
          rcases Nat.lt_or_ge l m with h4 | h4
          · exact i2 e l h4 a b
          · obtain rfl : l = m := by omega
            exact ⟨d, hMm⟩
    obtain ⟨k1, k2⟩ := key bs.length (Nat.le_refl _)
    exact k2 (by
      have e : (List.range bs.length).countP (fun l => (M l).isSome) = laidN W T bs := hs
      have e2 : (List.range bs.length).countP (fun k => bs.getD k false && !darkB W k) = lightC W bs bs.length := rfl
      omega)
  -- every dark cell owns one
  have hdark : ∀ d, d ∈ darkNn W bs → ∃ l, M l = some d := fun d hd => by
    by_cases hex : ∃ l, M l = some d
    · exact hex
    · exfalso
      have h5 := inj_count bs.length hM.inj ((darkNn W bs).erase d)
      have h6 : szM M bs.length ≤ ((List.range bs.length).countP fun l => ((darkNn W bs).erase d).any fun d => M l == some d) := by
        unfold szM
        refine List.countP_mono_left (fun l _ hl => ?_)
        obtain ⟨d', hd'⟩ := Option.isSome_iff_exists.1 hl
        have hne : d' ≠ d := fun x => hex ⟨l, by rw [hd', x]⟩
        exact List.any_eq_true.2 ⟨d', (List.mem_erase_of_ne hne).2 (hM.edge l d' hd').2.1, by simp [hd']⟩
      rw [List.length_erase_of_mem hd] at h5
      have h7 := List.length_pos_of_mem hd
      omega
  have hch : ∀ k, ∃ j, k < bs.length → bs.getD k false = true → (darkB W k = false → M k = some j) ∧ (darkB W k = true → M j = some k) := fun k => by
    by_cases hk : k < bs.length ∧ bs.getD k false = true
    · cases hc : darkB W k with
      | false =>
        obtain ⟨d, hd⟩ := hlight k hk.1 hk.2 hc
        exact ⟨d, fun _ _ => ⟨fun _ => hd, (fun x => by cases x)⟩⟩
      | true =>
        obtain ⟨l, hl⟩ := hdark k (darkNn_mem.2 ⟨hk.1, hk.2, hc⟩)
        exact ⟨l, fun _ _ => ⟨(fun x => by cases x), fun _ => hl⟩⟩
    · exact ⟨0, fun a b => absurd ⟨a, b⟩ hk⟩
  obtain ⟨g, hg⟩ := Classical.axiomOfChoice hch
  refine ⟨g, fun k hk hFk => ?_⟩
  obtain ⟨p1, p2⟩ := hg k hk hFk
  cases hc : darkB W k with
  | false =>
    have e := p1 hc
    obtain ⟨-, e2, way, w1, w2, hs2, hb⟩ := hM.edge k (g k) e
    obtain ⟨d1, d2, d3⟩ := darkNn_mem.1 e2
    have hr := step_rev (W := W) (T := T) (c := ((g k : Nat) : Int)) (d := way) hf.w1 hf.w6 hf.t1 hf.t6 (by omega) (by omega) w1 w2 (by omega)
    rw [hs2] at hr
    have hbb := back_bd way
    have q := (hg (g k) d1 d2).2 d3
    exact ⟨d1, d2, hM.inj _ _ _ q e, backZ way, hbb.1, hbb.2, hr⟩
  | true =>
    have e := p2 hc
    obtain ⟨e1, e2, way, w1, w2, hs2, hb⟩ := hM.edge (g k) k e
    obtain ⟨a, b⟩ := mat_light hf hM e
    have q := (hg (g k) e1 a).1 b
    rw [e] at q
    injection q with q
    exact ⟨e1, a, q.symm, way, w1, w2, hs2⟩
/-- there is a tiling exactly if all cells can be laid -/
theorem til_laid {W T : Int} {bs : List Bool} (hv : validB W T bs = true) : 0 < tilN W T bs ↔ (2 : Int) * laidN W T bs = cnt bs := by
  obtain ⟨h1, h2, h3, h4, h5, h6⟩ := valid_len hv
  have hf : Fld W T bs := ⟨h1, h2, h3, h4, h6⟩
  have hc : cnt bs ≤ 24 := (validB_iff.1 hv).2.2.2
  constructor
  · intro h; exact pm_laid hf (pos_pm h1 h2 h3 h4 24 bs h6 hc h)
  · intro h; exact pm_pos h1 24 bs hc (laid_pm hf h)
end Go.Proofs.Ytbplnjigoghboaa

/- The walk of the law FnLackMost. -/
namespace Go.Proofs.Ytbplnjigoghboaa
open Go.RowKit

/-- what the law asks -/
theorem lackMost_law {W T : Int} {bs : List Bool} (h : lackOk W T bs = true) :
    0 ≤ lackMostV W T bs ∧ 0 ≤ laidZ W T bs ∧ darkN W T bs ≤ 36 ∧ laidZ W T bs = darkN W T bs - lackMostV W T bs ∧
    (balB W T bs = true → (lackMostV W T bs = 0 ↔ 0 < tilZ W T bs)) := by
  obtain ⟨hv, hd⟩ := lackOk_t h
  obtain ⟨h1, h2, h3, h4, h5, h6⟩ := valid_len hv
  have e1 : lackMostV W T bs = (darkL W bs true).length - (laidN W T bs : Int) := by unfold lackMostV; rw [if_pos h]; exact lack_laid W T bs
  have e2 : laidZ W T bs = laidN W T bs := by unfold laidZ; rw [if_pos hv]
  have e3 : darkN W T bs = (darkL W bs true).length := by unfold darkN; rw [if_pos hv, darkL_len]
  have e4 : tilZ W T bs = tilN W T bs := by unfold tilZ; rw [if_pos hv]
  have e5 := laid_le_dark W T bs
  have e6 : (darkNn W bs).length = (darkL W bs true).length := by rw [darkNn_eq, List.length_map]
  refine ⟨by omega, by omega, by omega, by omega, fun hb => ?_⟩
  have e7 : 2 * ((darkL W bs true).length : Int) = cnt bs := by
    unfold balB at hb
    rw [hv, Bool.true_and, decide_eq_true_eq] at hb
    rw [darkL_len]; exact hb
  have e8 := til_laid hv
  rw [e1, e4]
  constructor
  · intro h; have := e8.2 (by omega); omega
  · intro h; have := e8.1 (by omega); omega
theorem lackM_f {W T : Int} {bs : List Bool} (h : lackOk W T bs = false) : lackMostV W T bs = -1 := by
  unfold lackMostV; rw [h]; rfl

set_option maxRecDepth 100000 in
set_option maxHeartbeats 2000000 in
theorem fnLackMost_walk {w0 : World} (A : Option Addr) (c : Nat) (bs : List Int) (hcap : bs.length ≤ c) (hm : bs.length ≤ maxLen) (hr : Rd w0 A (bs.map (.int .u8))) (hw : ∀ n ∈ bs, 0 ≤ n ∧ n ≤ 255) :
    Calls Try.prog 11 #[.slice A bs.length c] w0 fun e w' => e = .returned (.bool true) ∧ Below w0.heap.size w0 w' := by
  have HW := Lib.hid hw
  clear hw
  unfold maxLen at hm
  by_cases hn : bs.length ≤ 1048576
  · have hg : decide ((1048576 : Int) < (bs.length : Int)) = false := by simp; omega
    go_enter Try.func11, Try.ntmps11
    go_wp2_with fail
    refine (drawLackMost_any A c bs _ hr HW.out hn hcap).mono ?_
    rintro e w1 ⟨W, T, xs, B, k, rfl, R1, hl1, B1⟩
    clear hg hn hm hr HW hcap
    have hmx : xs.length ≤ maxLen := by unfold maxLen; omega
    have cI := fun (z : World) (R : Rd z B (xs.map .bool)) => iLackMost_any W T B k xs z R hmx
    have cS := fun (z : World) (R : Rd z B (xs.map .bool)) => sLackMost_any W T B k xs z R hmx
    have R2 := R1.alloc (.cells #[.int .i64 W, .int .i64 T, .slice B xs.length k] 40)
    have B2 := bl_alloc B1 (.cells #[.int .i64 W, .int .i64 T, .slice B xs.length k] 40)
    have X2 := C3.new w1 (.int .i64 W) (.int .i64 T) (.slice B xs.length k) 40
    clear R1 B1
    go_wp2_with fail
    generalize w1.alloc (.cells #[.int .i64 W, .int .i64 T, .slice B xs.length k] 40) = w2 at *
    generalize w1.heap.size = bx at *
    cases hk : lackOk W T xs with
    | true =>
      have hlaw := lackMost_law hk
      have CL := Lib.hid (fun (z : World) (R : Rd z B (xs.map .bool)) => iLaidMost_any W T B k xs z R hmx)
      have CD := Lib.hid (fun (z : World) (R : Rd z B (xs.map .bool)) => iDarkMany_any W T B k xs z R hmx)
      have CB := Lib.hid (fun (z : World) (R : Rd z B (xs.map .bool)) => iBalanced_any W T B k xs z R hmx)
      have CT := Lib.hid (fun (z : World) (R : Rd z B (xs.map .bool)) => iTilingsMany_any W T B k xs z R hmx)
      clear hk
      generalize lackMostV W T xs = M at *
      generalize laidZ W T xs = l at *
      generalize darkN W T xs = d at *
      generalize tilZ W T xs = t at *
      generalize hbb : balB W T xs = b at *
      clear hbb
      obtain ⟨m0, m1, m2, m3, m4⟩ := hlaw
      have CI := Lib.hid cI
      have CS := Lib.hid cS
      clear cI cS
      obtain ⟨x0, x1, x2⟩ := id X2
      have hne : (M != M) = false := by simp
      have hlt : decide (M < 0) = false := by simp; omega
      refine (CI.out _ R2).mono ?_
      rintro e w3 ⟨rfl, b3⟩
      have R3 := R2.belo b3
      have B3 := bl_go B2 b3
      have X3 := X2.belo b3
      clear R2 B2 X2 b3 x0 x1 x2
      obtain ⟨x0, x1, x2⟩ := id X3
      go_wp2_with fail
      refine (CS.out _ R3).mono ?_
      rintro e w4 ⟨rfl, b4⟩
      have R4 := R3.belo b4
      have B4 := bl_go B3 b4
      have X4 := X3.belo b4
      clear R3 B3 X3 b4 x0 x1 x2
      obtain ⟨x0, x1, x2⟩ := id X4
      have hbx := X4.lt
      have L0 : ∀ z : BW w4, z.wo.cell? ⟨bx, 0, none⟩ = some (.int .i64 W) := fun z => z.cell hbx x0
      have L1 : ∀ z : BW w4, z.wo.cell? ⟨bx, 1, none⟩ = some (.int .i64 T) := fun z => z.cell hbx x1
      have L2 : ∀ z : BW w4, z.wo.cell? ⟨bx, 2, none⟩ = some (.slice B xs.length k) := fun z => z.cell hbx x2
      have hs : (l == d - M) = true := by simp; omega
      cases b with
      | false =>
        clear m4
        go_wp2_with fail
        (refine region_bw (by kernel_rfl) (by kernel_rfl) ?_; (repeat (first | go_big_quiet_skip | (go_big_quiet_want; go_big_quiet_op; first | go_big_quiet_on | (refine ⟨.int .i64 l, fun zz => ?_, ?_⟩; (go_at_call 58; with_reducible exact zz.on (CL.out _ (R4.belo zz.ok))); go_big_quiet_on) | (refine ⟨.int .i64 d, fun zz => ?_, ?_⟩; (go_at_call 65; with_reducible exact zz.on (CD.out _ (R4.belo zz.ok))); go_big_quiet_on) | (refine ⟨.bool false, fun zz => ?_, ?_⟩; (go_at_call 66; with_reducible exact zz.on (CB.out _ (R4.belo zz.ok))); go_big_quiet_on)))); refine wpQuiet_nil ?_; intro wz hw'; obtain ⟨zw, hw''⟩ := hw'; subst hw'')
        go_wp2
        go_ret
        exact ⟨rfl, bl_go B4 zw.ok⟩
      | true =>
        have m4 := m4 rfl
        by_cases hz : M = 0
        · have z1 : (M == 0) = true := by simp; omega
          have z2 : decide (0 < t) = true := by have := m4.1 hz; simp; omega
          clear m4
          go_wp2_with fail
          (refine region_bw (by kernel_rfl) (by kernel_rfl) ?_; (repeat (first | go_big_quiet_skip | (go_big_quiet_want; go_big_quiet_op; first | go_big_quiet_on | (refine ⟨.int .i64 l, fun zz => ?_, ?_⟩; (go_at_call 58; with_reducible exact zz.on (CL.out _ (R4.belo zz.ok))); go_big_quiet_on) | (refine ⟨.int .i64 d, fun zz => ?_, ?_⟩; (go_at_call 65; with_reducible exact zz.on (CD.out _ (R4.belo zz.ok))); go_big_quiet_on) | (refine ⟨.bool true, fun zz => ?_, ?_⟩; (go_at_call 66; with_reducible exact zz.on (CB.out _ (R4.belo zz.ok))); go_big_quiet_on) | (refine ⟨.int .i64 t, fun zz => ?_, ?_⟩; (go_at_call 61; with_reducible exact zz.on (CT.out _ (R4.belo zz.ok))); go_big_quiet_on)))); refine wpQuiet_nil ?_; intro wz hw'; obtain ⟨zw, hw''⟩ := hw'; subst hw'')
          go_wp2
          go_ret
          exact ⟨rfl, bl_go B4 zw.ok⟩
        · have z1 : (M == 0) = false := by simp; omega
          have z2 : decide (0 < t) = false := by simp; omega
          clear m4
          go_wp2_with fail
          (refine region_bw (by kernel_rfl) (by kernel_rfl) ?_; (repeat (first | go_big_quiet_skip | (go_big_quiet_want; go_big_quiet_op; first | go_big_quiet_on | (refine ⟨.int .i64 l, fun zz => ?_, ?_⟩; (go_at_call 58; with_reducible exact zz.on (CL.out _ (R4.belo zz.ok))); go_big_quiet_on) | (refine ⟨.int .i64 d, fun zz => ?_, ?_⟩; (go_at_call 65; with_reducible exact zz.on (CD.out _ (R4.belo zz.ok))); go_big_quiet_on) | (refine ⟨.bool true, fun zz => ?_, ?_⟩; (go_at_call 66; with_reducible exact zz.on (CB.out _ (R4.belo zz.ok))); go_big_quiet_on) | (refine ⟨.int .i64 t, fun zz => ?_, ?_⟩; (go_at_call 61; with_reducible exact zz.on (CT.out _ (R4.belo zz.ok))); go_big_quiet_on)))); refine wpQuiet_nil ?_; intro wz hw'; obtain ⟨zw, hw''⟩ := hw'; subst hw'')
          go_wp2
          go_ret
          exact ⟨rfl, bl_go B4 zw.ok⟩
    | false =>
      have hMe := lackM_f hk
      rw [hMe] at cI cS
      clear hMe
      have CI := Lib.hid cI
      have CS := Lib.hid cS
      clear cI cS
      obtain ⟨x0, x1, x2⟩ := id X2
      refine (CI.out _ R2).mono ?_
      rintro e w3 ⟨rfl, b3⟩
      have R3 := R2.belo b3
      have B3 := bl_go B2 b3
      have X3 := X2.belo b3
      clear R2 B2 X2 b3 x0 x1 x2
      obtain ⟨x0, x1, x2⟩ := id X3
      go_wp2_with fail
      refine (CS.out _ R3).mono ?_
      rintro e w4 ⟨rfl, b4⟩
      have B4 := bl_go B3 b4
      clear x0 x1 x2
      go_wp2_with (go_at_call 22; refine (alive_any _).mono ?_; rintro e w7 ⟨rfl, b7⟩)
      go_ret
      exact ⟨rfl, bl_go B4 b7⟩
  · have hg : decide ((1048576 : Int) < (bs.length : Int)) = true := by simp; omega
    go_enter Try.func11, Try.ntmps11
    go_wp2
    go_ret
    exact ⟨rfl, Below.refl _ _⟩
end Go.Proofs.Ytbplnjigoghboaa
