/- Contracts: the draws of FnColourMany and FnColoursEven (a region and numbers). -/
import Derived.Test.YthkpiacanfajbaaDrawSome
namespace Go.Proofs.Ythkpiacanfajbaa
open Go.RowKit

theorem Rd.pickR {w1 w2 w3 : World} {g : Nat} {B : Option Addr} {xs : List Value} (R : Rd w2 B xs) (hB : ∀ ad, B = some ad → w1.heap.size ≤ ad.block) (hg : g < w1.heap.size) (G : w2.grownBy w3 (some g)) : Rd w3 B xs :=
  R.grownBelow G (fun _ ad ha e => by have := hB ad ha; have e' : ad.block = g := (by simpa using e); omega)
theorem set_grownR (w : World) (p : Addr) (u : Value) : w.grownBy (w.setCell p u) (some p.block) :=
  ⟨rfl, rfl, rfl, by simp [World.setCell], fun i _ hn => Below.heap_setCell _ _ _ _ (fun e => hn (by simp [e]))⟩
/-- a region -/
def Drawn0 (w : World) (e : Ending) (w' : World) : Prop :=
  ∃ (W T : Int) (bs : List Bool) (B : Option Addr) (k : Nat), e = .returned (.agg #[.int .i64 W, .int .i64 T, .slice B bs.length k]) ∧ Rd w' B (bs.map .bool) ∧ bs.length ≤ 37 ∧ Below w.heap.size w w'
/-- a region and a number -/
def Drawn1 (P : Int → Prop) (w : World) (e : Ending) (w' : World) : Prop :=
  ∃ (W T : Int) (bs : List Bool) (B : Option Addr) (k : Nat) (n : Int), e = .returned (.tuple #[.agg #[.int .i64 W, .int .i64 T, .slice B bs.length k], .int .i64 n]) ∧ Rd w' B (bs.map .bool) ∧ bs.length ≤ 37 ∧ P n ∧ Below w.heap.size w w'
/-- a region and two numbers -/
def Drawn2 (P : Int → Int → Prop) (w : World) (e : Ending) (w' : World) : Prop :=
  ∃ (W T : Int) (bs : List Bool) (B : Option Addr) (k : Nat) (n r : Int), e = .returned (.tuple #[.agg #[.int .i64 W, .int .i64 T, .slice B bs.length k], .int .i64 n, .int .i64 r]) ∧ Rd w' B (bs.map .bool) ∧ bs.length ≤ 37 ∧ P n r ∧ Below w.heap.size w w'
set_option maxRecDepth 100000 in
set_option maxHeartbeats 2000000 in
theorem drawColourMany_any (A : Option Addr) (c : Nat) (bs : List Int) (w : World) (hr : Rd w A (bs.map (.int .u8))) (hw : ∀ x ∈ bs, 0 ≤ x ∧ x ≤ 255) (hn : bs.length ≤ 1048576) (hcap : bs.length ≤ c) :
    Calls Try.prog 32 #[.slice A bs.length c] w (Drawn2 (fun n r => -4 ≤ n ∧ n ≤ 8 ∧ -1 ≤ r ∧ r ≤ 4) w) := by
  have HW := Lib.hid hw
  clear hw
  have hr1 := hr.alloc (.cells #[.int .i64 0, .int .i64 0, .slice none 0 0] 31)
  have P0 : (w.alloc (.cells #[.int .i64 0, .int .i64 0, .slice none 0 0] 31)).heap[w.heap.size]? = some (.cells #[.int .i64 0, .int .i64 0, .slice none 0 0] 31 (0, 0)) := heap_alloc_new w _
  have Z0 := bl_alloc (Below.refl w.heap.size w) (.cells #[.int .i64 0, .int .i64 0, .slice none 0 0] 31)
  have hs0 : (w.alloc (.cells #[.int .i64 0, .int .i64 0, .slice none 0 0] 31)).heap.size = w.heap.size + 1 := by simp
  go_enter Try.func32, Try.ntmps32
  go_wp2_with fail
  generalize w.alloc (.cells #[.int .i64 0, .int .i64 0, .slice none 0 0] 31) = wa at *
  refine (open_any A c bs _ hr1 HW.out hn hcap).mono ?_
  rintro e w1 ⟨g, A1, c1, by1, rfl, O1⟩
  have hg1 := O1.lt
  clear hr1 HW hn hcap hr
  go_wp2_with fail
  refine (some_any 9 _ g A1 c1 by1 0 O1.1 (by omega) (by omega) (by omega)).mono ?_
  rintro e w2 ⟨W, T, xs, B, k, p2, rfl, R2, hl2, S2, hp2, G2, f2⟩
  have O2 := O1.pick S2 G2
  clear S2 G2 O1
  go_wp2_with fail
  refine (pick_any 4 _ g A1 c1 by1 _ O2.1 (by omega) (by omega)).mono ?_
  rintro e w3 ⟨r1, rfl, ⟨p1, q1⟩, S3, G3⟩
  have O3 := O2.pick S3 G3
  have R3 := R2.pickR f2 hg1 G3
  have q1' : r1 ≤ 3 := by omega
  clear q1 S3 G3 O2 R2
  go_wp2_with fail
  refine (pick_any 20 _ g A1 c1 by1 _ O3.1 (by omega) (by omega)).mono ?_
  rintro e w4 ⟨r2, rfl, ⟨p2', q2⟩, S4, G4⟩
  have O4 := O3.pick S4 G4
  have R4 := R3.pickR f2 hg1 G4
  have q2' : r2 ≤ 19 := by omega
  clear q2 S4 G4 O3 R3
  go_wp2_with fail
  refine (pick_any 20 _ g A1 c1 by1 _ O4.1 (by omega) (by omega)).mono ?_
  rintro e w5 ⟨r3, rfl, ⟨p3, q3⟩, S5, G5⟩
  have O5 := O4.pick S5 G5
  have R5 := R4.pickR f2 hg1 G5
  have q3' : r3 ≤ 19 := by omega
  clear q3 S5 G5 O4 R4
  go_wp2_with fail
  refine (pick_any 5 _ g A1 c1 by1 _ O5.1 (by omega) (by omega)).mono ?_
  rintro e w6 ⟨r4, rfl, ⟨p4, q4⟩, S6, G6⟩
  have O6 := O5.pick S6 G6
  have R6 := R5.pickR f2 hg1 G6
  have q4' : r4 ≤ 4 := by omega
  clear q4 S6 G6 O5 R5
  go_wp2_with fail
  refine (pick_any 20 _ g A1 c1 by1 _ O6.1 (by omega) (by omega)).mono ?_
  rintro e w7 ⟨r5, rfl, ⟨p5, q5⟩, S7, G7⟩
  have O7 := O6.pick S7 G7
  have R7 := R6.pickR f2 hg1 G7
  have q5' : r5 ≤ 19 := by omega
  clear q5 S7 G7 O6 R6
  have hB := O7.2.2
  obtain ⟨s0, s1, s2, g0, g1, g2⟩ := blk3 ((hB.block w.heap.size (by omega)).trans P0)
  have hsz : w.heap.size < w1.heap.size := by have := O7.2.1; omega
  have K := fun (v : World) (i : Nat) (u : Value) (R : Rd v B (xs.map .bool)) => R.grownBelow (set_grownR v ⟨w.heap.size, i, none⟩ u) (fun _ ad ha e => by have := f2 ad ha; have e' : ad.block = w.heap.size := (by simpa using e); omega)
  have R8 := K _ 2 (.slice B xs.length k) (K _ 1 (.int .i64 T) (K _ 0 (.int .i64 W) R7))
  have B8 := (((Z0.trans (hB.mono (show w.heap.size ≤ wa.heap.size by omega))).setCell (p := ⟨w.heap.size, 0, none⟩) (Nat.le_refl _) (.int .i64 W)).setCell (p := ⟨w.heap.size, 1, none⟩) (Nat.le_refl _) (.int .i64 T)).setCell (p := ⟨w.heap.size, 2, none⟩) (Nat.le_refl _) (.slice B xs.length k)
  clear K
  go_wp2
  refine bodyPost_ret (v := .tuple #[.agg #[.int .i64 W, .int .i64 T, .slice B xs.length k], .int .i64 (1 + r1 + r2 / 19 * 4 - r3 / 19 * 5), .int .i64 (r4 - r5 / 19)]) (by simp [results, Try.results32, go_sem, s0, s1, s2]) rfl ⟨W, T, xs, B, k, _, _, rfl, R8, hl2, ⟨by omega, by omega, by omega, by omega⟩, B8⟩
set_option maxRecDepth 100000 in
set_option maxHeartbeats 2000000 in
theorem drawColoursEven_any (A : Option Addr) (c : Nat) (bs : List Int) (w : World) (hr : Rd w A (bs.map (.int .u8))) (hw : ∀ x ∈ bs, 0 ≤ x ∧ x ≤ 255) (hn : bs.length ≤ 1048576) (hcap : bs.length ≤ c) :
    Calls Try.prog 42 #[.slice A bs.length c] w (Drawn1 (fun n => -4 ≤ n ∧ n ≤ 8) w) := by
  have HW := Lib.hid hw
  clear hw
  have hr1 := hr.alloc (.cells #[.int .i64 0, .int .i64 0, .slice none 0 0] 31)
  have P0 : (w.alloc (.cells #[.int .i64 0, .int .i64 0, .slice none 0 0] 31)).heap[w.heap.size]? = some (.cells #[.int .i64 0, .int .i64 0, .slice none 0 0] 31 (0, 0)) := heap_alloc_new w _
  have Z0 := bl_alloc (Below.refl w.heap.size w) (.cells #[.int .i64 0, .int .i64 0, .slice none 0 0] 31)
  have hs0 : (w.alloc (.cells #[.int .i64 0, .int .i64 0, .slice none 0 0] 31)).heap.size = w.heap.size + 1 := by simp
  go_enter Try.func42, Try.ntmps42
  go_wp2_with fail
  generalize w.alloc (.cells #[.int .i64 0, .int .i64 0, .slice none 0 0] 31) = wa at *
  refine (open_any A c bs _ hr1 HW.out hn hcap).mono ?_
  rintro e w1 ⟨g, A1, c1, by1, rfl, O1⟩
  have hg1 := O1.lt
  clear hr1 HW hn hcap hr
  go_wp2_with fail
  refine (some_any 9 _ g A1 c1 by1 0 O1.1 (by omega) (by omega) (by omega)).mono ?_
  rintro e w2 ⟨W, T, xs, B, k, p2, rfl, R2, hl2, S2, hp2, G2, f2⟩
  have O2 := O1.pick S2 G2
  clear S2 G2 O1
  go_wp2_with fail
  refine (pick_any 4 _ g A1 c1 by1 _ O2.1 (by omega) (by omega)).mono ?_
  rintro e w3 ⟨r1, rfl, ⟨p1, q1⟩, S3, G3⟩
  have O3 := O2.pick S3 G3
  have R3 := R2.pickR f2 hg1 G3
  have q1' : r1 ≤ 3 := by omega
  clear q1 S3 G3 O2 R2
  go_wp2_with fail
  refine (pick_any 20 _ g A1 c1 by1 _ O3.1 (by omega) (by omega)).mono ?_
  rintro e w4 ⟨r2, rfl, ⟨p2', q2⟩, S4, G4⟩
  have O4 := O3.pick S4 G4
  have R4 := R3.pickR f2 hg1 G4
  have q2' : r2 ≤ 19 := by omega
  clear q2 S4 G4 O3 R3
  go_wp2_with fail
  refine (pick_any 20 _ g A1 c1 by1 _ O4.1 (by omega) (by omega)).mono ?_
  rintro e w5 ⟨r3, rfl, ⟨p3, q3⟩, S5, G5⟩
  have O5 := O4.pick S5 G5
  have R5 := R4.pickR f2 hg1 G5
  have q3' : r3 ≤ 19 := by omega
  clear q3 S5 G5 O4 R4
  have hB := O5.2.2
  obtain ⟨s0, s1, s2, g0, g1, g2⟩ := blk3 ((hB.block w.heap.size (by omega)).trans P0)
  have hsz : w.heap.size < w1.heap.size := by have := O5.2.1; omega
  have K := fun (v : World) (i : Nat) (u : Value) (R : Rd v B (xs.map .bool)) => R.grownBelow (set_grownR v ⟨w.heap.size, i, none⟩ u) (fun _ ad ha e => by have := f2 ad ha; have e' : ad.block = w.heap.size := (by simpa using e); omega)
  have R8 := K _ 2 (.slice B xs.length k) (K _ 1 (.int .i64 T) (K _ 0 (.int .i64 W) R5))
  have B8 := (((Z0.trans (hB.mono (show w.heap.size ≤ wa.heap.size by omega))).setCell (p := ⟨w.heap.size, 0, none⟩) (Nat.le_refl _) (.int .i64 W)).setCell (p := ⟨w.heap.size, 1, none⟩) (Nat.le_refl _) (.int .i64 T)).setCell (p := ⟨w.heap.size, 2, none⟩) (Nat.le_refl _) (.slice B xs.length k)
  clear K
  go_wp2
  refine bodyPost_ret (v := .tuple #[.agg #[.int .i64 W, .int .i64 T, .slice B xs.length k], .int .i64 (1 + r1 + r2 / 19 * 4 - r3 / 19 * 5)]) (by simp [results, Try.results42, go_sem, s0, s1, s2]) rfl ⟨W, T, xs, B, k, _, rfl, R8, hl2, ⟨by omega, by omega⟩, B8⟩
end Go.Proofs.Ythkpiacanfajbaa
