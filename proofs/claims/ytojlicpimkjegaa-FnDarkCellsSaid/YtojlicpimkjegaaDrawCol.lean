/- Contracts: the draws of FnColourMany and FnColoursEven (a region and numbers). -/
import Derived.Test.YtojlicpimkjegaaDrawSome
namespace Go.Proofs.Ytojlicpimkjegaa
open Go.RowKit

theorem Rd.pickR {w1 w2 w3 : World} {g : Nat} {B : Option Addr} {xs : List Value} (R : Rd w2 B xs) (hB : ∀ ad, B = some ad → w1.heap.size ≤ ad.block) (hg : g < w1.heap.size) (G : w2.grownBy w3 (some g)) : Rd w3 B xs :=
  R.grownBelow G (fun _ ad ha e => by have := hB ad ha; have e' : ad.block = g := (by simpa using e); omega)
theorem set_grownR (w : World) (p : Addr) (u : Value) : w.grownBy (w.setCell p u) (some p.block) :=
  ⟨rfl, rfl, rfl, by simp [World.setCell], fun i _ hn => Below.heap_setCell _ _ _ _ (fun e => hn (by simp [e]))⟩
/-- a region -/
def Drawn0 (w : World) (e : Ending) (w' : World) : Prop :=
  ∃ (W T : Int) (bs : List Bool) (B : Option Addr) (k : Nat), e = .returned (.agg #[.int .i64 W, .int .i64 T, .slice B bs.length k]) ∧ Rd w' B (bs.map .bool) ∧ bs.length ≤ 37 ∧ Below w.heap.size w w'
/-- a region and a number -/
def Drawn1 (P : Int → Prop) (w : World) (e : Ending) (w' : World) : Prop :=
  ∃ (W T : Int) (bs : List Bool) (B : Option Addr) (k : Nat) (n : Int), e = .returned (.tuple #[.agg #[.int .i64 W, .int .i64 T, .slice B bs.length k], .int .i64 n]) ∧ Rd w' B (bs.map .bool) ∧ bs.length ≤ 37 ∧ P n ∧ Below w.heap.size w w'
/-- a region and two numbers -/
def Drawn2 (P : Int → Int → Prop) (w : World) (e : Ending) (w' : World) : Prop :=
  ∃ (W T : Int) (bs : List Bool) (B : Option Addr) (k : Nat) (n r : Int), e = .returned (.tuple #[.agg #[.int .i64 W, .int .i64 T, .slice B bs.length k], .int .i64 n, .int .i64 r]) ∧ Rd w' B (bs.map .bool) ∧ bs.length ≤ 37 ∧ P n r ∧ Below w.heap.size w w'
set_option maxRecDepth 100000 in
set_option maxHeartbeats 2000000 in
theorem drawDarkCells_any (A : Option Addr) (c : Nat) (bs : List Int) (w : World) (hr : Rd w A (bs.map (.int .u8))) (hw : ∀ x ∈ bs, 0 ≤ x ∧ x ≤ 255) (hn : bs.length ≤ 1048576) (hcap : bs.length ≤ c) :
    Calls Try.prog 52 #[.slice A bs.length c] w (Drawn0 w) := by
  have HW := Lib.hid hw
  clear hw
  have hr1 := hr.alloc (.cells #[.int .i64 0, .int .i64 0, .slice none 0 0] 28)
  have P0 : (w.alloc (.cells #[.int .i64 0, .int .i64 0, .slice none 0 0] 28)).heap[w.heap.size]? = some (.cells #[.int .i64 0, .int .i64 0, .slice none 0 0] 28 (0, 0)) := heap_alloc_new w _
  have Z0 := bl_alloc (Below.refl w.heap.size w) (.cells #[.int .i64 0, .int .i64 0, .slice none 0 0] 28)
  have hs0 : (w.alloc (.cells #[.int .i64 0, .int .i64 0, .slice none 0 0] 28)).heap.size = w.heap.size + 1 := by simp
  go_enter Try.func52, Try.ntmps52
  go_wp2_with fail
  generalize w.alloc (.cells #[.int .i64 0, .int .i64 0, .slice none 0 0] 28) = wa at *
  refine (open_any A c bs _ hr1 HW.out hn hcap).mono ?_
  rintro e w1 ⟨g, A1, c1, by1, rfl, O1⟩
  clear hr1 HW hn hcap hr
  go_wp2_with fail
  refine (some_any 6 _ g A1 c1 by1 0 O1.1 (by omega) (by omega) (by omega)).mono ?_
  rintro e w2 ⟨W, T, xs, B, k, p2, rfl, R2, hl2, S2, hp2, G2, f2⟩
  have O2 := O1.pick S2 G2
  have hsz : w.heap.size < w1.heap.size := by have := O1.lt; have := O1.2.1; omega
  clear S2 G2 O1
  have hB := O2.2.2
  obtain ⟨s0, s1, s2, g0, g1, g2⟩ := blk3 ((hB.block w.heap.size (by omega)).trans P0)
  have K := fun (v : World) (i : Nat) (u : Value) (R : Rd v B (xs.map .bool)) => R.grownBelow (set_grownR v ⟨w.heap.size, i, none⟩ u) (fun _ ad ha e => by have := f2 ad ha; have e' : ad.block = w.heap.size := (by simpa using e); omega)
  have R8 := K _ 2 (.slice B xs.length k) (K _ 1 (.int .i64 T) (K _ 0 (.int .i64 W) R2))
  have B8 := (((Z0.trans (hB.mono (show w.heap.size ≤ wa.heap.size by omega))).setCell (p := ⟨w.heap.size, 0, none⟩) (Nat.le_refl _) (.int .i64 W)).setCell (p := ⟨w.heap.size, 1, none⟩) (Nat.le_refl _) (.int .i64 T)).setCell (p := ⟨w.heap.size, 2, none⟩) (Nat.le_refl _) (.slice B xs.length k)
  clear K
  go_wp2
  refine bodyPost_ret (v := .agg #[.int .i64 W, .int .i64 T, .slice B xs.length k]) (by simp [results, Try.results52, go_sem, s0, s1, s2]) rfl ⟨W, T, xs, B, k, rfl, R8, hl2, B8⟩
end Go.Proofs.Ytojlicpimkjegaa
