/- Contract: the draw of a region that is often tiled or a box (l20Some). Written by wip/gen_some.py. -/
import Derived.Test.YtnciemnlnijhfaaDrawTil
import Derived.Test.YtnciemnlnijhfaaPickV
namespace Go.Proofs.Ytnciemnlnijhfaa
open Go.RowKit

/-- the state of l20Some -/
structure Rs (w : World) (g : Nat) (A : Option Addr) (c : Nat) (bytes : List Int) (q : Nat) (wr : World) : Prop where
  rds : RdS wr g A c bytes q
  res : wr.heap[w.heap.size]? = some (.cells #[.int .i64 0, .int .i64 0, .slice none 0 0] 25 (0, 0))
  gb : w.grownBy wr (some g)
  hg : g < w.heap.size
  ha : bytes ≠ [] → ∀ ad, A = some ad → ad.block < w.heap.size
section
variable {w wr w' : World} {g : Nat} {A : Option Addr} {c : Nat} {bytes : List Int} {q : Nat}
theorem Rs.pick (h : Rs w g A c bytes q wr) {q' : Nat} (S : RdS w' g A c bytes q') (G : wr.grownBy w' (some g)) : Rs w g A c bytes q' w' :=
  ⟨S, (G.block _ (heap_lt h.res) (by have := h.hg; simp; omega)).trans h.res, grownBy_trans' h.gb G, h.hg, h.ha⟩
theorem Rs.below (h : Rs w g A c bytes q wr) (hb : Below wr.heap.size wr w') : Rs w g A c bytes q w' :=
  ⟨h.rds.below (heap_lt h.rds.1) hb, (hb.block _ (heap_lt h.res)).trans h.res, gb_below h.gb hb, h.hg, h.ha⟩
theorem Rs.drew (h : Rs w g A c bytes q wr) : Rs w g A c bytes q wr.drew := ⟨h.rds, h.res, gb_drew h.gb, h.hg, h.ha⟩
theorem Rs.alloc (h : Rs w g A c bytes q wr) (o : Obj) : Rs w g A c bytes q (wr.alloc o) := h.below (bl_alloc (Below.refl _ _) o)
theorem Rs.done (h : Rs w g A c bytes q wr) {p more : Nat} {W T : Int} {B : Option Addr} {kb : Nat} {bs : List Bool} (hr : Rd wr B (bs.map .bool)) (hB : ∀ ad, B = some ad → w.heap.size < ad.block) (hn : bs.length ≤ 37) (hq : q ≤ p + more) :
    SomeReg g A c bytes p more w (.returned (.agg #[.int .i64 W, .int .i64 T, .slice B bs.length kb])) (((wr.setCell ⟨w.heap.size, 0, none⟩ (.int .i64 W)).setCell ⟨w.heap.size, 1, none⟩ (.int .i64 T)).setCell ⟨w.heap.size, 2, none⟩ (.slice B bs.length kb)) := by
  obtain ⟨o1, r1, k1⟩ := reg_set (bx := w.heap.size + 1) (i := 0) (u := .int .i64 W) (OwnB.nil wr _) h.rds h.gb h.ha h.hg (by omega)
  obtain ⟨o2, r2, k2⟩ := reg_set (i := 1) (u := .int .i64 T) o1 r1 k1 h.ha h.hg (by omega)
  obtain ⟨o3, r3, k3⟩ := reg_set (i := 2) (u := .slice B bs.length kb) o2 r2 k2 h.ha h.hg (by omega)
  refine ⟨W, T, bs, _, _, q, rfl, fun hne => ?_, hn, r3, hq, k3, fun ad ha => by have := hB ad ha; omega⟩
  obtain ⟨ad, h1, hc⟩ := hr hne
  have hlt := hB ad h1
  refine ⟨ad, h1, fun j u hu => ?_⟩
  have hab : (ad.add j).block = ad.block := by unfold Addr.add; split <;> rfl
  have hne2 : ∀ i, (⟨w.heap.size, i, none⟩ : Addr) ≠ ad.add j := fun i e => by
    have e2 := congrArg Addr.block e; rw [hab] at e2; simp at e2; omega
  rw [World.cell?_setCell_other _ _ _ _ (hne2 2), World.cell?_setCell_other _ _ _ _ (hne2 1), World.cell?_setCell_other _ _ _ _ (hne2 0)]
  exact hc j u hu
end
theorem arr5 (rn : Nat) (h : rn ≤ 4) : ∃ d : Int, (∀ w : World, (w.alloc (.cells #[.int .i64 2, .int .i64 3, .int .i64 4, .int .i64 4, .int .i64 6] 3)).cell? ⟨w.heap.size, rn, none⟩ = some (.int .i64 d)) ∧ 2 ≤ d ∧ d ≤ 6 := by
  rcases (show rn = 0 ∨ rn = 1 ∨ rn = 2 ∨ rn = 3 ∨ rn = 4 from by omega) with rfl | rfl | rfl | rfl | rfl
  · exact ⟨2, fun w => cell_of_row _ _ _ _ _ _ (heap_alloc_new w _), by omega, by omega⟩
  · exact ⟨3, fun w => cell_of_row _ _ _ _ _ _ (heap_alloc_new w _), by omega, by omega⟩
  · exact ⟨4, fun w => cell_of_row _ _ _ _ _ _ (heap_alloc_new w _), by omega, by omega⟩
  · exact ⟨4, fun w => cell_of_row _ _ _ _ _ _ (heap_alloc_new w _), by omega, by omega⟩
  · exact ⟨6, fun w => cell_of_row _ _ _ _ _ _ (heap_alloc_new w _), by omega, by omega⟩
theorem arr3 (rn : Nat) (h : rn ≤ 2) : ∃ d : Int, (∀ w : World, (w.alloc (.cells #[.int .i64 2, .int .i64 3, .int .i64 4] 3)).cell? ⟨w.heap.size, rn, none⟩ = some (.int .i64 d)) ∧ 2 ≤ d ∧ d ≤ 4 := by
  rcases (show rn = 0 ∨ rn = 1 ∨ rn = 2 from by omega) with rfl | rfl | rfl
  · exact ⟨2, fun w => cell_of_row _ _ _ _ _ _ (heap_alloc_new w _), by omega, by omega⟩
  · exact ⟨3, fun w => cell_of_row _ _ _ _ _ _ (heap_alloc_new w _), by omega, by omega⟩
  · exact ⟨4, fun w => cell_of_row _ _ _ _ _ _ (heap_alloc_new w _), by omega, by omega⟩
theorem box_len (W T : Int) : (boxB W T).length ≤ 24 := by
  unfold boxB
  split
  · rename_i h
    unfold boxOk at h; simp at h
    simp; omega
  · simp
theorem cell_al {w : World} {a : Addr} {v : Value} (h : w.cell? a = some v) (o : Obj) : (w.alloc o).cell? a = some v := by
  rw [World.cell?_alloc_lt w o a (World.block_lt_of_cell? w _ h)]; exact h
set_option maxRecDepth 100000 in
set_option maxHeartbeats 8000000 in
theorem some_any (n : Int) (w : World) (g : Nat) (A : Option Addr) (c : Nat) (bytes : List Int) (p : Nat) (h : RdS w g A c bytes p) (hp : p ≤ 40000) (hn0 : 0 ≤ n) (hn : n ≤ 1000) :
    Calls Try.prog 107 #[.pointer (some ⟨g, 0, none⟩), .int .i64 n] w (SomeReg g A c bytes p 90 w) := by
  have hg := heap_lt h.1
  have hA : bytes ≠ [] → ∀ ad, A = some ad → ad.block < w.heap.size := by
    intro hne ad ha
    obtain ⟨ad', ha', hc⟩ := h.2.1 (by simpa using hne)
    obtain rfl := Option.some.inj (ha.symm.trans ha')
    obtain ⟨x, ys, rfl⟩ := List.exists_cons_of_ne_nil hne
    have := World.block_lt_of_cell? w _ (hc 0 _ rfl)
    simpa [Addr.add] using this
  have H0 : Rs w g A c bytes p (w.alloc (.cells #[.int .i64 0, .int .i64 0, .slice none 0 0] 25)) :=
    ⟨h.below hg (bl_alloc (Below.refl _ _) _), heap_alloc_new w _, gb_below (World.grownBy.refl _ _) (bl_alloc (Below.refl _ _) _), hg, hA⟩
  go_enter Try.func107, Try.ntmps107
  go_wp2_with fail
  refine (pick_any 4 _ g A c bytes p H0.rds (by omega) (by omega)).mono ?_
  rintro e w1 ⟨r, rfl, hr, S1, G1⟩
  have H1 := H0.pick S1 G1
  have hr' : r = 0 ∨ r = 1 ∨ r = 2 ∨ r = 3 := by unfold Below0 at hr; omega
  clear hr H0
  have hreg : ∀ z, RdS z g A c bytes (p + 1) → Calls Try.prog 106 #[.pointer (some ⟨g, 0, none⟩), .int .i64 n] z (SomeReg g A c bytes (p + 1) 30 z) := fun z R => region_any n z g A c bytes (p + 1) R (by omega) hn0 hn
  have htil : ∀ z, RdS z g A c bytes (p + 1) → Calls Try.prog 137 #[.pointer (some ⟨g, 0, none⟩), .int .i64 n] z (SomeReg g A c bytes (p + 1) 80 z) := fun z R => tiled_any n z g A c bytes (p + 1) R (by omega) hn0 hn
  have HREG := Lib.hid hreg
  have HTIL := Lib.hid htil
  clear hreg htil
  rcases hr' with rfl | rfl | rfl | rfl
  · obtain ⟨rn1, e1, h1⟩ : ∃ rn : Nat, pickV 5 bytes (p + 1) = rn ∧ rn ≤ 4 := by
      have := pickV_bd (n := 5) bytes (p + 1) (by omega)
      exact ⟨(pickV 5 bytes (p + 1)).toNat, by omega, by omega⟩
    obtain ⟨rn2, e2, h2⟩ : ∃ rn : Nat, pickV 3 bytes (p + 1 + 1) = rn ∧ rn ≤ 2 := by
      have := pickV_bd (n := 3) bytes (p + 1 + 1) (by omega)
      exact ⟨(pickV 3 bytes (p + 1 + 1)).toNat, by omega, by omega⟩
    have p5 : ∀ z, RdS z g A c bytes (p + 1) → Calls Try.prog 85 #[.pointer (some ⟨g, 0, none⟩), .int .i64 5] z fun e w' => e = .returned (.int .i64 rn1) ∧ RdS w' g A c bytes (p + 1 + 1) ∧ z.grownBy w' (some g) := fun z R => by
      have := pickV_any 5 z g A c bytes (p + 1) R (by omega) (by omega)
      unfold PickedV at this; rw [e1] at this; exact this
    have p3 : ∀ z, RdS z g A c bytes (p + 1 + 1) → Calls Try.prog 85 #[.pointer (some ⟨g, 0, none⟩), .int .i64 3] z fun e w' => e = .returned (.int .i64 rn2) ∧ RdS w' g A c bytes (p + 1 + 1 + 1) ∧ z.grownBy w' (some g) := fun z R => by
      have := pickV_any 3 z g A c bytes (p + 1 + 1) R (by omega) (by omega)
      unfold PickedV at this; rw [e2] at this; exact this
    have P5 := Lib.hid p5
    have P3 := Lib.hid p3
    obtain ⟨d5, f5, a1, a2⟩ := arr5 rn1 h1
    obtain ⟨d3, f3, a3, a4⟩ := arr3 rn2 h2
    have F5 := Lib.hid f5
    have F3 := Lib.hid f3
    have SZ := Lib.hid (show ∀ (z : World) (o : Obj), (z.alloc o).heap.size = z.heap.size + 1 from fun z o => by simp)
    clear p5 p3 f5 f3 e1 e2
    have hr1 : (rn1 : Int) < 5 := by omega
    have hr2 : (rn2 : Int) < 3 := by omega
    have q0 : g < w1.heap.size := heap_lt H1.rds.1
    have q1 : g ≠ w1.heap.size := by omega
    have E5a : (w1.alloc (.cells #[.int .i64 2, .int .i64 3, .int .i64 4, .int .i64 4, .int .i64 6] 3)).cell? ⟨w1.heap.size, rn1, none⟩ = some (.int .i64 d5) := F5.out w1
    have E3a : (w1.alloc (.cells #[.int .i64 2, .int .i64 3, .int .i64 4] 3)).cell? ⟨w1.heap.size, rn2, none⟩ = some (.int .i64 d3) := F3.out w1
    have E5b : ((w1.alloc (.cells #[.int .i64 2, .int .i64 3, .int .i64 4] 3)).alloc (.cells #[.int .i64 2, .int .i64 3, .int .i64 4, .int .i64 4, .int .i64 6] 3)).cell? ⟨w1.heap.size + 1, rn1, none⟩ = some (.int .i64 d5) := by have := F5.out (w1.alloc (.cells #[.int .i64 2, .int .i64 3, .int .i64 4] 3)); rw [SZ.out] at this; exact this
    have E3b : ((w1.alloc (.cells #[.int .i64 2, .int .i64 3, .int .i64 4, .int .i64 4, .int .i64 6] 3)).alloc (.cells #[.int .i64 2, .int .i64 3, .int .i64 4] 3)).cell? ⟨w1.heap.size + 1, rn2, none⟩ = some (.int .i64 d3) := by have := F3.out (w1.alloc (.cells #[.int .i64 2, .int .i64 3, .int .i64 4, .int .i64 4, .int .i64 6] 3)); rw [SZ.out] at this; exact this
    go_wp2_with fail
    go_region_law? (
      go_simp
      first
        | (go_at_call 85
           first
             | (with_reducible refine (P5.out w1.drew H1.drew.rds).mono ?_
                rintro e w4 ⟨rfl, S4, G4⟩
                have H4 := H1.drew.pick S4 G4
                have q4 : g < w4.heap.size := by have := heap_lt H4.rds.1; exact this
                have q5 : g ≠ w4.heap.size := by omega
                have E5c := F5.out w4
                have E3c := F3.out w4
                have E5g := cell_al E5c (.cells #[.int .i64 2, .int .i64 3, .int .i64 4] 3)
                have E3g := cell_al E3c (.cells #[.int .i64 2, .int .i64 3, .int .i64 4, .int .i64 4, .int .i64 6] 3)
                try have F5r := cell_al F5p (.cells #[.int .i64 2, .int .i64 3, .int .i64 4] 3)
                try have F3r := cell_al F3p (.cells #[.int .i64 2, .int .i64 3, .int .i64 4, .int .i64 4, .int .i64 6] 3)
                have E5d := F5.out (w4.alloc (.cells #[.int .i64 2, .int .i64 3, .int .i64 4] 3))
                have E3d := F3.out (w4.alloc (.cells #[.int .i64 2, .int .i64 3, .int .i64 4, .int .i64 4, .int .i64 6] 3))
                rw [SZ.out] at E5d
                rw [SZ.out] at E3d)
             | (with_reducible refine (P5.out (w1.alloc (.cells #[.int .i64 2, .int .i64 3, .int .i64 4, .int .i64 4, .int .i64 6] 3)).drew (H1.alloc (.cells #[.int .i64 2, .int .i64 3, .int .i64 4, .int .i64 4, .int .i64 6] 3)).drew.rds).mono ?_
                rintro e w4 ⟨rfl, S4, G4⟩
                have H4 := (H1.alloc (.cells #[.int .i64 2, .int .i64 3, .int .i64 4, .int .i64 4, .int .i64 6] 3)).drew.pick S4 G4
                have q4 : g < w4.heap.size := by have := heap_lt H4.rds.1; exact this
                have q5 : g ≠ w4.heap.size := by omega
                have F5p := gb_cell G4 (by omega) E5a
                have zF5p := World.block_lt_of_cell? _ _ F5p
                dsimp only at zF5p
                have E5c := F5.out w4
                have E3c := F3.out w4
                have E5g := cell_al E5c (.cells #[.int .i64 2, .int .i64 3, .int .i64 4] 3)
                have E3g := cell_al E3c (.cells #[.int .i64 2, .int .i64 3, .int .i64 4, .int .i64 4, .int .i64 6] 3)
                try have F5r := cell_al F5p (.cells #[.int .i64 2, .int .i64 3, .int .i64 4] 3)
                try have F3r := cell_al F3p (.cells #[.int .i64 2, .int .i64 3, .int .i64 4, .int .i64 4, .int .i64 6] 3)
                have E5d := F5.out (w4.alloc (.cells #[.int .i64 2, .int .i64 3, .int .i64 4] 3))
                have E3d := F3.out (w4.alloc (.cells #[.int .i64 2, .int .i64 3, .int .i64 4, .int .i64 4, .int .i64 6] 3))
                rw [SZ.out] at E5d
                rw [SZ.out] at E3d)
             | (with_reducible refine (P5.out (w1.alloc (.cells #[.int .i64 2, .int .i64 3, .int .i64 4] 3)).drew (H1.alloc (.cells #[.int .i64 2, .int .i64 3, .int .i64 4] 3)).drew.rds).mono ?_
                rintro e w4 ⟨rfl, S4, G4⟩
                have H4 := (H1.alloc (.cells #[.int .i64 2, .int .i64 3, .int .i64 4] 3)).drew.pick S4 G4
                have q4 : g < w4.heap.size := by have := heap_lt H4.rds.1; exact this
                have q5 : g ≠ w4.heap.size := by omega
                have F3p := gb_cell G4 (by omega) E3a
                have zF3p := World.block_lt_of_cell? _ _ F3p
                dsimp only at zF3p
                have E5c := F5.out w4
                have E3c := F3.out w4
                have E5g := cell_al E5c (.cells #[.int .i64 2, .int .i64 3, .int .i64 4] 3)
                have E3g := cell_al E3c (.cells #[.int .i64 2, .int .i64 3, .int .i64 4, .int .i64 4, .int .i64 6] 3)
                try have F5r := cell_al F5p (.cells #[.int .i64 2, .int .i64 3, .int .i64 4] 3)
                try have F3r := cell_al F3p (.cells #[.int .i64 2, .int .i64 3, .int .i64 4, .int .i64 4, .int .i64 6] 3)
                have E5d := F5.out (w4.alloc (.cells #[.int .i64 2, .int .i64 3, .int .i64 4] 3))
                have E3d := F3.out (w4.alloc (.cells #[.int .i64 2, .int .i64 3, .int .i64 4, .int .i64 4, .int .i64 6] 3))
                rw [SZ.out] at E5d
                rw [SZ.out] at E3d)
             | (with_reducible refine (P5.out ((w1.alloc (.cells #[.int .i64 2, .int .i64 3, .int .i64 4, .int .i64 4, .int .i64 6] 3)).alloc (.cells #[.int .i64 2, .int .i64 3, .int .i64 4] 3)).drew ((H1.alloc (.cells #[.int .i64 2, .int .i64 3, .int .i64 4, .int .i64 4, .int .i64 6] 3)).alloc (.cells #[.int .i64 2, .int .i64 3, .int .i64 4] 3)).drew.rds).mono ?_
                rintro e w4 ⟨rfl, S4, G4⟩
                have H4 := ((H1.alloc (.cells #[.int .i64 2, .int .i64 3, .int .i64 4, .int .i64 4, .int .i64 6] 3)).alloc (.cells #[.int .i64 2, .int .i64 3, .int .i64 4] 3)).drew.pick S4 G4
                have q4 : g < w4.heap.size := by have := heap_lt H4.rds.1; exact this
                have q5 : g ≠ w4.heap.size := by omega
                have F5p := gb_cell G4 (by omega) (cell_al E5a (.cells #[.int .i64 2, .int .i64 3, .int .i64 4] 3))
                have zF5p := World.block_lt_of_cell? _ _ F5p
                dsimp only at zF5p
                have F3p := gb_cell G4 (by omega) E3b
                have zF3p := World.block_lt_of_cell? _ _ F3p
                dsimp only at zF3p
                have E5c := F5.out w4
                have E3c := F3.out w4
                have E5g := cell_al E5c (.cells #[.int .i64 2, .int .i64 3, .int .i64 4] 3)
                have E3g := cell_al E3c (.cells #[.int .i64 2, .int .i64 3, .int .i64 4, .int .i64 4, .int .i64 6] 3)
                try have F5r := cell_al F5p (.cells #[.int .i64 2, .int .i64 3, .int .i64 4] 3)
                try have F3r := cell_al F3p (.cells #[.int .i64 2, .int .i64 3, .int .i64 4, .int .i64 4, .int .i64 6] 3)
                have E5d := F5.out (w4.alloc (.cells #[.int .i64 2, .int .i64 3, .int .i64 4] 3))
                have E3d := F3.out (w4.alloc (.cells #[.int .i64 2, .int .i64 3, .int .i64 4, .int .i64 4, .int .i64 6] 3))
                rw [SZ.out] at E5d
                rw [SZ.out] at E3d)
             | (with_reducible refine (P5.out ((w1.alloc (.cells #[.int .i64 2, .int .i64 3, .int .i64 4] 3)).alloc (.cells #[.int .i64 2, .int .i64 3, .int .i64 4, .int .i64 4, .int .i64 6] 3)).drew ((H1.alloc (.cells #[.int .i64 2, .int .i64 3, .int .i64 4] 3)).alloc (.cells #[.int .i64 2, .int .i64 3, .int .i64 4, .int .i64 4, .int .i64 6] 3)).drew.rds).mono ?_
                rintro e w4 ⟨rfl, S4, G4⟩
                have H4 := ((H1.alloc (.cells #[.int .i64 2, .int .i64 3, .int .i64 4] 3)).alloc (.cells #[.int .i64 2, .int .i64 3, .int .i64 4, .int .i64 4, .int .i64 6] 3)).drew.pick S4 G4
                have q4 : g < w4.heap.size := by have := heap_lt H4.rds.1; exact this
                have q5 : g ≠ w4.heap.size := by omega
                have F3p := gb_cell G4 (by omega) (cell_al E3a (.cells #[.int .i64 2, .int .i64 3, .int .i64 4, .int .i64 4, .int .i64 6] 3))
                have zF3p := World.block_lt_of_cell? _ _ F3p
                dsimp only at zF3p
                have F5p := gb_cell G4 (by omega) E5b
                have zF5p := World.block_lt_of_cell? _ _ F5p
                dsimp only at zF5p
                have E5c := F5.out w4
                have E3c := F3.out w4
                have E5g := cell_al E5c (.cells #[.int .i64 2, .int .i64 3, .int .i64 4] 3)
                have E3g := cell_al E3c (.cells #[.int .i64 2, .int .i64 3, .int .i64 4, .int .i64 4, .int .i64 6] 3)
                try have F5r := cell_al F5p (.cells #[.int .i64 2, .int .i64 3, .int .i64 4] 3)
                try have F3r := cell_al F3p (.cells #[.int .i64 2, .int .i64 3, .int .i64 4, .int .i64 4, .int .i64 6] 3)
                have E5d := F5.out (w4.alloc (.cells #[.int .i64 2, .int .i64 3, .int .i64 4] 3))
                have E3d := F3.out (w4.alloc (.cells #[.int .i64 2, .int .i64 3, .int .i64 4, .int .i64 4, .int .i64 6] 3))
                rw [SZ.out] at E5d
                rw [SZ.out] at E3d)
             | (with_reducible refine (P3.out w4 H4.rds).mono ?_
                rintro e w6 ⟨rfl, S6, G6⟩
                have H6 := H4.pick S6 G6
                try (have F5q := gb_cell G6 (by omega) F5p
                     have zF5q := World.block_lt_of_cell? _ _ F5q
                     dsimp only at zF5q)
                try (have F3q := gb_cell G6 (by omega) F3p
                     have zF3q := World.block_lt_of_cell? _ _ F3q
                     dsimp only at zF3q)
                have E5e := F5.out w6
                have E3e := F3.out w6
                have E5h := cell_al E5e (.cells #[.int .i64 2, .int .i64 3, .int .i64 4] 3)
                have E3h := cell_al E3e (.cells #[.int .i64 2, .int .i64 3, .int .i64 4, .int .i64 4, .int .i64 6] 3)
                try have F5s := cell_al F5q (.cells #[.int .i64 2, .int .i64 3, .int .i64 4] 3)
                try have F3s := cell_al F3q (.cells #[.int .i64 2, .int .i64 3, .int .i64 4, .int .i64 4, .int .i64 6] 3)
                have E5f := F5.out (w6.alloc (.cells #[.int .i64 2, .int .i64 3, .int .i64 4] 3))
                have E3f := F3.out (w6.alloc (.cells #[.int .i64 2, .int .i64 3, .int .i64 4, .int .i64 4, .int .i64 6] 3))
                rw [SZ.out] at E5f
                rw [SZ.out] at E3f)
             | (with_reducible refine (P3.out (w4.alloc (.cells #[.int .i64 2, .int .i64 3, .int .i64 4, .int .i64 4, .int .i64 6] 3)) (H4.alloc (.cells #[.int .i64 2, .int .i64 3, .int .i64 4, .int .i64 4, .int .i64 6] 3)).rds).mono ?_
                rintro e w6 ⟨rfl, S6, G6⟩
                have H6 := (H4.alloc (.cells #[.int .i64 2, .int .i64 3, .int .i64 4, .int .i64 4, .int .i64 6] 3)).pick S6 G6
                try (have F5q := gb_cell G6 (by omega) E5c
                     have zF5q := World.block_lt_of_cell? _ _ F5q
                     dsimp only at zF5q)
                try (have F3q := gb_cell G6 (by omega) (cell_al F3p (.cells #[.int .i64 2, .int .i64 3, .int .i64 4, .int .i64 4, .int .i64 6] 3))
                     have zF3q := World.block_lt_of_cell? _ _ F3q
                     dsimp only at zF3q)
                have E5e := F5.out w6
                have E3e := F3.out w6
                have E5h := cell_al E5e (.cells #[.int .i64 2, .int .i64 3, .int .i64 4] 3)
                have E3h := cell_al E3e (.cells #[.int .i64 2, .int .i64 3, .int .i64 4, .int .i64 4, .int .i64 6] 3)
                try have F5s := cell_al F5q (.cells #[.int .i64 2, .int .i64 3, .int .i64 4] 3)
                try have F3s := cell_al F3q (.cells #[.int .i64 2, .int .i64 3, .int .i64 4, .int .i64 4, .int .i64 6] 3)
                have E5f := F5.out (w6.alloc (.cells #[.int .i64 2, .int .i64 3, .int .i64 4] 3))
                have E3f := F3.out (w6.alloc (.cells #[.int .i64 2, .int .i64 3, .int .i64 4, .int .i64 4, .int .i64 6] 3))
                rw [SZ.out] at E5f
                rw [SZ.out] at E3f)
             | (with_reducible refine (P3.out (w4.alloc (.cells #[.int .i64 2, .int .i64 3, .int .i64 4] 3)) (H4.alloc (.cells #[.int .i64 2, .int .i64 3, .int .i64 4] 3)).rds).mono ?_
                rintro e w6 ⟨rfl, S6, G6⟩
                have H6 := (H4.alloc (.cells #[.int .i64 2, .int .i64 3, .int .i64 4] 3)).pick S6 G6
                try (have F3q := gb_cell G6 (by omega) E3c
                     have zF3q := World.block_lt_of_cell? _ _ F3q
                     dsimp only at zF3q)
                try (have F5q := gb_cell G6 (by omega) (cell_al F5p (.cells #[.int .i64 2, .int .i64 3, .int .i64 4] 3))
                     have zF5q := World.block_lt_of_cell? _ _ F5q
                     dsimp only at zF5q)
                have E5e := F5.out w6
                have E3e := F3.out w6
                have E5h := cell_al E5e (.cells #[.int .i64 2, .int .i64 3, .int .i64 4] 3)
                have E3h := cell_al E3e (.cells #[.int .i64 2, .int .i64 3, .int .i64 4, .int .i64 4, .int .i64 6] 3)
                try have F5s := cell_al F5q (.cells #[.int .i64 2, .int .i64 3, .int .i64 4] 3)
                try have F3s := cell_al F3q (.cells #[.int .i64 2, .int .i64 3, .int .i64 4, .int .i64 4, .int .i64 6] 3)
                have E5f := F5.out (w6.alloc (.cells #[.int .i64 2, .int .i64 3, .int .i64 4] 3))
                have E3f := F3.out (w6.alloc (.cells #[.int .i64 2, .int .i64 3, .int .i64 4, .int .i64 4, .int .i64 6] 3))
                rw [SZ.out] at E5f
                rw [SZ.out] at E3f)
             | (with_reducible refine (P3.out ((w4.alloc (.cells #[.int .i64 2, .int .i64 3, .int .i64 4, .int .i64 4, .int .i64 6] 3)).alloc (.cells #[.int .i64 2, .int .i64 3, .int .i64 4] 3)) ((H4.alloc (.cells #[.int .i64 2, .int .i64 3, .int .i64 4, .int .i64 4, .int .i64 6] 3)).alloc (.cells #[.int .i64 2, .int .i64 3, .int .i64 4] 3)).rds).mono ?_
                rintro e w6 ⟨rfl, S6, G6⟩
                have H6 := ((H4.alloc (.cells #[.int .i64 2, .int .i64 3, .int .i64 4, .int .i64 4, .int .i64 6] 3)).alloc (.cells #[.int .i64 2, .int .i64 3, .int .i64 4] 3)).pick S6 G6
                try (have F5q := gb_cell G6 (by omega) (cell_al E5c (.cells #[.int .i64 2, .int .i64 3, .int .i64 4] 3))
                     have zF5q := World.block_lt_of_cell? _ _ F5q
                     dsimp only at zF5q)
                try (have F3q := gb_cell G6 (by omega) E3d
                     have zF3q := World.block_lt_of_cell? _ _ F3q
                     dsimp only at zF3q)
                have E5e := F5.out w6
                have E3e := F3.out w6
                have E5h := cell_al E5e (.cells #[.int .i64 2, .int .i64 3, .int .i64 4] 3)
                have E3h := cell_al E3e (.cells #[.int .i64 2, .int .i64 3, .int .i64 4, .int .i64 4, .int .i64 6] 3)
                try have F5s := cell_al F5q (.cells #[.int .i64 2, .int .i64 3, .int .i64 4] 3)
                try have F3s := cell_al F3q (.cells #[.int .i64 2, .int .i64 3, .int .i64 4, .int .i64 4, .int .i64 6] 3)
                have E5f := F5.out (w6.alloc (.cells #[.int .i64 2, .int .i64 3, .int .i64 4] 3))
                have E3f := F3.out (w6.alloc (.cells #[.int .i64 2, .int .i64 3, .int .i64 4, .int .i64 4, .int .i64 6] 3))
                rw [SZ.out] at E5f
                rw [SZ.out] at E3f)
             | (with_reducible refine (P3.out ((w4.alloc (.cells #[.int .i64 2, .int .i64 3, .int .i64 4] 3)).alloc (.cells #[.int .i64 2, .int .i64 3, .int .i64 4, .int .i64 4, .int .i64 6] 3)) ((H4.alloc (.cells #[.int .i64 2, .int .i64 3, .int .i64 4] 3)).alloc (.cells #[.int .i64 2, .int .i64 3, .int .i64 4, .int .i64 4, .int .i64 6] 3)).rds).mono ?_
                rintro e w6 ⟨rfl, S6, G6⟩
                have H6 := ((H4.alloc (.cells #[.int .i64 2, .int .i64 3, .int .i64 4] 3)).alloc (.cells #[.int .i64 2, .int .i64 3, .int .i64 4, .int .i64 4, .int .i64 6] 3)).pick S6 G6
                try (have F3q := gb_cell G6 (by omega) (cell_al E3c (.cells #[.int .i64 2, .int .i64 3, .int .i64 4, .int .i64 4, .int .i64 6] 3))
                     have zF3q := World.block_lt_of_cell? _ _ F3q
                     dsimp only at zF3q)
                try (have F5q := gb_cell G6 (by omega) E5d
                     have zF5q := World.block_lt_of_cell? _ _ F5q
                     dsimp only at zF5q)
                have E5e := F5.out w6
                have E3e := F3.out w6
                have E5h := cell_al E5e (.cells #[.int .i64 2, .int .i64 3, .int .i64 4] 3)
                have E3h := cell_al E3e (.cells #[.int .i64 2, .int .i64 3, .int .i64 4, .int .i64 4, .int .i64 6] 3)
                try have F5s := cell_al F5q (.cells #[.int .i64 2, .int .i64 3, .int .i64 4] 3)
                try have F3s := cell_al F3q (.cells #[.int .i64 2, .int .i64 3, .int .i64 4, .int .i64 4, .int .i64 6] 3)
                have E5f := F5.out (w6.alloc (.cells #[.int .i64 2, .int .i64 3, .int .i64 4] 3))
                have E3f := F3.out (w6.alloc (.cells #[.int .i64 2, .int .i64 3, .int .i64 4, .int .i64 4, .int .i64 6] 3))
                rw [SZ.out] at E5f
                rw [SZ.out] at E3f))
        | (go_at_call 97
           with_reducible refine (sRegionBox_any d5 d3 _).mono ?_
           rintro e w7 ⟨B, kb, rfl, o7, b7⟩
           have H7 : Rs w g A c bytes (p + 1 + 1 + 1) w7 := by first | exact H6.below b7 | exact (H6.alloc (.cells #[.int .i64 2, .int .i64 3, .int .i64 4, .int .i64 4, .int .i64 6] 3)).below b7 | exact (H6.alloc (.cells #[.int .i64 2, .int .i64 3, .int .i64 4] 3)).below b7 | exact ((H6.alloc (.cells #[.int .i64 2, .int .i64 3, .int .i64 4, .int .i64 4, .int .i64 6] 3)).alloc (.cells #[.int .i64 2, .int .i64 3, .int .i64 4] 3)).below b7 | exact ((H6.alloc (.cells #[.int .i64 2, .int .i64 3, .int .i64 4] 3)).alloc (.cells #[.int .i64 2, .int .i64 3, .int .i64 4, .int .i64 4, .int .i64 6] 3)).below b7
           have hB : ∀ ad, B = some ad → w.heap.size < ad.block := fun ad ha => by have t := o7.1 ad ha; have := heap_lt H6.res; (try simp at t); omega
           obtain ⟨s0, s1, s2, t0, t1, t2⟩ := blk3 H7.res))
    all_goals (
      go_wp2_with fail
      refine bodyPost_ret (v := .agg #[.int .i64 (boxW d5 d3), .int .i64 (boxT d5 d3), .slice B (boxB d5 d3).length kb]) (by simp [results, Try.results107, go_sem, s0, s1, s2]) rfl ?_
      exact H7.done o7.rd hB (by have := box_len d5 d3; omega) (by omega))
  · go_wp2_with fail
    refine (HREG.out _ H1.rds).mono ?_
    rintro e w2 ⟨W, T, bs, B, kb, q, rfl, hrd, hl37, S2, hq, G2, hB⟩
    have z1 := heap_lt H1.res
    have H2 := H1.pick S2 G2
    obtain ⟨s0, s1, s2, t0, t1, t2⟩ := blk3 H2.res
    have hB' : ∀ ad, B = some ad → w.heap.size < ad.block := fun ad ha => by have := hB ad ha; omega
    go_wp2_with fail
    refine bodyPost_ret (v := .agg #[.int .i64 W, .int .i64 T, .slice B bs.length kb]) (by simp [results, Try.results107, go_sem, s0, s1, s2]) rfl ?_
    exact H2.done hrd hB' hl37 (by omega)
  all_goals (
    go_wp2_with fail
    refine (HTIL.out _ H1.rds).mono ?_
    rintro e w2 ⟨W, T, bs, B, kb, q, rfl, hrd, hl37, S2, hq, G2, hB⟩
    have z1 := heap_lt H1.res
    have H2 := H1.pick S2 G2
    obtain ⟨s0, s1, s2, t0, t1, t2⟩ := blk3 H2.res
    have hB' : ∀ ad, B = some ad → w.heap.size < ad.block := fun ad ha => by have := hB ad ha; omega
    go_wp2_with fail
    refine bodyPost_ret (v := .agg #[.int .i64 W, .int .i64 T, .slice B bs.length kb]) (by simp [results, Try.results107, go_sem, s0, s1, s2]) rfl ?_
    exact H2.done hrd hB' hl37 (by omega))
end Go.Proofs.Ytnciemnlnijhfaa
