/- Contract: the program's CornerFill. -/
import Derived.Test.YtnciemnlnijhfaaCornD
import Derived.Deep.RegionHeld3
import Derived.Laws.EntriesVeiled
import Derived.StillTailTactics
namespace Go.Proofs.Ytnciemnlnijhfaa
open Go.RowKit

/-- a new list and whether it is one -/
def NewW2 (xs : List Int) (ok : Bool) (w : World) (e : Ending) (w' : World) : Prop :=
  ∃ A : Option Addr, e = .returned (.tuple #[.slice A xs.length xs.length, .bool ok]) ∧ Wr w' w.heap.size 3 A (xs.map (.int .i64)) ∧ Below w.heap.size w w'
/-- the square filled -/
def crnV (side : Nat) (f cell : Nat) : List Int := (crnI side f 0 0 (cell % side) (cell / side) (List.replicate (side * side) (-1), 0)).1
theorem al_new1 (w : World) (v : Value) (t : TypeId) : (w.alloc (.cells #[v] t)).cell? ⟨w.heap.size, 0, none⟩ = some v := cell_of_row _ _ 0 _ _ _ (heap_alloc_new w _)
theorem al_old1 {w : World} {p : Addr} {v : Value} (o : Obj) (h : w.cell? p = some v) : (w.alloc o).cell? p = some v := (World.cell?_alloc_lt w o p (World.block_lt_of_cell? w _ h)).trans h
theorem one_rd (w : World) (v : Int) (t : TypeId) {b : Nat} (hb : w.heap.size = b) : Rd (w.alloc (.cells #[.int .i64 v] t)) (some ⟨b, 0, none⟩) [.int .i64 v] := fun _ => ⟨_, rfl, fun j u hu => by
  subst hb
  match j, hu with
  | 0, hu => simp at hu; subst hu; rw [add_zero']; exact al_new1 _ _ _⟩
theorem Two.far {g b : Nat} {w w' : World} (h : Two g b w w') {w0 : World} (h0 : Below w0.heap.size w0 w) (hg : w0.heap.size ≤ g) (hb : w0.heap.size ≤ b) : Below w0.heap.size w0 w' :=
  ⟨h.os.trans h0.os, h.tape.trans h0.tape, h.output.trans h0.output, Nat.le_trans h0.size h.size, fun i hi => (h.block i (Nat.lt_of_lt_of_le hi h0.size) (by omega) (by omega)).trans (h0.block i hi)⟩
theorem two_drew {g b : Nat} (w : World) : Two g b w w.drew := ⟨rfl, rfl, rfl, Nat.le_refl _, fun _ _ _ _ => rfl⟩
/-- the boxes of the call, made -/
theorem crn_made {side c g bs lo : Nat} {F : List Int} {w2 : World} (hsd : w2.cell? ⟨bs, 0, none⟩ = some (.int .i64 side)) (hrow : Wr w2 lo 3 (some ⟨g, 0, none⟩) (F.map (.int .i64))) (hl : F.length = side * side) (hg : g < w2.heap.size) (hne : bs ≠ g) (hb : bs < w2.heap.size) :
    CrnSt side c g (w2.heap.size + 1) w2.heap.size bs (w2.heap.size + 1 + 1) lo F 0 (((w2.alloc (.cells #[.slice (some ⟨g, 0, none⟩) (side * side) c] 39)).alloc (.cells #[.int .i64 0] 3)).alloc (.cells #[.func (.func 84) #[] #[.pointer (some ⟨w2.heap.size + 1, 0, none⟩), .pointer (some ⟨w2.heap.size, 0, none⟩), .pointer (some ⟨bs, 0, none⟩), .pointer (some ⟨w2.heap.size + 1 + 1, 0, none⟩)]] 95)) := by
  have z1 : (w2.alloc (.cells #[.slice (some ⟨g, 0, none⟩) (side * side) c] 39)).heap.size = w2.heap.size + 1 := by simp
  have z2 : ((w2.alloc (.cells #[.slice (some ⟨g, 0, none⟩) (side * side) c] 39)).alloc (.cells #[.int .i64 0] 3)).heap.size = w2.heap.size + 1 + 1 := by simp
  refine ⟨?_, ?_, ?_, ?_, ?_, hl, ⟨hne, by omega⟩, ⟨by omega, by omega⟩, ⟨by omega, by omega⟩, by omega⟩
  · exact al_old1 _ (al_old1 _ (al_old1 _ hsd))
  · exact al_old1 _ (al_old1 _ (al_new1 _ _ _))
  · rw [(bl_alloc (Below.refl _ _) _).block _ (by rw [z2]; omega)]
    have := heap_alloc_new (w2.alloc (.cells #[.slice (some ⟨g, 0, none⟩) (side * side) c] 39)) (.cells #[.int .i64 0] 3)
    rw [z1] at this
    exact this
  · have := al_new1 ((w2.alloc (.cells #[.slice (some ⟨g, 0, none⟩) (side * side) c] 39)).alloc (.cells #[.int .i64 0] 3)) (.func (.func 84) #[] #[.pointer (some ⟨w2.heap.size + 1, 0, none⟩), .pointer (some ⟨w2.heap.size, 0, none⟩), .pointer (some ⟨bs, 0, none⟩), .pointer (some ⟨w2.heap.size + 1 + 1, 0, none⟩)]) 95
    rw [z2] at this
    exact this
  · exact ((hrow.belo (bl_alloc (Below.refl _ _) _)).belo (bl_alloc (Below.refl _ _) _)).belo (bl_alloc (Below.refl _ _) _)
set_option maxRecDepth 100000 in
set_option maxHeartbeats 4000000 in
theorem iCorner_1 (cell : Nat) (hc : cell < 1) (w : World) :
    Calls Try.prog 28 #[.int .i64 1, .int .i64 cell] w (NewW2 (crnV 1 0 cell) true w) := by
  obtain ⟨gx, hgx⟩ : ∃ gx, cell % 1 = gx := ⟨_, rfl⟩
  obtain ⟨gy, hgy⟩ : ∃ gy, cell / 1 = gy := ⟨_, rfl⟩
  have CALL := Lib.hid (fun (z : World) (c g bn bf bs bk lo : Nat) (S : CrnSt 1 c g bn bf bs bk lo (List.replicate 1 (-1)) 0 z) =>
    (show Calls Try.prog 84 #[.int .i64 0, .int .i64 0, .int .i64 1, .agg #[.int .i64 gx, .int .i64 gy], .pointer (some ⟨bn, 0, none⟩), .pointer (some ⟨bf, 0, none⟩), .pointer (some ⟨bs, 0, none⟩), .pointer (some ⟨bk, 0, none⟩)] z _ from
      (crn_zero _ _ _ _ _ _ _ _ _ _) z (List.replicate 1 (-1)) 0 gx gy S (by omega) (by omega) (by decide)))
  have VEQ := Lib.hid (show (crnI 1 0 0 0 gx gy (List.replicate 1 (-1), ((0 : Nat) : Int))).1 = crnV 1 0 cell by unfold crnV; rw [hgx, hgy]; rfl)
  have HL := Lib.hid (show (crnV 1 0 cell).length = 1 from crn_len _ _ _ _ _ _ _ _)
  have e2 : ((cell : Int).tmod 1) = (gx : Int) := by rw [Int.tmod_eq_emod_of_nonneg (by omega)]; omega
  have e3 : ((cell : Int).tdiv 1) = (gy : Int) := by rw [Int.tdiv_eq_ediv_of_nonneg (by omega)]; omega
  have e4 : ((cell : Int) % 1) = (gx : Int) := by omega
  have e5 : ((cell : Int) / 1) = (gy : Int) := by omega
  clear hgx hgy
  have CREP := Lib.hid (fun (z : World) (A : Option Addr) (c : Nat) (R : Rd z A [.int .i64 (-1)]) => repeat_one A c (-1) 1 (by omega) (by omega) z R)
  have R1 := one_rd (w.alloc (.cells #[.int .i64 1] 3)) (-1) 3 (b := w.heap.size + 1) (by simp)
  have c1 : ((w.alloc (.cells #[.int .i64 1] 3)).alloc (.cells #[.int .i64 (-1)] 3)).cell? ⟨w.heap.size, 0, none⟩ = some (.int .i64 1) := al_old1 _ (al_new1 _ _ _)
  have B1 := bl_alloc (bl_alloc (Below.refl w.heap.size w) (.cells #[.int .i64 1] 3)) (.cells #[.int .i64 (-1)] 3)
  have z1 : ((w.alloc (.cells #[.int .i64 1] 3)).alloc (.cells #[.int .i64 (-1)] 3)).heap.size = w.heap.size + 2 := by simp
  go_enter Try.func28, Try.ntmps28
  go_wp2_with (go_at_call 82; refine (in_t _ _ _ _ (by omega) (by omega)).mono ?_; rintro e w' ⟨rfl, rfl⟩)
  refine (CREP.out _ _ _ R1).mono ?_
  rintro e w2 ⟨A2, rfl, hw2, b2⟩
  simp only [List.length_replicate]
  have hz2 := b2.size
  have c2 : w2.cell? ⟨w.heap.size, 0, none⟩ = some (.int .i64 1) := ((bcell b2).1 _ _ (by rw [z1]; omega)).trans c1
  have B2 := bl_go B1 b2
  obtain ⟨g, rfl, hg1, hg2, -⟩ := hw2.form (by simp)
  rw [z1] at hg1 hz2
  have S2 := crn_made (side := 1) (c := 1) (lo := w.heap.size) c2 (hw2.lower (by rw [z1]; omega)) (by simp) hg2 (by omega) (by omega)
  have c2' := c2
  clear R1 c1 B1 z1 CREP hw2 b2
  go_wp2_with fail
  have B3 := bl_alloc (bl_alloc (bl_alloc B2 (.cells #[.slice (some ⟨g, 0, none⟩) 1 1] 39)) (.cells #[.int .i64 0] 3)) (.cells #[.func (.func 84) #[] #[.pointer (some ⟨w2.heap.size + 1, 0, none⟩), .pointer (some ⟨w2.heap.size, 0, none⟩), .pointer (some ⟨w.heap.size, 0, none⟩), .pointer (some ⟨w2.heap.size + 1 + 1, 0, none⟩)]] 95)
  have S2' : CrnSt 1 1 g (w2.heap.size + 1) w2.heap.size w.heap.size (w2.heap.size + 1 + 1) w.heap.size (List.replicate 1 (-1)) 0 (((w2.alloc (.cells #[.slice (some ⟨g, 0, none⟩) 1 1] 39)).alloc (.cells #[.int .i64 0] 3)).alloc (.cells #[.func (.func 84) #[] #[.pointer (some ⟨w2.heap.size + 1, 0, none⟩), .pointer (some ⟨w2.heap.size, 0, none⟩), .pointer (some ⟨w.heap.size, 0, none⟩), .pointer (some ⟨w2.heap.size + 1 + 1, 0, none⟩)]] 95)) := S2
  clear S2 c2 c2' B2
  generalize (((w2.alloc (.cells #[.slice (some ⟨g, 0, none⟩) 1 1] 39)).alloc (.cells #[.int .i64 0] 3)).alloc (.cells #[.func (.func 84) #[] #[.pointer (some ⟨w2.heap.size + 1, 0, none⟩), .pointer (some ⟨w2.heap.size, 0, none⟩), .pointer (some ⟨w.heap.size, 0, none⟩), .pointer (some ⟨w2.heap.size + 1 + 1, 0, none⟩)]] 95)) = w3 at *
  have k1 := S2'.sd
  have k2 := S2'.wk
  have T3 := (two_drew (g := g) (b := w2.heap.size + 1) w3)
  have S3 : CrnSt 1 1 g (w2.heap.size + 1) w2.heap.size w.heap.size (w2.heap.size + 1 + 1) w.heap.size (List.replicate 1 (-1)) 0 w3.drew := S2'.two ⟨rfl, rfl, rfl, Nat.le_refl _, fun _ _ => rfl⟩
  go_still_tail 9, (by kernel_rfl)
  change wpList _ _ _ _ _ w3.drew
  have B4 := T3.far B3 (by omega) (by omega)
  generalize w3.drew = w4 at *
  clear T3 S2' k1 k2 B3
  go_wp2_with fail
  refine (CALL.out _ _ _ _ _ _ _ _ S3).mono ?_
  rintro e w5 ⟨rfl, ⟨m, -, -, S5⟩, T5⟩
  rw [VEQ.out] at S5
  have B5 := T5.far B4 (by omega) (by omega)
  have k1 := S5.fl
  go_wp2
  refine bodyPost_ret (v := .tuple #[.slice (some ⟨g, 0, none⟩) 1 1, .bool true]) (by simp [results, Try.results28, go_sem]) rfl ⟨some ⟨g, 0, none⟩, by rw [HL.out], S5.row, B5⟩
set_option maxRecDepth 100000 in
set_option maxHeartbeats 4000000 in
theorem iCorner_2 (cell : Nat) (hc : cell < 4) (w : World) :
    Calls Try.prog 28 #[.int .i64 2, .int .i64 cell] w (NewW2 (crnV 2 1 cell) true w) := by
  obtain ⟨gx, hgx⟩ : ∃ gx, cell % 2 = gx := ⟨_, rfl⟩
  obtain ⟨gy, hgy⟩ : ∃ gy, cell / 2 = gy := ⟨_, rfl⟩
  have CALL := Lib.hid (fun (z : World) (c g bn bf bs bk lo : Nat) (S : CrnSt 2 c g bn bf bs bk lo (List.replicate 4 (-1)) 0 z) =>
    (show Calls Try.prog 84 #[.int .i64 0, .int .i64 0, .int .i64 2, .agg #[.int .i64 gx, .int .i64 gy], .pointer (some ⟨bn, 0, none⟩), .pointer (some ⟨bf, 0, none⟩), .pointer (some ⟨bs, 0, none⟩), .pointer (some ⟨bk, 0, none⟩)] z _ from
      (crn_2_1_0_0 _ _ _ _ _ _ _) z (List.replicate 4 (-1)) 0 gx gy S (by omega) (by omega) (by decide)))
  have VEQ := Lib.hid (show (crnI 2 1 0 0 gx gy (List.replicate 4 (-1), ((0 : Nat) : Int))).1 = crnV 2 1 cell by unfold crnV; rw [hgx, hgy]; rfl)
  have HL := Lib.hid (show (crnV 2 1 cell).length = 4 from crn_len _ _ _ _ _ _ _ _)
  have e2 : ((cell : Int).tmod 2) = (gx : Int) := by rw [Int.tmod_eq_emod_of_nonneg (by omega)]; omega
  have e3 : ((cell : Int).tdiv 2) = (gy : Int) := by rw [Int.tdiv_eq_ediv_of_nonneg (by omega)]; omega
  have e4 : ((cell : Int) % 2) = (gx : Int) := by omega
  have e5 : ((cell : Int) / 2) = (gy : Int) := by omega
  clear hgx hgy
  have CREP := Lib.hid (fun (z : World) (A : Option Addr) (c : Nat) (R : Rd z A [.int .i64 (-1)]) => repeat_one A c (-1) 4 (by omega) (by omega) z R)
  have R1 := one_rd (w.alloc (.cells #[.int .i64 2] 3)) (-1) 3 (b := w.heap.size + 1) (by simp)
  have c1 : ((w.alloc (.cells #[.int .i64 2] 3)).alloc (.cells #[.int .i64 (-1)] 3)).cell? ⟨w.heap.size, 0, none⟩ = some (.int .i64 2) := al_old1 _ (al_new1 _ _ _)
  have B1 := bl_alloc (bl_alloc (Below.refl w.heap.size w) (.cells #[.int .i64 2] 3)) (.cells #[.int .i64 (-1)] 3)
  have z1 : ((w.alloc (.cells #[.int .i64 2] 3)).alloc (.cells #[.int .i64 (-1)] 3)).heap.size = w.heap.size + 2 := by simp
  go_enter Try.func28, Try.ntmps28
  go_wp2_with (go_at_call 82; refine (in_t _ _ _ _ (by omega) (by omega)).mono ?_; rintro e w' ⟨rfl, rfl⟩)
  refine (CREP.out _ _ _ R1).mono ?_
  rintro e w2 ⟨A2, rfl, hw2, b2⟩
  simp only [List.length_replicate]
  have hz2 := b2.size
  have c2 : w2.cell? ⟨w.heap.size, 0, none⟩ = some (.int .i64 2) := ((bcell b2).1 _ _ (by rw [z1]; omega)).trans c1
  have B2 := bl_go B1 b2
  obtain ⟨g, rfl, hg1, hg2, -⟩ := hw2.form (by simp)
  rw [z1] at hg1 hz2
  have S2 := crn_made (side := 2) (c := 4) (lo := w.heap.size) c2 (hw2.lower (by rw [z1]; omega)) (by simp) hg2 (by omega) (by omega)
  have c2' := c2
  clear R1 c1 B1 z1 CREP hw2 b2
  go_wp2_with fail
  have B3 := bl_alloc (bl_alloc (bl_alloc B2 (.cells #[.slice (some ⟨g, 0, none⟩) 4 4] 39)) (.cells #[.int .i64 0] 3)) (.cells #[.func (.func 84) #[] #[.pointer (some ⟨w2.heap.size + 1, 0, none⟩), .pointer (some ⟨w2.heap.size, 0, none⟩), .pointer (some ⟨w.heap.size, 0, none⟩), .pointer (some ⟨w2.heap.size + 1 + 1, 0, none⟩)]] 95)
  have S2' : CrnSt 2 4 g (w2.heap.size + 1) w2.heap.size w.heap.size (w2.heap.size + 1 + 1) w.heap.size (List.replicate 4 (-1)) 0 (((w2.alloc (.cells #[.slice (some ⟨g, 0, none⟩) 4 4] 39)).alloc (.cells #[.int .i64 0] 3)).alloc (.cells #[.func (.func 84) #[] #[.pointer (some ⟨w2.heap.size + 1, 0, none⟩), .pointer (some ⟨w2.heap.size, 0, none⟩), .pointer (some ⟨w.heap.size, 0, none⟩), .pointer (some ⟨w2.heap.size + 1 + 1, 0, none⟩)]] 95)) := S2
  clear S2 c2 c2' B2
  generalize (((w2.alloc (.cells #[.slice (some ⟨g, 0, none⟩) 4 4] 39)).alloc (.cells #[.int .i64 0] 3)).alloc (.cells #[.func (.func 84) #[] #[.pointer (some ⟨w2.heap.size + 1, 0, none⟩), .pointer (some ⟨w2.heap.size, 0, none⟩), .pointer (some ⟨w.heap.size, 0, none⟩), .pointer (some ⟨w2.heap.size + 1 + 1, 0, none⟩)]] 95)) = w3 at *
  have k1 := S2'.sd
  have k2 := S2'.wk
  have T3 := (two_drew (g := g) (b := w2.heap.size + 1) w3)
  have S3 : CrnSt 2 4 g (w2.heap.size + 1) w2.heap.size w.heap.size (w2.heap.size + 1 + 1) w.heap.size (List.replicate 4 (-1)) 0 w3.drew := S2'.two ⟨rfl, rfl, rfl, Nat.le_refl _, fun _ _ => rfl⟩
  go_still_tail 9, (by kernel_rfl)
  change wpList _ _ _ _ _ w3.drew
  have B4 := T3.far B3 (by omega) (by omega)
  generalize w3.drew = w4 at *
  clear T3 S2' k1 k2 B3
  go_wp2_with fail
  refine (CALL.out _ _ _ _ _ _ _ _ S3).mono ?_
  rintro e w5 ⟨rfl, ⟨m, -, -, S5⟩, T5⟩
  rw [VEQ.out] at S5
  have B5 := T5.far B4 (by omega) (by omega)
  have k1 := S5.fl
  go_wp2
  refine bodyPost_ret (v := .tuple #[.slice (some ⟨g, 0, none⟩) 4 4, .bool true]) (by simp [results, Try.results28, go_sem]) rfl ⟨some ⟨g, 0, none⟩, by rw [HL.out], S5.row, B5⟩
set_option maxRecDepth 100000 in
set_option maxHeartbeats 4000000 in
theorem iCorner_4 (cell : Nat) (hc : cell < 16) (w : World) :
    Calls Try.prog 28 #[.int .i64 4, .int .i64 cell] w (NewW2 (crnV 4 2 cell) true w) := by
  obtain ⟨gx, hgx⟩ : ∃ gx, cell % 4 = gx := ⟨_, rfl⟩
  obtain ⟨gy, hgy⟩ : ∃ gy, cell / 4 = gy := ⟨_, rfl⟩
  have CALL := Lib.hid (fun (z : World) (c g bn bf bs bk lo : Nat) (S : CrnSt 4 c g bn bf bs bk lo (List.replicate 16 (-1)) 0 z) =>
    (show Calls Try.prog 84 #[.int .i64 0, .int .i64 0, .int .i64 4, .agg #[.int .i64 gx, .int .i64 gy], .pointer (some ⟨bn, 0, none⟩), .pointer (some ⟨bf, 0, none⟩), .pointer (some ⟨bs, 0, none⟩), .pointer (some ⟨bk, 0, none⟩)] z _ from
      (crn_4_2_0_0 _ _ _ _ _ _ _) z (List.replicate 16 (-1)) 0 gx gy S (by omega) (by omega) (by decide)))
  have VEQ := Lib.hid (show (crnI 4 2 0 0 gx gy (List.replicate 16 (-1), ((0 : Nat) : Int))).1 = crnV 4 2 cell by unfold crnV; rw [hgx, hgy]; rfl)
  have HL := Lib.hid (show (crnV 4 2 cell).length = 16 from crn_len _ _ _ _ _ _ _ _)
  have e2 : ((cell : Int).tmod 4) = (gx : Int) := by rw [Int.tmod_eq_emod_of_nonneg (by omega)]; omega
  have e3 : ((cell : Int).tdiv 4) = (gy : Int) := by rw [Int.tdiv_eq_ediv_of_nonneg (by omega)]; omega
  have e4 : ((cell : Int) % 4) = (gx : Int) := by omega
  have e5 : ((cell : Int) / 4) = (gy : Int) := by omega
  clear hgx hgy
  have CREP := Lib.hid (fun (z : World) (A : Option Addr) (c : Nat) (R : Rd z A [.int .i64 (-1)]) => repeat_one A c (-1) 16 (by omega) (by omega) z R)
  have R1 := one_rd (w.alloc (.cells #[.int .i64 4] 3)) (-1) 3 (b := w.heap.size + 1) (by simp)
  have c1 : ((w.alloc (.cells #[.int .i64 4] 3)).alloc (.cells #[.int .i64 (-1)] 3)).cell? ⟨w.heap.size, 0, none⟩ = some (.int .i64 4) := al_old1 _ (al_new1 _ _ _)
  have B1 := bl_alloc (bl_alloc (Below.refl w.heap.size w) (.cells #[.int .i64 4] 3)) (.cells #[.int .i64 (-1)] 3)
  have z1 : ((w.alloc (.cells #[.int .i64 4] 3)).alloc (.cells #[.int .i64 (-1)] 3)).heap.size = w.heap.size + 2 := by simp
  go_enter Try.func28, Try.ntmps28
  go_wp2_with (go_at_call 82; refine (in_t _ _ _ _ (by omega) (by omega)).mono ?_; rintro e w' ⟨rfl, rfl⟩)
  refine (CREP.out _ _ _ R1).mono ?_
  rintro e w2 ⟨A2, rfl, hw2, b2⟩
  simp only [List.length_replicate]
  have hz2 := b2.size
  have c2 : w2.cell? ⟨w.heap.size, 0, none⟩ = some (.int .i64 4) := ((bcell b2).1 _ _ (by rw [z1]; omega)).trans c1
  have B2 := bl_go B1 b2
  obtain ⟨g, rfl, hg1, hg2, -⟩ := hw2.form (by simp)
  rw [z1] at hg1 hz2
  have S2 := crn_made (side := 4) (c := 16) (lo := w.heap.size) c2 (hw2.lower (by rw [z1]; omega)) (by simp) hg2 (by omega) (by omega)
  have c2' := c2
  clear R1 c1 B1 z1 CREP hw2 b2
  go_wp2_with fail
  have B3 := bl_alloc (bl_alloc (bl_alloc B2 (.cells #[.slice (some ⟨g, 0, none⟩) 16 16] 39)) (.cells #[.int .i64 0] 3)) (.cells #[.func (.func 84) #[] #[.pointer (some ⟨w2.heap.size + 1, 0, none⟩), .pointer (some ⟨w2.heap.size, 0, none⟩), .pointer (some ⟨w.heap.size, 0, none⟩), .pointer (some ⟨w2.heap.size + 1 + 1, 0, none⟩)]] 95)
  have S2' : CrnSt 4 16 g (w2.heap.size + 1) w2.heap.size w.heap.size (w2.heap.size + 1 + 1) w.heap.size (List.replicate 16 (-1)) 0 (((w2.alloc (.cells #[.slice (some ⟨g, 0, none⟩) 16 16] 39)).alloc (.cells #[.int .i64 0] 3)).alloc (.cells #[.func (.func 84) #[] #[.pointer (some ⟨w2.heap.size + 1, 0, none⟩), .pointer (some ⟨w2.heap.size, 0, none⟩), .pointer (some ⟨w.heap.size, 0, none⟩), .pointer (some ⟨w2.heap.size + 1 + 1, 0, none⟩)]] 95)) := S2
  clear S2 c2 c2' B2
  generalize (((w2.alloc (.cells #[.slice (some ⟨g, 0, none⟩) 16 16] 39)).alloc (.cells #[.int .i64 0] 3)).alloc (.cells #[.func (.func 84) #[] #[.pointer (some ⟨w2.heap.size + 1, 0, none⟩), .pointer (some ⟨w2.heap.size, 0, none⟩), .pointer (some ⟨w.heap.size, 0, none⟩), .pointer (some ⟨w2.heap.size + 1 + 1, 0, none⟩)]] 95)) = w3 at *
  have k1 := S2'.sd
  have k2 := S2'.wk
  have T3 := (two_drew (g := g) (b := w2.heap.size + 1) w3)
  have S3 : CrnSt 4 16 g (w2.heap.size + 1) w2.heap.size w.heap.size (w2.heap.size + 1 + 1) w.heap.size (List.replicate 16 (-1)) 0 w3.drew := S2'.two ⟨rfl, rfl, rfl, Nat.le_refl _, fun _ _ => rfl⟩
  go_still_tail 9, (by kernel_rfl)
  change wpList _ _ _ _ _ w3.drew
  have B4 := T3.far B3 (by omega) (by omega)
  generalize w3.drew = w4 at *
  clear T3 S2' k1 k2 B3
  go_wp2_with fail
  refine (CALL.out _ _ _ _ _ _ _ _ S3).mono ?_
  rintro e w5 ⟨rfl, ⟨m, -, -, S5⟩, T5⟩
  rw [VEQ.out] at S5
  have B5 := T5.far B4 (by omega) (by omega)
  have k1 := S5.fl
  go_wp2
  refine bodyPost_ret (v := .tuple #[.slice (some ⟨g, 0, none⟩) 16 16, .bool true]) (by simp [results, Try.results28, go_sem]) rfl ⟨some ⟨g, 0, none⟩, by rw [HL.out], S5.row, B5⟩
set_option maxHeartbeats 1000000 in
theorem iCorner_no (side cell : Int) (h : ¬ ((side = 1 ∨ side = 2 ∨ side = 4) ∧ 0 ≤ cell ∧ cell < side * side)) (hs1 : -9223372036854775808 ≤ side) (hs2 : side ≤ 9223372036854775807) (w : World) :
    Calls Try.prog 28 #[.int .i64 side, .int .i64 cell] w (NewW2 [] false w) := by
  have B1 := bl_alloc (Below.refl w.heap.size w) (.cells #[.int .i64 side] 3)
  have fin : NewW2 [] false w (.returned (.tuple #[.slice none 0 0, .bool false])) (w.alloc (.cells #[.int .i64 side] 3)) := ⟨none, rfl, Wr.none_ _ _ _, B1⟩
  have FIN := Lib.hid fin
  clear fin B1
  by_cases hs : side = 1 ∨ side = 2 ∨ side = 4
  · have hcell : cell < 0 ∨ side * side ≤ cell := by
      rcases Int.lt_or_le cell 0 with h1 | h1
      · exact .inl h1
      · rcases Int.lt_or_le cell (side * side) with h2 | h2
        · exact absurd ⟨hs, h1, h2⟩ h
        · exact .inr h2
    clear h
    rcases hs with rfl | rfl | rfl
    all_goals
      go_enter Try.func28, Try.ntmps28
      go_wp2_with (go_at_call 82; refine (in_f _ _ _ _ (by omega)).mono ?_; rintro e w' ⟨rfl, rfl⟩)
      exact bodyPost_ret (v := .tuple #[.slice none 0 0, .bool false]) (by simp [results, Try.results28, go_sem]) rfl FIN.out
  · have n1 : (side != 1) = true := by simp; omega
    have n2 : (side != 2) = true := by simp; omega
    have n4 : (side != 4) = true := by simp; omega
    clear h hs
    go_enter Try.func28, Try.ntmps28
    go_wp2
    exact bodyPost_ret (v := .tuple #[.slice none 0 0, .bool false]) (by simp [results, Try.results28, go_sem]) rfl FIN.out
end Go.Proofs.Ytnciemnlnijhfaa
