
/- Contracts: boxes, the number of cells, and the fixed answer of the laws. -/
import Derived.Test.YtafmpgikdhlknaaGreatApp
namespace Go.Proofs.YtafmpgikdhlknaaGreat
open Go.RowKit

def cellsMany (W T : Int) (bs : List Bool) : Int := if validB W T bs = true then cnt bs else -1
set_option maxHeartbeats 1000000 in
theorem iCellsMany_any (W T : Int) (A : Option Addr) (c : Nat) (bs : List Bool) (w : World) (hr : Rd w A (bs.map .bool)) (hn : bs.length ≤ maxLen) :
    Calls Tryz.prog 31 #[.agg #[.int .i64 W, .int .i64 T, .slice A bs.length c]] w fun e w' => e = .returned (.int .i64 (cellsMany W T bs)) ∧ Below w.heap.size w w' := by
  have X0 := C3.new w (.int .i64 W) (.int .i64 T) (.slice A bs.length c) 25
  cases hv : validB W T bs with
  | true =>
    have HF := Lib.hid (show cnt bs = cellsMany W T bs by unfold cellsMany; rw [if_pos hv])
    go_enter Tryz.func31, Tryz.ntmps31
    go_wp2_with fail
    refine (iRegionValid_any _ _ _ _ _ _ (hr.alloc _) hn).mono ?_
    rintro e w1 ⟨rfl, b1⟩
    rw [hv]
    have B1 := bl_go (bl_alloc (Below.refl w.heap.size w) _) b1
    obtain ⟨x0, x1, x2⟩ := X0.belo b1
    go_wp2_with fail
    refine (many_any _ _ _ _ (hr.belo B1) hn).mono ?_
    rintro e w' ⟨rfl, rfl⟩
    go_wp2
    go_ret
    exact ⟨ret_i HF.out, B1⟩
  | false =>
    have HF := Lib.hid (show -1 = cellsMany W T bs by unfold cellsMany; rw [hv]; rfl)
    go_enter Tryz.func31, Tryz.ntmps31
    go_wp2_with fail
    refine (iRegionValid_any _ _ _ _ _ _ (hr.alloc _) hn).mono ?_
    rintro e w1 ⟨rfl, b1⟩
    rw [hv]
    have B1 := bl_go (bl_alloc (Below.refl w.heap.size w) _) b1
    go_wp2
    go_ret
    exact ⟨ret_i HF.out, B1⟩
/-- a new region, which may be written -/
def NewRW (W T : Int) (bs : List Bool) (w : World) (e : Ending) (w' : World) : Prop :=
  ∃ (A : Option Addr) (c : Nat), e = .returned (.agg #[.int .i64 W, .int .i64 T, .slice A bs.length c]) ∧ Wr w' w.heap.size 4 A (bs.map .bool) ∧ Below w.heap.size w w'
theorem C3.set {w : World} {b : Nat} {x y z : Value} (h : C3 w b x y z) {p : Addr} (hp : p.block ≠ b) (u : Value) : C3 (w.setCell p u) b x y z := by
  have hk : ∀ i, (w.setCell p u).cell? ⟨b, i, none⟩ = w.cell? ⟨b, i, none⟩ := fun i => World.cell?_setCell_other w p _ u (fun e => hp (by rw [e]))
  exact ⟨(hk 0).trans h.1, (hk 1).trans h.2.1, (hk 2).trans h.2.2⟩
theorem blk3 {w : World} {b : Nat} {x y z : Value} {t : TypeId} (h : w.heap[b]? = some (.cells #[x, y, z] t (0, 0))) :
    w.cell? ⟨b, 0, none⟩ = some x ∧ w.cell? ⟨b, 1, none⟩ = some y ∧ w.cell? ⟨b, 2, none⟩ = some z ∧ w.frozen? ⟨b, 0, none⟩ = false ∧ w.frozen? ⟨b, 1, none⟩ = false ∧ w.frozen? ⟨b, 2, none⟩ = false :=
  ⟨cell_of_row _ _ _ _ _ _ h, cell_of_row _ _ _ _ _ _ h, cell_of_row _ _ _ _ _ _ h, frozen_of_row _ _ _ _ _ h, frozen_of_row _ _ _ _ _ h, frozen_of_row _ _ _ _ _ h⟩
set_option maxRecDepth 100000 in
set_option maxHeartbeats 1000000 in
theorem field_big (W T : Int) (n : Nat) (w : World) (h1 : 0 ≤ W) (h2 : W ≤ 40) (h3 : 0 ≤ T) (h4 : T ≤ 40) (hn : W * T = (n : Int)) :
    Calls Tryz.prog 75 #[.int .i64 W, .int .i64 T] w (NewRW W T (List.replicate n false) w) := by
  obtain ⟨m1, m2⟩ := (show 0 ≤ W * T ∧ W * T ≤ 1600 from ⟨Int.mul_nonneg h1 h3, by have := Int.mul_le_mul h2 h4 h3 (by omega); omega⟩)
  obtain ⟨i0, hi, hz0, hz1, hz2⟩ := info_parts Tryz.infoB
  have hb1 : i0.bytes * n ≤ 281474976710656 := by rw [hz2]; omega
  have HZ := Lib.hid (And.intro hz0 (And.intro hz1 hz2))
  clear hz0 hz1 hz2
  have hn36 : n ≤ 1600 := by omega
  have HN := Lib.hid hn
  clear hn
  go_enter Tryz.func75, Tryz.ntmps75
  go_wp2_with (at_make; refine wpList_make_full _ rfl _ _ 23 rfl (w.heap.size + 1) 4 i0 (.bool false) 1 Tryz.underlying23 hi HZ.out.1 HZ.out.2.1 .i64 .i64 _ _ n rfl rfl HN.out HN.out hb1 (by unfold maxLen; omega) (by simp) ?_; intro w1 hown1 hgrow1; obtain ⟨g0, g1, g2, f0, f1, f2⟩ := blk3 ((hgrow1.block w.heap.size (by simp) (by simp)).trans (heap_alloc_new w _)))
  refine bodyPost_ret (v := .agg #[.int .i64 W, .int .i64 T, .slice (some ⟨w.heap.size + 1, 0, none⟩) n n]) (by simp [results, Tryz.results75, go_sem, g0, g1, g2]) rfl ⟨some ⟨w.heap.size + 1, 0, none⟩, n, by simp, ?_, ?_⟩
  · have h0 := Wr.of_own (ownsRow_setCell_below (ownsRow_setCell_below (ownsRow_setCell_below hown1 (a := ⟨w.heap.size, 0, none⟩) (by simp) (.int .i64 W)) (a := ⟨w.heap.size, 1, none⟩) (by simp) (.int .i64 T)) (a := ⟨w.heap.size, 2, none⟩) (by simp) (.slice (some ⟨w.heap.size + 1, 0, none⟩) n n))
    rw [show (Value.bool false).cells = #[.bool false] from rfl, toList_madeCells_one] at h0
    simpa using h0.lower (lo' := w.heap.size) (by omega)
  · exact (((((Below.refl _ _).alloc (Nat.le_refl _) _).grown hgrow1 (by simp) (fun k hk => by cases hk)).setCell (Nat.le_refl _) _).setCell (Nat.le_refl _) _).setCell (Nat.le_refl _) _
theorem field_any (W T : Int) (n : Nat) (w : World) (h1 : 0 ≤ W) (h2 : W ≤ 6) (h3 : 0 ≤ T) (h4 : T ≤ 6) (hn : W * T = (n : Int)) :
    Calls Tryz.prog 75 #[.int .i64 W, .int .i64 T] w (NewRW W T (List.replicate n false) w) := field_big W T n w h1 (by omega) h3 (by omega) hn
/-- the sides of a box -/
def boxOk (W T : Int) : Bool := decide ((1 ≤ W ∧ W ≤ 6) ∧ (1 ≤ T ∧ T ≤ 6) ∧ W * T ≤ 24)
def boxed (l : List Bool) (k : Nat) : List Bool := List.replicate k true ++ l.drop k
theorem boxed_step (l : List Bool) (k : Nat) (h : k < l.length) : ((boxed l k).map Value.bool).set k (.bool true) = (boxed l (k + 1)).map .bool := by
  unfold boxed
  rw [List.map_append, List.map_append, List.set_append_right _ _ (by simp)]
  simp only [List.length_map, List.length_replicate, Nat.sub_self]
  rw [List.drop_eq_getElem_cons h, List.map_cons, List.set_cons_zero, List.replicate_succ']
  simp
theorem boxed_len (l : List Bool) (k : Nat) (h : k ≤ l.length) : (boxed l k).length = l.length := by simp [boxed]; omega
set_option maxRecDepth 100000 in
set_option maxHeartbeats 1000000 in
theorem iRegionBox_ok (W T : Int) (n : Nat) (w : World) (h1 : 1 ≤ W) (h2 : W ≤ 6) (h3 : 1 ≤ T) (h4 : T ≤ 6) (hn : W * T = (n : Int)) (h5 : W * T ≤ 24) :
    Calls Tryz.prog 32 #[.int .i64 W, .int .i64 T] w (NewRW W T (List.replicate n true) w) := by
  obtain ⟨m1, m2⟩ := mul_bd h1 h2 h3 h4
  have hn24 : n ≤ 24 := by omega
  have FD := Lib.hid (fun w => field_any W T n w (by omega) h2 (by omega) h4 hn)
  clear hn
  go_enter Tryz.func32, Tryz.ntmps32
  go_wp2_with (first | (go_at_call 42; refine (in_t _ _ _ _ (by omega) (by omega)).mono ?_; rintro e w' ⟨rfl, rfl⟩))
  refine (FD.out _).mono ?_
  rintro e w1 ⟨A, c, rfl, hw, hb⟩
  simp only [List.length_replicate]
  have hdec : decide (24 < W * T) = false := by simp; omega
  have hl : (List.replicate n false).length = n := by simp
  generalize List.replicate n false = fs at hw hl
  have HL := Lib.hid hl
  clear hl
  have Y1 := C3.new w1 (.int .i64 W) (.int .i64 T) (.slice A n c) 25
  have Z1 := hb.alloc hb.size (.cells #[.int .i64 W, .int .i64 T, .slice A n c] 25)
  have Q1 := hw.belo (bl_alloc (Below.refl _ _) (.cells #[.int .i64 W, .int .i64 T, .slice A n c] 25))
  have hA : ∀ ad, A = some ad → fs ≠ [] → ad.block < w1.heap.size := fun ad ha hne => hw.rd.lt ha (by simpa using hne)
  have hsz := hb.size
  simp at hsz
  clear hb hw
  go_wp2_with fail
  clear hdec
  go_loopw [28] (fun i wr => ∃ k : Nat, k ≤ n ∧ i = .int .i64 k ∧ Wr wr (w.heap.size + 1) 4 A ((boxed fs k).map .bool) ∧ Below (w.alloc (.cells #[.int .i64 0, .int .i64 0, .slice none 0 0] 25)).heap.size (w.alloc (.cells #[.int .i64 0, .int .i64 0, .slice none 0 0] 25)) wr ∧ C3 wr w1.heap.size (.int .i64 W) (.int .i64 T) (.slice A n c)) (fun i _ => n - (intOf i).toNat)
  case atStart => exact ⟨0, Nat.zero_le _, rfl, by simpa [boxed] using Q1, Z1, Y1⟩
  case round =>
    clear Q1 Z1 Y1
    obtain ⟨k, hk, rfl, Q1, Z1, Y1⟩ := hrel
    by_cases hlt : k < n
    · have hl2 := (boxed_len fs k (by rw [HL.out]; omega)).trans HL.out
      have hne : (boxed fs k).map Value.bool ≠ [] := by intro e; simp at e; rw [e] at hl2; simp at hl2; omega
      obtain ⟨g, rfl, hlo, hgs, hfr⟩ := Q1.form hne
      have hf := hfr k
      obtain ⟨ad, e, hc⟩ := Q1.rd.at_ (k := k) (by rw [List.length_map, hl2]; exact hlt)
      have e' : ad = ⟨g, 0, none⟩ := by injection e with e; exact e.symm
      subst e'
      have ha : (⟨g, 0, none⟩ : Addr).add k = ⟨g, k, none⟩ := by unfold Addr.add; split <;> simp_all
      rw [ha] at hc
      obtain ⟨ov, hc2⟩ : ∃ ov, wr.cell? ⟨g, k, none⟩ = some ov := ⟨_, hc⟩
      have hgw : g < w1.heap.size := hA _ rfl (by intro e; have := HL.out; rw [e] at this; simp at this; omega)
      clear hfr e ha hne hc hl2
      obtain ⟨y0, y1, y2⟩ := id Y1
      go_wp2_with fail
      refine ⟨⟨k + 1, by omega, by go_num, ?_, Z1.setCell (by simpa using hlo) _, Y1.set (by simp; omega) _⟩, by simp [intOf]; omega⟩
      rw [← boxed_step fs k (by rw [HL.out]; exact hlt)]
      exact Q1.store k _
    · obtain rfl : k = n := by omega
      obtain ⟨y0, y1, y2⟩ := id Y1
      obtain ⟨g0, g1, g2, f0, f1, f2⟩ := blk3 ((Z1.block w.heap.size (by simp)).trans (heap_alloc_new w _))
      have hfin : boxed fs k = List.replicate k true := by unfold boxed; rw [List.drop_of_length_le (by rw [HL.out]; omega)]; simp
      rw [hfin] at Q1
      go_wp2_with fail
      refine bodyPost_ret (v := .agg #[.int .i64 W, .int .i64 T, .slice A k c]) (by simp [results, Tryz.results32, go_sem, g0, g1, g2]) rfl ⟨A, c, by simp, ?_, ?_⟩
      · refine (Q1.lower (lo' := w.heap.size) (by omega)).keep fun g hg hg2 => ?_
        have hlo := Q1.1 _ hg
        simp only at hlo
        rw [Below.heap_setCell _ _ _ _ (by simp; omega), Below.heap_setCell _ _ _ _ (by simp; omega), Below.heap_setCell _ _ _ _ (by simp; omega)]
      · exact ((((Below.refl w.heap.size w).alloc (Nat.le_refl _) _).trans (Z1.mono (by simp))).setCell (Nat.le_refl _) _ |>.setCell (Nat.le_refl _) _).setCell (Nat.le_refl _) _
set_option maxHeartbeats 1000000 in
theorem alive_any (w : World) : Calls Tryz.prog 10 #[] w fun e w' => e = .returned (.bool true) ∧ Below w.heap.size w w' := by
  have HB := Lib.hid (fun w => iRegionBox_ok 2 3 6 w (by omega) (by omega) (by omega) (by omega) (by omega) (by omega))
  have HC := Lib.hid (show cellsMany 2 3 (List.replicate 6 true) = 6 by decide)
  have HM := Lib.hid (show (List.replicate 6 true).length ≤ maxLen by unfold maxLen; simp)
  go_enter Tryz.func10, Tryz.ntmps10
  go_wp2_with fail
  refine (HB.out _).mono ?_
  rintro e w1 ⟨A, c, rfl, hw, hb⟩
  go_wp2_with fail
  refine (iCellsMany_any 2 3 A c (List.replicate 6 true) _ hw.rd HM.out).mono ?_
  rintro e w2 ⟨rfl, hb2⟩
  rw [HC.out]
  go_wp2
  go_ret
  exact ⟨rfl, bl_go hb hb2⟩
end Go.Proofs.YtafmpgikdhlknaaGreat
