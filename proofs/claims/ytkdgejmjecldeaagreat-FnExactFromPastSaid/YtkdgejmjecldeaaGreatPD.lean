
/- FnExactFromPast: joined from Cells, CellMark, PuX, EFromPast. -/
import Derived.Test.YtkdgejmjecldeaaGreatBw
import Derived.Test.YtkdgejmjecldeaaGreatEq
import Derived.Test.YtkdgejmjecldeaaGreatOpen
import Derived.Deep.SlicePairs
import Derived.Test.YtkdgejmjecldeaaGreatCellApp
import Derived.Test.YtkdgejmjecldeaaGreatPA
import Derived.Test.YtkdgejmjecldeaaGreatPC
/- Contracts: copies, comparisons and sizes of lists of cells, as the laws make them; such an argument opened. -/
namespace Go.Proofs.YtkdgejmjecldeaaGreat
open Go.RowKit

/-- two cells more of a row -/
theorem set2_take (l : List Ce) (k : Nat) (h : k < l.length) :
    ((cellsV (l.take k) ++ List.replicate ((l.length - k) * 2) (Value.int .i64 0)).set (k * 2) (.int .i64 l[k].1)).set (k * 2 + 1) (.int .i64 l[k].2) = cellsV (l.take (k + 1)) ++ List.replicate ((l.length - (k + 1)) * 2) (Value.int .i64 0) := by
  have h1 : (cellsV (l.take k)).length = k * 2 := by rw [cellsV_len, List.length_take]; omega
  obtain ⟨m, hm⟩ : ∃ m, (l.length - k) * 2 = m + 1 + 1 := ⟨(l.length - k) * 2 - 2, by omega⟩
  have hm2 : (l.length - (k + 1)) * 2 = m := by omega
  rw [take_one_more l k h, cellsV_append, hm, hm2, List.replicate_succ, List.replicate_succ, List.set_append_right _ _ (by omega), h1, Nat.sub_self, List.set_cons_zero, List.set_append_right _ _ (by omega), h1,
    show k * 2 + 1 - k * 2 = 0 + 1 by omega, List.set_cons_succ, List.set_cons_zero, List.append_assoc]
  rfl
theorem zero_at (l : List Ce) (k : Nat) (h : k < l.length) :
    (cellsV (l.take k) ++ List.replicate ((l.length - k) * 2) (Value.int .i64 0))[k * 2]? = some (.int .i64 0) ∧ (cellsV (l.take k) ++ List.replicate ((l.length - k) * 2) (Value.int .i64 0))[k * 2 + 1]? = some (.int .i64 0) := by
  have h1 : (cellsV (l.take k)).length = k * 2 := by rw [cellsV_len, List.length_take]; omega
  rw [List.getElem?_append_right (by omega), List.getElem?_append_right (by omega), List.getElem?_replicate, List.getElem?_replicate, if_pos (by omega), if_pos (by omega)]
  exact ⟨rfl, rfl⟩
theorem made2 (n : Nat) : (madeCells #[Value.int .i64 0, .int .i64 0] (n * 2)).toList = cellsV [] ++ List.replicate (n * 2) (Value.int .i64 0) := by
  apply List.ext_getElem?
  intro j
  by_cases hj : j < n * 2
  · rcases Nat.mod_two_eq_zero_or_one j with h | h <;> simp [madeCells, hj, h, cellsV]
  · simp [madeCells, hj, cellsV]
end Go.Proofs.YtkdgejmjecldeaaGreat

/- Slices of cells that may be written: marks. -/
namespace Go.Proofs.YtkdgejmjecldeaaGreat
open Go.RowKit

theorem Wr.of_ownC {w : World} {lo : Nat} {e : TypeId} {A : Option Addr} {size n c : Nat} {xs : List Value} (h : w.ownsRow lo e size (.slice A n c) n xs) : Wr w lo e A xs := by
  refine ⟨fun ad ha => ?_, fun hne => ?_⟩
  · subst ha; exact (h.lt ad.block rfl).1
  have hl : xs.length = n * size := h.1
  rcases h.2 with ⟨_, h0⟩ | ⟨g, cap, cur, hv, hg, hh, _, _, _, ht⟩
  · subst h0; exact absurd (List.eq_nil_of_length_eq_zero (by simpa using hl)) hne
  · have hA : A = some ⟨g, 0, none⟩ := by injection hv
    exact ⟨g, cur, hA, hh, by rw [hl]; exact ht⟩
theorem set_grown (w : World) (g k : Nat) (u : Value) : w.grownBy (w.setCell ⟨g, k, none⟩ u) (some g) :=
  ⟨rfl, rfl, rfl, by simp [World.setCell], fun i _ hn => Below.heap_setCell _ _ _ _ (fun e => hn (by simp [e]))⟩
/-- a slice of cells that may be read -/
def NewRdC (ps : List Ce) (w : World) (e : Ending) (w' : World) : Prop :=
  ∃ (A : Option Addr) (c : Nat), e = .returned (.slice A ps.length c) ∧ RdC w' A ps ∧ Below w.heap.size w w' ∧ ∀ ad, A = some ad → w.heap.size ≤ ad.block
theorem own_ltS {w : World} {base e size n c : Nat} {A : Option Addr} {xs : List Value} (h : w.ownsRow base e size (.slice A n c) n xs) : ∀ ad, A = some ad → ad.block < w.heap.size := by
  rintro ad rfl; exact (h.lt ad.block rfl).2
end Go.Proofs.YtkdgejmjecldeaaGreat

/- Contracts: copies, comparisons, sizes and marks of lists of pushes, as the laws make them; such an argument opened. -/
namespace Go.Proofs.YtkdgejmjecldeaaGreat
open Go.RowKit

theorem Tryz.infoPu : (Tryz.prog.info? 31).map (fun i => (i.zero, i.size, i.bytes)) = some (some (.agg #[.int .i64 0, .bool false]), 2, 16) := by kernel_rfl
def OwnPu (w : World) (base : Nat) (v : Value) (ps : List Pu) : Prop :=
  ∃ (A : Option Addr) (c : Nat), v = .slice A ps.length c ∧ w.ownsRow base 31 2 v ps.length (pushV ps)
theorem OwnPu.belo {w w' : World} {base : Nat} {v : Value} {ps : List Pu} (h : OwnPu w base v ps) (hb : Below w.heap.size w w') : OwnPu w' base v ps := by
  obtain ⟨A, c, e, h⟩ := h; exact ⟨A, c, e, own_below h hb (Nat.le_refl _)⟩
theorem OwnPu.rd {w : World} {base n c : Nat} {A : Option Addr} {ps : List Pu} (h : OwnPu w base (.slice A n c) ps) : RdP w A ps := fun hne => by
  obtain ⟨A', c', e, h⟩ := h
  have hl := pushV_len ps
  have h0 : 0 < ps.length := by
    rcases Nat.eq_zero_or_pos ps.length with h0 | h0
    · exact absurd (List.eq_nil_of_length_eq_zero (by omega)) hne
    · exact h0
  obtain ⟨g, cap, hv, _, _⟩ := h.form h0
  have hA : A = some ⟨g, 0, none⟩ := by injection hv
  subst hA
  exact ⟨_, rfl, h.cells (g := g) rfl⟩
theorem pushV_set (xs ys : List Pu) (q u : Pu) : ((pushV (xs ++ q :: ys)).set (xs.length * 2) (.int .i64 u.1)).set (xs.length * 2 + 1) (.bool u.2) = pushV (xs ++ u :: ys) := by
  have h1 : (pushV xs).length = xs.length * 2 := pushV_len xs
  have e : ∀ q : Pu, pushV (q :: ys) = .int .i64 q.1 :: .bool q.2 :: pushV ys := fun q => rfl
  rw [pushV_append, pushV_append, e q, e u, List.set_append_right _ _ (by omega), h1, Nat.sub_self, List.set_cons_zero, List.set_append_right _ _ (by omega), h1, show xs.length * 2 + 1 - xs.length * 2 = 0 + 1 by omega, List.set_cons_succ, List.set_cons_zero]
theorem madeP (n : Nat) : (madeCells #[Value.int .i64 0, .bool false] (n * 2)).toList = pushV (List.replicate n (0, false)) := by
  apply List.ext_getElem?
  intro j
  by_cases hj : j < n * 2
  · have hk : j / 2 < (List.replicate n ((0, false) : Pu)).length := by simp; omega
    obtain ⟨g0, g1⟩ := pushV_get (List.replicate n ((0, false) : Pu)) (j / 2) hk
    rw [List.getElem_replicate] at g0 g1
    rcases Nat.mod_two_eq_zero_or_one j with h | h
    · rw [show j / 2 * 2 = j by omega] at g0
      rw [g0]
      simp [madeCells, hj, h]
    · rw [show j / 2 * 2 + 1 = j by omega] at g1
      rw [g1]
      simp [madeCells, hj, h]
  · have h2 : (pushV (List.replicate n ((0, false) : Pu)))[j]? = none := List.getElem?_eq_none (by rw [pushV_len]; simp; omega)
    rw [h2]
    simp [madeCells, hj]
set_option maxRecDepth 100000 in
theorem toPush_any (x : Int) (y : Bool) (w : World) : Calls Tryz.prog 64 #[.agg #[.int .i64 x, .bool y]] w fun e w' => e = .returned (.agg #[.int .i64 x, .bool y]) ∧ Below w.heap.size w w' := by
  go_enter Tryz.func64, Tryz.ntmps64
  go_wp2
  refine bodyPost_ret (v := .agg #[.int .i64 x, .bool y]) (by simp [results, Tryz.results64, go_sem]) rfl ⟨rfl, ?_⟩
  repeat (first | exact Below.refl _ _ | refine Below.setCell ?_ ?_ _ | refine Below.alloc ?_ ?_ _)
  all_goals (simp <;> omega)
theorem szPushS_t (A : Option Addr) (n c : Nat) (left : Int) (w : World) (h0 : left ≤ 1048576) (h : (n : Int) ≤ left) :
    Calls Tryz.prog 17 #[.slice A n c, .int .i64 left] w fun e w' => e = .returned (.int .i64 (left - n)) ∧ w = w' := by
  go_enter Tryz.func17, Tryz.ntmps17
  go_wp2
  go_ret
  exact ⟨rfl, rfl⟩
theorem szPushS_f (A : Option Addr) (n c : Nat) (left : Int) (w : World) (h0 : 0 ≤ left) (hn : n ≤ maxLen) (h : left < n) :
    Calls Tryz.prog 17 #[.slice A n c, .int .i64 left] w fun e w' => e = .returned (.int .i64 (-1)) ∧ w = w' := by
  unfold maxLen at hn
  go_enter Tryz.func17, Tryz.ntmps17
  go_wp2
  go_ret
  exact ⟨rfl, rfl⟩
theorem eqPush_t (a : Pu) (w : World) : Calls Tryz.prog 66 #[.agg #[.int .i64 a.1, .bool a.2], .agg #[.int .i64 a.1, .bool a.2]] w fun e w' => e = .returned (.bool true) ∧ Below w.heap.size w w' := by
  obtain ⟨x, y⟩ := a
  have hb : (y != y) = false := by simp
  go_enter Tryz.func66, Tryz.ntmps66
  go_wp2
  go_ret
  exact ⟨rfl, bl_alloc (bl_alloc (Below.refl _ _) _) _⟩
set_option maxRecDepth 100000 in
set_option maxHeartbeats 2000000 in
theorem toPushS_any (A : Option Addr) (c n : Nat) (ps : List Pu) (w : World) (hr : RdP w A ps) (hm : ps.length = n) (hn : n ≤ 10000000) :
    Calls Tryz.prog 20 #[.slice A n c] w fun e w' => ∃ A' : Option Addr, e = .returned (.slice A' n n) ∧ OwnPu w' w.heap.size (.slice A' n n) ps ∧ Below w.heap.size w w' := by
  obtain ⟨i0, hi, hz0, hz1, hz2⟩ := info_parts Tryz.infoPu
  have hb1 : i0.bytes * n ≤ 281474976710656 := by rw [hz2]; omega
  have HZ := Lib.hid (And.intro hz0 (And.intro hz1 hz2))
  have HM := Lib.hid hm
  clear hz0 hz1 hz2 hm
  go_enter Tryz.func20, Tryz.ntmps20
  go_wp2_with (at_make; refine wpList_make_full _ rfl _ _ 26 rfl w.heap.size 31 i0 (.agg #[.int .i64 0, .bool false]) 2 Tryz.underlying26 hi HZ.out.1 HZ.out.2.1 .i64 .i64 _ _ n rfl rfl rfl rfl hb1 (by unfold maxLen; omega) (Nat.le_refl _) ?_; intro w1 hown1 hgrow1)
  go_loopw [4] (fun i wr => ∃ k : Nat, k ≤ n ∧ i = .int .i64 k ∧ wr.ownsRow w.heap.size 31 2 (.slice (some ⟨w.heap.size, 0, none⟩) n n) n (pushV (ps.take k ++ List.replicate (n - k) (0, false))) ∧ Below w.heap.size w wr) (fun i _ => n - (intOf i).toNat)
  case atStart =>
    refine ⟨0, Nat.zero_le _, rfl, ?_, (Below.refl _ _).grown hgrow1 (Nat.le_refl _) (fun k hk => by cases hk)⟩
    rw [show (Value.agg #[.int .i64 0, .bool false]).cells = #[.int .i64 0, .bool false] from rfl, madeP] at hown1
    simpa using hown1
  case round =>
    clear hgrow1 hown1
    obtain ⟨k, hk, rfl, hown, hbel⟩ := hrel
    by_cases hlt : k < n
    · have hkp : k < ps.length := by rw [HM.out]; exact hlt
      obtain ⟨b, off, rfl, c0, c1⟩ := RdP.at_ (w := wr) (show RdP wr A ps from RdP.belo hr hbel) hkp
      have hkI : (k : Int) < (n : Int) := by omega
      obtain ⟨m, hnm⟩ : ∃ m, n - k = m + 1 := ⟨n - k - 1, by omega⟩
      have hlt2 : (ps.take k).length = k := by rw [List.length_take]; omega
      have HS := Lib.hid (pushV_set (ps.take k) (List.replicate m (0, false)) (0, false) ps[k])
      have HTK := Lib.hid (show ps.take k ++ ps[k] :: List.replicate m ((0, false) : Pu) = ps.take (k + 1) ++ List.replicate (n - (k + 1)) ((0, false) : Pu) by
        rw [take_one_more ps k hkp, List.append_assoc, show n - (k + 1) = m by omega]; rfl)
      rw [HTK.out, hlt2] at HS
      rw [hnm, List.replicate_succ] at hown
      have hzl : k < (ps.take k ++ ((0, false) : Pu) :: List.replicate m (0, false)).length := by rw [List.length_append, List.length_cons]; omega
      obtain ⟨z0, z1⟩ := pushV_get (ps.take k ++ ((0, false) : Pu) :: List.replicate m (0, false)) k hzl
      have hze : (ps.take k ++ ((0, false) : Pu) :: List.replicate m (0, false))[k] = (0, false) := by
        rw [List.getElem_append_right (by omega)]
        simp [hlt2]
      rw [hze] at z0 z1
      generalize ps[k] = q at *
      obtain ⟨x, y⟩ := q
      simp only at c0 c1 HS
      have HNM := Lib.hid hnm
      clear hze hnm HTK hlt2
      go_wp2_with (go_at_call 64; refine (toPush_any x y _).mono ?_; rintro e w3 ⟨rfl, b3⟩; have own3 := own_below hown b3 (Nat.le_refl _); have hf1 := own3.frozenAt (k * 2); have hf2 := own3.frozenAt (k * 2 + 1); have hc1 := (own3.cellAt (k * 2) (by omega)).trans z0; have hc2 := (own3.cellAt (k * 2 + 1) (by omega)).trans z1)
      go_roundw
      case rel =>
        refine ⟨k + 1, by omega, by go_num, ?_, ((hbel.trans (b3.mono hbel.size)).setCell (Nat.le_refl _) _).setCell (Nat.le_refl _) _⟩
        have h1 := ((own3.stored (k * 2) (.int .i64 x)).1.stored (k * 2 + 1) (.bool y)).1
        rw [HS.out] at h1
        exact h1
      case measure => simp [intOf]; omega
    · go_wp2_with fail
      go_ret
      obtain rfl : k = n := by omega
      have e : ps.take k ++ List.replicate (k - k) ((0, false) : Pu) = ps := by rw [Nat.sub_self, List.replicate_zero, List.append_nil, List.take_of_length_le (by rw [HM.out]; omega)]
      rw [e] at hown
      exact ⟨_, rfl, ⟨_, _, by rw [HM.out], by rw [HM.out]; exact hown⟩, hbel⟩
set_option maxHeartbeats 2000000 in
theorem eqPushS_t (A A' : Option Addr) (c c' n : Nat) (ps : List Pu) (w : World) (hr : RdP w A ps) (hr' : RdP w A' ps) (hm : ps.length = n) (hn : n ≤ maxLen) :
    Calls Tryz.prog 24 #[.slice A n c, .slice A' n c'] w fun e w' => e = .returned (.bool true) ∧ Below w.heap.size w w' := by
  unfold maxLen at hn
  have HM := Lib.hid hm
  clear hm
  have hnn : ((n : Int) != (n : Int)) = false := by simp
  go_enter Tryz.func24, Tryz.ntmps24
  go_wp2_with fail
  go_loopw [5] (fun i wr => ∃ k : Nat, k ≤ n ∧ i = .int .i64 k ∧ Below w.heap.size w wr) (fun i _ => n - (intOf i).toNat)
  case atStart => exact ⟨0, Nat.zero_le _, rfl, Below.refl _ _⟩
  case round =>
    obtain ⟨k, hk, rfl, hbel⟩ := hrel
    by_cases hlt : k < n
    · have hkp : k < ps.length := by rw [HM.out]; exact hlt
      obtain ⟨b, off, rfl, c0, c1⟩ := RdP.at_ (w := wr) (show RdP wr A ps from RdP.belo hr hbel) hkp
      obtain ⟨g, goff, rfl, d0, d1⟩ := RdP.at_ (w := wr) (show RdP wr A' ps from RdP.belo hr' hbel) hkp
      have hkI : (k : Int) < (n : Int) := by omega
      generalize ps[k] = q at c0 c1 d0 d1
      obtain ⟨x, y⟩ := q
      simp only at c0 c1 d0 d1
      have gs := World.block_lt_of_cell? wr _ c0
      have gt := World.block_lt_of_cell? wr _ d0
      simp only at gs gt
      have L0 : ∀ z : BW wr, z.wo.cell? ⟨b, off + k * 2, none⟩ = some (.int .i64 x) := fun z => z.cell gs c0
      have L1 : ∀ z : BW wr, z.wo.cell? ⟨b, off + k * 2 + 1, none⟩ = some (.bool y) := fun z => z.cell gs c1
      have L2 : ∀ z : BW wr, z.wo.cell? ⟨g, goff + k * 2, none⟩ = some (.int .i64 x) := fun z => z.cell gt d0
      have L3 : ∀ z : BW wr, z.wo.cell? ⟨g, goff + k * 2 + 1, none⟩ = some (.bool y) := fun z => z.cell gt d1
      go_wp2_with fail
      (refine region_bw (by kernel_rfl) (by kernel_rfl) ?_; (repeat (first | go_big_quiet_skip | (go_big_quiet_want; go_big_quiet_op; first | go_big_quiet_on | (refine ⟨.bool true, fun zz => ?_, ?_⟩; (go_at_call 66; exact zz.on (eqPush_t (x, y) _)); go_big_quiet_on)))); refine wpQuiet_nil ?_; intro wz hw'; obtain ⟨zw, hw''⟩ := hw'; subst hw'')
      go_wp2
      go_roundw
      case rel => exact ⟨k + 1, by omega, by go_num, bl_go hbel zw.ok⟩
      case measure => simp [intOf]; omega
    · go_wp2_with fail
      go_ret
      exact ⟨rfl, hbel⟩
set_option maxHeartbeats 2000000 in
theorem markPushS_any (A : Option Addr) (n c : Nat) (xs : List Value) (k : Int) (w : World) (lo : Nat) (h : Wr w lo 31 A xs) (hx : xs.length = n * 2) (hn : n ≤ 1000000000000) (k0 : 0 ≤ k) (k1 : k ≤ 1000000000000) :
    Calls Tryz.prog 26 #[.slice A n c, .int .i64 k] w fun e w' => e = .returned (.int .i64 (k + 2 * n)) ∧ w.grownBy w' (A.map (·.block)) := by
  have HX := Lib.hid hx
  clear hx
  go_enter Tryz.func26, Tryz.ntmps26
  go_wp2
  go_loopw [1, 5] (fun v i wr => ∃ (j : Nat) (ys : List Value), j ≤ n ∧ i = .int .i64 j ∧ v = .int .i64 (k + 2 * j) ∧ Hid (ys.length = n * 2) ∧ Wr wr lo 31 A ys ∧ w.grownBy wr (A.map (·.block))) (fun _ i _ => n - (intOf i).toNat)
  case atStart => exact ⟨0, xs, Nat.zero_le _, rfl, by go_num, HX, h, World.grownBy.refl _ _⟩
  case round =>
    obtain ⟨j, ys, hj, rfl, rfl, HY, hw, hg⟩ := hrel
    by_cases hlt : j < n
    · have hl := HY.out
      have hne : ys ≠ [] := by intro e; rw [e] at hl; simp at hl; omega
      obtain ⟨g, rfl, hlo, hgs, hfr⟩ := hw.form hne
      have hf := hfr (j * 2)
      have hf2 := hfr (j * 2 + 1)
      obtain ⟨ad, e, hc⟩ := hw.rd.at_ (k := j * 2) (by rw [hl]; omega)
      obtain ⟨ad2, e2, hcc⟩ := hw.rd.at_ (k := j * 2 + 1) (by rw [hl]; omega)
      have e' : ad = ⟨g, 0, none⟩ := by injection e with e; exact e.symm
      have e2' : ad2 = ⟨g, 0, none⟩ := by injection e2 with e; exact e.symm
      subst e'; subst e2'
      rw [add_off, Nat.zero_add] at hc hcc
      obtain ⟨ov, hc2⟩ : ∃ ov, wr.cell? ⟨g, j * 2, none⟩ = some ov := ⟨_, hc⟩
      obtain ⟨ov2, hc3⟩ : ∃ ov, wr.cell? ⟨g, j * 2 + 1, none⟩ = some ov := ⟨_, hcc⟩
      have hjI : (j : Int) < (n : Int) := by omega
      clear hfr e e2 hne hc hcc hl
      go_wp2
      refine ⟨⟨j + 1, _, by omega, by go_num, by go_num, ?_, (hw.store (j * 2) _).store (j * 2 + 1) _, grownBy_trans' (grownBy_trans' hg (set_grown _ g _ _)) (set_grown _ g _ _)⟩, by simp [intOf]; omega⟩
      exact Lib.hid (by rw [List.length_set, List.length_set]; exact HY.out)
    · go_wp2
      go_ret
      obtain rfl : j = n := by omega
      exact ⟨rfl, hg⟩
section
open Go.ChangeShapes Go.WideShapes Go.ChangeAt Go.RowKit Go.Deep
variable {H : Type} {enc : TypeId × Value → H} {w : World} {r : Reach} {b0 base : Nat} {v : Value} {d : DataW H} {p : List MemPlace} {held : Bool} {fuel : Nat} {cs : List Value} {x : DataW H × List MemPlace}
def boolOf : Value → Bool
  | .bool b => b
  | _ => false
set_option maxRecDepth 100000 in
theorem rd_pushes (h : DataW.trod enc Tryz.prog w 0 (fun _ => true) held fuel 36 cs = some x) :
    ∃ (A : Option Addr) (c : Nat) (ps : List Pu), cs = [.slice A ps.length c] ∧ ps.length ≤ maxLen ∧ ps.length ≤ c ∧ RdP w A ps := by
  rcases open_slice_pairs Tryz.underlying36 Tryz.underlying83 (by kernel_rfl) rfl rfl (by kernel_rfl) (by kernel_rfl) h with ⟨hcs, _⟩ | ⟨a, len, cap, m, k, V0, V1, D0, D1, P0, P1, hcs, _, hl, hm, hmm, hx, hall⟩
  · exact ⟨none, 0, [], by simpa using hcs, by simp, by simp, Rd.nil _ _⟩
  · have hmm' : m = cap := by simpa using hmm
    have hv : ∀ i, i < len → ∃ q : Pu, V0 i = .int .i64 q.1 ∧ V1 i = .bool q.2 := fun i hi => by
      obtain ⟨-, -, t0, t1⟩ := hall i (by omega)
      obtain ⟨n0, e0, -, -⟩ := DataW.trod_int Tryz.underlying3 t0
      obtain ⟨n1, e1, _⟩ := DataW.trod_bool Tryz.underlying4 t1
      simp only [List.cons.injEq, and_true] at e0 e1
      exact ⟨(n0, n1), e0, e1⟩
    have hlen : ((List.range len).map fun i => ((intOf (V0 i), boolOf (V1 i)) : Pu)).length = len := by simp
    refine ⟨some a, cap, (List.range len).map fun i => (intOf (V0 i), boolOf (V1 i)), by rw [hlen]; exact hcs, by rw [hlen]; omega, by rw [hlen]; exact hl, fun _ => ⟨a, rfl, fun j u hu => ?_⟩⟩
    have hj : j < len * 2 := by
      rcases Nat.lt_or_ge j (len * 2) with h1 | h1
      · exact h1
      · rw [List.getElem?_eq_none (by rw [pushV_len, hlen]; exact h1)] at hu; cases hu
    have hi : j / 2 < len := by omega
    obtain ⟨g0, g1⟩ := pushV_get ((List.range len).map fun i => ((intOf (V0 i), boolOf (V1 i)) : Pu)) (j / 2) (by rw [hlen]; exact hi)
    obtain ⟨q, e0, e1⟩ := hv _ hi
    obtain ⟨a0, a1, -, -⟩ := hall (j / 2) (by omega)
    rw [List.getElem_map, List.getElem_range] at g0 g1
    rw [e0] at a0 g0
    rw [e1] at a1 g1
    rcases Nat.mod_two_eq_zero_or_one j with hp | hp
    · have ej : j / 2 * 2 = j := by omega
      rw [ej] at a0 g0
      rw [a0, ← hu, g0]
      rfl
    · have ej : j / 2 * 2 + 1 = j := by omega
      rw [ej] at a1 g1
      rw [a1, ← hu, g1]
      rfl
set_option maxRecDepth 100000 in
/-- a slice of pushes that came in -/
theorem open_pushes (hv : Value.okWide Tryz.prog w r b0 36 v) (h : DataW.Trod enc Tryz.prog w 0 (fun _ => true) held 36 v d p) :
    ∃ (A : Option Addr) (c : Nat) (ps : List Pu), v = .slice A ps.length c ∧ ps.length ≤ maxLen ∧ ps.length ≤ c ∧ RdP w A ps := by
  obtain ⟨a0, len0, cap0, rfl⟩ := okWide_slice Tryz.underlying36 hv
  obtain ⟨fuel, hf⟩ := h
  obtain ⟨A, c, zs, hcs, h1, h2, h3⟩ := rd_pushes hf
  simp only [Value.cells, List.cons.injEq, Value.slice.injEq, and_true] at hcs
  obtain ⟨rfl, rfl, rfl⟩ := hcs
  exact ⟨_, _, zs, rfl, h1, h2, h3⟩
end
end Go.Proofs.YtkdgejmjecldeaaGreat

/- The walk of the law FnExactFromPast. -/
namespace Go.Proofs.YtkdgejmjecldeaaGreat
open Go.RowKit

theorem fromV_len (W T : Int) (bs : List Bool) (ps : List Pu) : (fromV W T bs ps).1.length ≤ bs.length := by
  rcases from_has (W := W) (T := T) (bs := bs) (ps := ps) with ⟨h, -⟩ | ⟨hp, hne, n, -, h, -⟩
  · rw [h]; simp
  · rw [h]
    have hs := (psv_iff.1 hp).1
    show (runL W T (lowT W T bs) (psN (sufP ps n))).length ≤ _
    rw [(tiling_til (run_til hs (psN (sufP ps n)) _ (low_hgt hs hne).1)).2.1]
    exact Nat.le_refl _
theorem FpP.num {n : Nat} {zs : List Int} {zk : Int} {zb : Bool} {w w' : World} {e : Ending} (h : FpP n (zs, zk, zb) w e w') :
    ∃ A : Option Addr, e = .returned (.tuple #[.slice A zs.length zs.length, .int .i64 zk, .bool zb]) ∧ Wr w' w.heap.size 3 A (zs.map (.int .i64)) ∧ Below w.heap.size w w' := by
  obtain ⟨hb, ⟨h1, g, he, hw, -, -, hl⟩ | ⟨h1, he⟩⟩ := h
  · simp only at h1 he hl hw
    exact ⟨some ⟨g, 0, none⟩, by rw [he, h1, hl], hw, hb⟩
  · injection h1 with h2 h3
    injection h3 with h3 h4
    subst h2; subst h3; subst h4
    exact ⟨none, he, ⟨fun ad h => (by cases h), fun h => absurd rfl h⟩, hb⟩
theorem FpS.num {n : Nat} {zs : List Int} {zk : Int} {zb : Bool} {w w' : World} {e : Ending} (h : FpS n (zs, zk, zb) w e w') :
    ∃ (A : Option Addr) (c : Nat), e = .returned (.tuple #[.slice A zs.length c, .int .i64 zk, .bool zb]) ∧ Rd w' A (zs.map (.int .i64)) ∧ Below w.heap.size w w' := by
  obtain ⟨hb, ⟨h1, D, d, he, hw, hl⟩ | ⟨h1, D, d, he⟩⟩ := h
  · simp only at h1 he hl hw
    exact ⟨D, d, by rw [he, h1, hl], hw, hb⟩
  · injection h1 with h2 h3
    injection h3 with h3 h4
    subst h2; subst h3; subst h4
    exact ⟨D, d, he, Rd.nil _ _, hb⟩
set_option maxRecDepth 100000 in
set_option maxHeartbeats 8000000 in
theorem fnExactFromPast_walk {w0 : World} (W T : Int) (A : Option Addr) (c : Nat) (bs : List Bool) (_wW : (Lit.int .i64 W).wf = true) (_wT : (Lit.int .i64 T).wf = true) (hn : bs.length ≤ maxLen) (hr : Rd w0 A (bs.map .bool)) (P : Option Addr) (cp : Nat) (ps : List Pu) (hm : ps.length ≤ maxLen) (_hcp : ps.length ≤ cp) (hp : RdP w0 P ps) :
    Calls Tryz.prog 5 #[.agg #[.int .i64 W, .int .i64 T, .slice A bs.length c], .slice P ps.length cp] w0 fun e w' => e = .returned (.bool true) ∧ Below w0.heap.size w0 w' := by
  clear _wW _wT _hcp
  have X00 := C3.new w0 (.int .i64 W) (.int .i64 T) (.slice A bs.length c) 35
  obtain ⟨x0, x1, x2⟩ := id X00
  by_cases hs : bs.length ≤ 1048576
  · have hs1 : (bs.length : Int) ≤ 1048576 := by omega
    have hlf : decide ((1048576 : Int) - (bs.length : Int) < 0) = false := by simp; omega
    by_cases hs2 : (ps.length : Int) ≤ 1048576 - (bs.length : Int)
    · have hlf2 : decide ((1048576 : Int) - (bs.length : Int) - (ps.length : Int) < 0) = false := by simp; omega
      have hpl : ps.length ≤ 1048576 := by omega
      have hXl := fromV_len W T bs ps
      have cS := fun (z : World) (A : Option Addr) (c : Nat) (P : Option Addr) (R : Rd z A (bs.map .bool)) (Q : RdP z P ps) => sFromPast_any W T A P c ps.length bs.length ps.length bs ps z R Q rfl hn rfl hm (Nat.le_refl _)
      have cI := fun (z : World) (A : Option Addr) (c : Nat) (P : Option Addr) (R : Rd z A (bs.map .bool)) (Q : RdP z P ps) => iFromPast_any W T A P c ps.length bs.length ps.length bs ps z R Q rfl hn rfl hm (Nat.le_refl _)
      obtain ⟨V, hV⟩ : ∃ V, fromV W T bs ps = V := ⟨_, rfl⟩
      rw [hV] at hXl
      simp only [hV] at cS cI
      clear hV
      obtain ⟨zs, zk, zb⟩ := V
      have CS := Lib.hid (fun z A c P R Q => (cS z A c P R Q).mono (fun _ _ h => h.num))
      have CI := Lib.hid (fun z A c P R Q => (cI z A c P R Q).mono (fun _ _ h => h.num))
      clear cS cI
      simp only at hXl
      have hXm : zs.length ≤ maxLen := by unfold maxLen; omega
      have hk1 : (zk != zk) = false := by simp
      have hb1 : (zb != zb) = false := by simp
      have hne : ((1 : Int) + (zs.length : Int) != 1 + (zs.length : Int)) = false := by simp
      have Z0 := Below.refl (w0.heap.size + 1) (w0.alloc (.cells #[.int .i64 W, .int .i64 T, .slice A bs.length c] 35))
      have s0 : w0.heap.size + 1 ≤ (w0.alloc (.cells #[.int .i64 W, .int .i64 T, .slice A bs.length c] 35)).heap.size := by simp
      go_enter Tryz.func5, Tryz.ntmps5
      go_wp2_with fail
      refine (szRegion_t _ _ _ _ _ _ _ (by omega) hs1).mono ?_
      rintro e w1 ⟨rfl, b1⟩
      have Z1 := bx_go Z0 b1 s0
      have s1 := Nat.le_trans s0 b1.size
      clear Z0 s0 b1 x0 x1 x2 X00
      obtain ⟨B1, X1⟩ := bx Z1
      obtain ⟨x0, x1, x2⟩ := id X1
      go_wp2_with (go_at_call 17; refine (szPushS_t _ _ _ _ _ (by omega) hs2).mono ?_; rintro e w' ⟨rfl, rfl⟩)
      refine (toRegion_any _ _ _ _ _ _ (hr.belo B1) (by omega)).mono ?_
      rintro e w2 ⟨A2, c2, rfl, o2, b2⟩
      have Z2 := bx_go Z1 b2 s1
      have s2 := Nat.le_trans s1 b2.size
      have S2 := Rd.own o2
      clear o2 b2 Z1 B1 x0 x1 x2 X1
      obtain ⟨B2, -⟩ := bx Z2
      go_wp2_with fail
      refine (toPushS_any _ _ _ ps _ (hp.belo B2) rfl (by omega)).mono ?_
      rintro e w3 ⟨A3, rfl, o3, b3⟩
      have Z3 := bx_go Z2 b3 s2
      have s3 := Nat.le_trans s2 b3.size
      have S3 := S2.belo b3
      have U3 := o3.rd
      clear o3 b3 Z2 B2 S2
      go_wp2_with fail
      refine (CS.out _ _ _ _ S3 U3).mono ?_
      rintro e w4 ⟨D4, d4, rfl, P4, b4⟩
      have Z4 := bx_go Z3 b4 s3
      have s4 := Nat.le_trans s3 b4.size
      clear S3 U3 b4 Z3
      obtain ⟨B4, X4⟩ := bx Z4
      obtain ⟨x0, x1, x2⟩ := id X4
      go_wp2_with fail
      refine (toRegion_any _ _ _ _ _ _ (hr.belo B4) (by omega)).mono ?_
      rintro e w5 ⟨A5, c5, rfl, o5, b5⟩
      have Z5 := bx_go Z4 b5 s4
      have s5 := Nat.le_trans s4 b5.size
      have Y5 := C3.new w5 (.int .i64 W) (.int .i64 T) (.slice A5 bs.length c5) 25
      have Q5 := Wr.of_own (own_base o5 (Nat.le_refl _))
      have l5 := own_lt o5
      have D5 := b5
      have d45 : w4.heap.size ≤ w5.heap.size := b5.size
      clear b5 o5 Z4 B4 x0 x1 x2 X4
      have BA := bl_alloc (Below.refl w5.heap.size w5) (.cells #[.int .i64 W, .int .i64 T, .slice A5 bs.length c5] 25)
      have Z5' := bx_go Z5 BA s5
      have D5' := bl_go D5 BA
      have Q5' := Q5.belo BA
      have sA : w5.heap.size + 1 ≤ (w5.alloc (.cells #[.int .i64 W, .int .i64 T, .slice A5 bs.length c5] 25)).heap.size := by simp
      obtain ⟨B5', -⟩ := bx Z5'
      have CTP := Lib.hid (toPushS_any P cp ps.length ps _ (hp.belo B5') rfl (by omega))
      clear Z5 D5 Q5 BA B5'
      go_wp2_with fail
      generalize w5.alloc (.cells #[.int .i64 W, .int .i64 T, .slice A5 bs.length c5] 25) = u5 at *
      have s5' : w0.heap.size + 1 ≤ u5.heap.size := by omega
      refine CTP.out.mono ?_
      rintro e w6 ⟨A6, rfl, o6, b6⟩
      have Z6 := bx_go Z5' b6 s5'
      have s6 := Nat.le_trans s5' b6.size
      have D6 := bl_go D5' b6
      have Y6 := Y5.belo b6
      have Q6 := Q5'.belo b6
      have u56 := b6.size
      obtain ⟨A6', c6', e6, o6'⟩ := id o6
      injection e6 with e6 _ e6c
      subst e6
      subst e6c
      have l6 := own_ltS o6'
      have U6 := Wr.of_ownC o6'
      have R6 := o6.rd
      clear Z5' D5' Q5' b6 o6 o6' CTP Y5
      obtain ⟨y0, y1, y2⟩ := id Y6
      go_wp2_with fail
      refine (CI.out _ _ _ _ Q6.rd R6).mono ?_
      rintro e w7 ⟨A7, rfl, G7, b7⟩
      have Z7 := bx_go Z6 b7 s6
      have s7 := Nat.le_trans s6 b7.size
      have D7 := bl_go D6 b7
      have Y7 := Y6.belo b7
      have Q7 := Q6.belo b7
      have U7 := U6.belo b7
      have P7 := P4.belo D7
      have u67 := b7.size
      clear Z6 D6 Y6 Q6 U6 R6 b7 y0 y1 y2
      go_wp2_with fail
      refine (eqIntS_t _ _ _ _ zs _ G7.rd P7 hXm).mono ?_
      rintro e w8 ⟨rfl, b8⟩
      have Z8 := bx_go Z7 b8 s7
      have s8 := Nat.le_trans s7 b8.size
      have D8 := bl_go D7 b8
      have Y8 := Y7.belo b8
      have Q8 := Q7.belo b8
      have U8 := U7.belo b8
      have G8 := G7.belo b8
      clear Z7 D7 Y7 Q7 U7 P7 G7 b8
      obtain ⟨B8, X8⟩ := bx Z8
      obtain ⟨x0, x1, x2⟩ := id X8
      obtain ⟨y0, y1, y2⟩ := id Y8
      have R8 := hr.belo B8
      have QR8 := Q8.rd
      go_wp2_with fail
      go_region_held3 (fun w' => (w'.cell? ⟨w0.heap.size, 0, none⟩ = some (.int .i64 W) ∧ w'.cell? ⟨w0.heap.size, 1, none⟩ = some (.int .i64 T) ∧ w'.cell? ⟨w0.heap.size, 2, none⟩ = some (.slice A bs.length c)) ∧
          (w'.cell? ⟨w5.heap.size, 0, none⟩ = some (.int .i64 W) ∧ w'.cell? ⟨w5.heap.size, 1, none⟩ = some (.int .i64 T) ∧ w'.cell? ⟨w5.heap.size, 2, none⟩ = some (.slice A5 bs.length c5)))
        (first | exact ⟨X10, Y10⟩ | exact ⟨X9, Y9⟩ | exact ⟨X8, Y8⟩ | go_keep)
        (first
          | (go_at_call 19; refine (toRegion_any _ _ _ _ _ _ R8.drew (by omega)).mono ?_; rintro e w9 ⟨A9, c9, rfl, o9, b9⟩; have X9 := X8.drew.belo b9; have Y9 := Y8.drew.belo b9; have S9 := Rd.own o9; have T9 := QR8.drew.belo b9)
          | (go_at_call 23; refine (eqRegion_t _ _ _ _ _ _ _ _ T9 S9 hn).mono ?_; rintro e w10 ⟨rfl, b10⟩; have X10 := X9.belo b10; have Y10 := Y9.belo b10; have b810 : Below w8.heap.size w8 w10 := bl_go (bl_go (Below.refl w8.heap.size w8).drew b9) b10))
      have Z10 := bx_go Z8 b810 s8
      have s10 := Nat.le_trans s8 b810.size
      have D10 := bl_go D8 b810
      have Q10 := Q8.belo b810
      have U10 := U8.belo b810
      have G10 := G8.belo b810
      clear b9 b10 b810 X8 Y8 Q8 U8 G8 D8 Z8 R8 QR8 x0 x1 x2 y0 y1 y2 X9 Y9 S9 T9 o9 X10 B8
      obtain ⟨B10, -⟩ := bx Z10
      go_wp2_with fail
      refine (toPushS_any _ _ _ ps _ (hp.belo B10) rfl (by omega)).mono ?_
      rintro e w11 ⟨A11, rfl, o11, b11⟩
      have Z11 := bx_go Z10 b11 s10
      have s11 := Nat.le_trans s10 b11.size
      have D11 := bl_go D10 b11
      have Y11 := Y10.belo b11
      have Q11 := Q10.belo b11
      have U11 := U10.belo b11
      have G11 := G10.belo b11
      have V11 := o11.rd
      clear Z10 D10 Y10 Q10 U10 G10 b11 o11 B10
      go_wp2_with fail
      refine (eqPushS_t _ _ _ _ _ ps _ U11.rd V11 rfl hm).mono ?_
      rintro e w12 ⟨rfl, b12⟩
      have Z12 := bx_go Z11 b12 s11
      have s12 := Nat.le_trans s11 b12.size
      have D12 := bl_go D11 b12
      have Y12 := Y11.belo b12
      have Q12 := Q11.belo b12
      have U12 := U11.belo b12
      have G12 := G11.belo b12
      clear Z11 D11 Y11 Q11 U11 G11 b12 V11
      obtain ⟨y0, y1, y2⟩ := id Y12
      go_wp2_with fail
      refine (markRegion_any _ _ _ _ _ _ _ _ _ Q12 (by simp) (by omega) (by omega) (by omega)).mono ?_
      rintro e w13 ⟨rfl, m13⟩
      have Z13 := marked_below Z12 m13 Q12 s4 s12
      have D13 := marked_below D12 m13 Q12 (Nat.le_refl _) D12.size
      have U13 := U12.elder m13 (fun ad h => by have := l5 ad h; omega)
      have G13 := G12.elder m13 (fun ad h => by have := l5 ad h; omega)
      have s13 := Nat.le_trans s12 m13.size
      clear Z12 D12 Y12 Q12 U12 G12 m13 y0 y1 y2
      go_wp2_with fail
      refine (markPushS_any _ _ _ _ _ _ _ U13 (by rw [pushV_len]) (by omega) (by omega) (by omega)).mono ?_
      rintro e w14 ⟨rfl, m14⟩
      have Z14 := marked_below Z13 m14 U13 s5' s13
      have D14 := marked_below D13 m14 U13 (by omega) D13.size
      have G14 := G13.elder m14 (fun ad h => by have := l6 ad h; omega)
      have s14 := Nat.le_trans s13 m14.size
      have P14 := P4.belo D14
      clear Z13 D13 U13 G13 m14
      have hkk : decide ((1 : Int) + (bs.length : Int) + 2 * (ps.length : Int) < 0) = false := decide_eq_false (by omega)
      go_wp2_with fail
      refine (eqIntS_t _ _ _ _ zs _ G14.rd P14 hXm).mono ?_
      rintro e w15 ⟨rfl, b15⟩
      have Z15 := bx_go Z14 b15 s14
      have s15 := Nat.le_trans s14 b15.size
      have D15 := bl_go D14 b15
      have G15 := G14.belo b15
      clear Z14 D14 G14 P14 b15
      go_wp2_with fail
      refine (markIntS_any _ _ zs 1 _ _ G15 (by omega) (by omega) (by omega)).mono ?_
      rintro e w16 ⟨rfl, G16, m16⟩
      have Z16 := marked_below Z15 m16 G15 (by omega) s15
      have D16 := marked_below D15 m16 G15 (by omega) D15.size
      have s16 := Nat.le_trans s15 m16.size
      have P16 := P4.belo D16
      clear Z15 D15 G15 m16
      obtain ⟨B16, X16⟩ := bx Z16
      obtain ⟨x0, x1, x2⟩ := id X16
      go_wp2_with fail
      refine (heldIntS_any _ _ _ 1 _ G16.rd (by omega) (by omega) (by omega)).mono ?_
      rintro e w' ⟨rfl, rfl⟩
      go_wp2_with fail
      refine (toRegion_any _ _ _ _ _ _ (hr.belo B16) (by omega)).mono ?_
      rintro e w17 ⟨A17, c17, rfl, o17, b17⟩
      have B17 := bl_go B16 b17
      have P17 := P16.belo b17
      have G17 := G16.rd.belo b17
      have S17 := Rd.own o17
      clear x0 x1 x2 X16 o17
      go_wp2_with fail
      refine (toPushS_any _ _ _ ps _ (hp.belo B17) rfl (by omega)).mono ?_
      rintro e w18 ⟨A18, rfl, o18, b18⟩
      have B18 := bl_go B17 b18
      have P18 := P17.belo b18
      have G18 := G17.belo b18
      have S18 := S17.belo b18
      have U18 := o18.rd
      clear B17 P17 G17 S17 o18 b18
      go_wp2_with fail
      refine (CI.out _ _ _ _ S18 U18).mono ?_
      rintro e w19 ⟨A19, rfl, G19, b19⟩
      have B19 := bl_go B18 b19
      have P19 := P18.belo b19
      have H19 := G18.belo b19
      clear B18 P18 G18 S18 U18 b19
      go_wp2_with fail
      refine (eqIntS_t _ _ _ _ zs _ G19.rd P19 hXm).mono ?_
      rintro e w20 ⟨rfl, b20⟩
      have B20 := bl_go B19 b20
      have H20 := H19.belo b20
      clear B19 P19 H19 G19 b20
      go_wp2_with fail
      refine (heldIntS_any _ _ _ 1 _ H20 (by omega) (by omega) (by omega)).mono ?_
      rintro e w' ⟨rfl, rfl⟩
      go_wp2
      go_ret
      exact ⟨rfl, B20⟩
    · have hs3 : (1048576 : Int) - (bs.length : Int) < (ps.length : Int) := by omega
      go_enter Tryz.func5, Tryz.ntmps5
      go_wp2_with fail
      refine (szRegion_t _ _ _ _ _ _ _ (by omega) hs1).mono ?_
      rintro e w1 ⟨rfl, b1⟩
      have B1 := bl_go ((Below.refl w0.heap.size w0).alloc (Nat.le_refl _) _) b1
      clear x0 x1 x2
      go_wp2_with (go_at_call 17; refine (szPushS_f _ _ _ _ _ (by omega) hm hs3).mono ?_; rintro e w' ⟨rfl, rfl⟩)
      go_ret
      exact ⟨rfl, B1⟩
  · have hs1 : (1048576 : Int) < bs.length := by omega
    go_enter Tryz.func5, Tryz.ntmps5
    go_wp2_with fail
    refine (szRegion_f _ _ _ _ _ _ _ (by omega) hn hs1).mono ?_
    rintro e w1 ⟨rfl, b1⟩
    have B1 := bl_go ((Below.refl w0.heap.size w0).alloc (Nat.le_refl _) _) b1
    go_wp2
    go_ret
    exact ⟨rfl, B1⟩
end Go.Proofs.YtkdgejmjecldeaaGreat
