
/- Contracts: copies, comparisons and sizes of lists of cells, as the laws make them; such an argument opened. -/
import Derived.Test.YtejkbjcmndnfeaaGreatBw
import Derived.Test.YtejkbjcmndnfeaaGreatEq
import Derived.Test.YtejkbjcmndnfeaaGreatOpen
import Derived.Deep.SlicePairs
namespace Go.Proofs.YtejkbjcmndnfeaaGreat
open Go.RowKit

set_option maxRecDepth 100000 in
theorem toCell_any (x y : Int) (w : World) : Calls Tryz.prog 156 #[.agg #[.int .i64 x, .int .i64 y]] w fun e w' => e = .returned (.agg #[.int .i64 x, .int .i64 y]) ∧ Below w.heap.size w w' := by
  go_enter Tryz.func156, Tryz.ntmps156
  go_wp2
  refine bodyPost_ret (v := .agg #[.int .i64 x, .int .i64 y]) (by simp [results, Tryz.results156, go_sem]) rfl ⟨rfl, ?_⟩
  repeat (first | exact Below.refl _ _ | refine Below.setCell ?_ ?_ _ | refine Below.alloc ?_ ?_ _)
  all_goals (simp <;> omega)
theorem szCellS_t (A : Option Addr) (n c : Nat) (left : Int) (w : World) (h0 : left ≤ 1048576) (h : (n : Int) ≤ left) :
    Calls Tryz.prog 81 #[.slice A n c, .int .i64 left] w fun e w' => e = .returned (.int .i64 (left - n)) ∧ w = w' := by
  go_enter Tryz.func81, Tryz.ntmps81
  go_wp2
  go_ret
  exact ⟨rfl, rfl⟩
theorem szCellS_f (A : Option Addr) (n c : Nat) (left : Int) (w : World) (h0 : 0 ≤ left) (hn : n ≤ maxLen) (h : left < n) :
    Calls Tryz.prog 81 #[.slice A n c, .int .i64 left] w fun e w' => e = .returned (.int .i64 (-1)) ∧ w = w' := by
  unfold maxLen at hn
  go_enter Tryz.func81, Tryz.ntmps81
  go_wp2
  go_ret
  exact ⟨rfl, rfl⟩
theorem eqCell_t (a : Ce) (w : World) : Calls Tryz.prog 157 #[.agg #[.int .i64 a.1, .int .i64 a.2], .agg #[.int .i64 a.1, .int .i64 a.2]] w fun e w' => e = .returned (.bool true) ∧ Below w.heap.size w w' := by
  obtain ⟨x, y⟩ := a
  go_enter Tryz.func157, Tryz.ntmps157
  go_wp2
  go_ret
  exact ⟨rfl, bl_alloc (bl_alloc (Below.refl _ _) _) _⟩
/-- two cells more of a row -/
theorem set2_take (l : List Ce) (k : Nat) (h : k < l.length) :
    ((cellsV (l.take k) ++ List.replicate ((l.length - k) * 2) (Value.int .i64 0)).set (k * 2) (.int .i64 l[k].1)).set (k * 2 + 1) (.int .i64 l[k].2) = cellsV (l.take (k + 1)) ++ List.replicate ((l.length - (k + 1)) * 2) (Value.int .i64 0) := by
  have h1 : (cellsV (l.take k)).length = k * 2 := by rw [cellsV_len, List.length_take]; omega
  obtain ⟨m, hm⟩ : ∃ m, (l.length - k) * 2 = m + 1 + 1 := ⟨(l.length - k) * 2 - 2, by omega⟩
  have hm2 : (l.length - (k + 1)) * 2 = m := by omega
  rw [take_one_more l k h, cellsV_append, hm, hm2, List.replicate_succ, List.replicate_succ, List.set_append_right _ _ (by omega), h1, Nat.sub_self, List.set_cons_zero, List.set_append_right _ _ (by omega), h1,
    show k * 2 + 1 - k * 2 = 0 + 1 by omega, List.set_cons_succ, List.set_cons_zero, List.append_assoc]
  rfl
theorem zero_at (l : List Ce) (k : Nat) (h : k < l.length) :
    (cellsV (l.take k) ++ List.replicate ((l.length - k) * 2) (Value.int .i64 0))[k * 2]? = some (.int .i64 0) ∧ (cellsV (l.take k) ++ List.replicate ((l.length - k) * 2) (Value.int .i64 0))[k * 2 + 1]? = some (.int .i64 0) := by
  have h1 : (cellsV (l.take k)).length = k * 2 := by rw [cellsV_len, List.length_take]; omega
  rw [List.getElem?_append_right (by omega), List.getElem?_append_right (by omega), List.getElem?_replicate, List.getElem?_replicate, if_pos (by omega), if_pos (by omega)]
  exact ⟨rfl, rfl⟩
theorem made2 (n : Nat) : (madeCells #[Value.int .i64 0, .int .i64 0] (n * 2)).toList = cellsV [] ++ List.replicate (n * 2) (Value.int .i64 0) := by
  apply List.ext_getElem?
  intro j
  by_cases hj : j < n * 2
  · rcases Nat.mod_two_eq_zero_or_one j with h | h <;> simp [madeCells, hj, h, cellsV]
  · simp [madeCells, hj, cellsV]
set_option maxRecDepth 100000 in
set_option maxHeartbeats 2000000 in
theorem toCellS_any (A : Option Addr) (c : Nat) (ps : List Ce) (w : World) (hr : RdC w A ps) (hn : ps.length ≤ 10000000) :
    Calls Tryz.prog 84 #[.slice A ps.length c] w fun e w' => ∃ A' : Option Addr, e = .returned (.slice A' ps.length ps.length) ∧ OwnC w' w.heap.size (.slice A' ps.length ps.length) ps ∧ Below w.heap.size w w' := by
  obtain ⟨i0, hi, hz0, hz1, hz2⟩ := info_parts Tryz.infoC
  have hb1 : i0.bytes * ps.length ≤ 281474976710656 := by rw [hz2]; omega
  have HZ := Lib.hid (And.intro hz0 (And.intro hz1 hz2))
  go_enter Tryz.func84, Tryz.ntmps84
  go_wp2_with (at_make; refine wpList_make_full _ rfl _ _ 32 rfl w.heap.size 89 i0 (.agg #[.int .i64 0, .int .i64 0]) 2 Tryz.underlying32 hi HZ.out.1 HZ.out.2.1 .i64 .i64 _ _ ps.length rfl rfl rfl rfl hb1 (by unfold maxLen; omega) (Nat.le_refl _) ?_; intro w1 hown1 hgrow1)
  go_loopw [4] (fun i wr => ∃ k : Nat, k ≤ ps.length ∧ i = .int .i64 k ∧ wr.ownsRow w.heap.size 89 2 (.slice (some ⟨w.heap.size, 0, none⟩) ps.length ps.length) ps.length (cellsV (ps.take k) ++ List.replicate ((ps.length - k) * 2) (.int .i64 0)) ∧ Below w.heap.size w wr) (fun i _ => ps.length - (intOf i).toNat)
  case atStart =>
    refine ⟨0, Nat.zero_le _, rfl, ?_, (Below.refl _ _).grown hgrow1 (Nat.le_refl _) (fun k hk => by cases hk)⟩
    rw [show (Value.agg #[.int .i64 0, .int .i64 0]).cells = #[.int .i64 0, .int .i64 0] from rfl, made2] at hown1
    exact hown1
  case round =>
    clear hgrow1 hown1
    obtain ⟨k, hk, rfl, hown, hbel⟩ := hrel
    by_cases hlt : k < ps.length
    · obtain ⟨b, off, rfl, c0, c1⟩ := RdC.at_ (w := wr) (show RdC wr A ps from hr.belo hbel) hlt
      obtain ⟨q, hq⟩ : ∃ q, ps[k] = q := ⟨_, rfl⟩
      have HQ := Lib.hid hq
      rw [hq] at c0 c1
      clear hq
      obtain ⟨x, y⟩ := q
      simp only at c0 c1
      go_wp2_with (go_at_call 156; refine (toCell_any x y _).mono ?_; rintro e w3 ⟨rfl, b3⟩; have own3 := own_below hown b3 (Nat.le_refl _); have hf1 := own3.frozenAt (k * 2); have hf2 := own3.frozenAt (k * 2 + 1); have hc1 := (own3.cellAt (k * 2) (by omega)).trans (zero_at ps k hlt).1; have hc2 := (own3.cellAt (k * 2 + 1) (by omega)).trans (zero_at ps k hlt).2)
      go_roundw
      case rel =>
        refine ⟨k + 1, by omega, by go_num, ?_, ((hbel.trans (b3.mono hbel.size)).setCell (Nat.le_refl _) _).setCell (Nat.le_refl _) _⟩
        have h1 := ((own3.stored (k * 2) (.int .i64 x)).1.stored (k * 2 + 1) (.int .i64 y)).1
        have h2 := set2_take ps k hlt
        rw [HQ.out] at h2
        rw [h2] at h1
        exact h1
      case measure => simp [intOf]; omega
    · go_wp2_with fail
      go_ret
      have hk2 : k = ps.length := by omega
      subst hk2
      exact ⟨_, rfl, ⟨_, _, rfl, by simpa using hown⟩, hbel⟩
set_option maxHeartbeats 2000000 in
theorem eqCellS_t (A A' : Option Addr) (c c' : Nat) (ps : List Ce) (w : World) (hr : RdC w A ps) (hr' : RdC w A' ps) (hn : ps.length ≤ maxLen) :
    Calls Tryz.prog 86 #[.slice A ps.length c, .slice A' ps.length c'] w fun e w' => e = .returned (.bool true) ∧ Below w.heap.size w w' := by
  unfold maxLen at hn
  go_enter Tryz.func86, Tryz.ntmps86
  go_wp2_with fail
  go_loopw [5] (fun i wr => ∃ k : Nat, k ≤ ps.length ∧ i = .int .i64 k ∧ Below w.heap.size w wr) (fun i _ => ps.length - (intOf i).toNat)
  case atStart => exact ⟨0, Nat.zero_le _, rfl, Below.refl _ _⟩
  case round =>
    obtain ⟨k, hk, rfl, hbel⟩ := hrel
    by_cases hlt : k < ps.length
    · obtain ⟨b, off, rfl, c0, c1⟩ := RdC.at_ (w := wr) (show RdC wr A ps from hr.belo hbel) hlt
      obtain ⟨g, goff, rfl, d0, d1⟩ := RdC.at_ (w := wr) (show RdC wr A' ps from hr'.belo hbel) hlt
      obtain ⟨q, hq⟩ : ∃ q, ps[k] = q := ⟨_, rfl⟩
      rw [hq] at c0 c1 d0 d1
      clear hq
      obtain ⟨x, y⟩ := q
      simp only at c0 c1 d0 d1
      have gs := World.block_lt_of_cell? wr _ c0
      have gt := World.block_lt_of_cell? wr _ d0
      simp only at gs gt
      have L0 : ∀ z : BW wr, z.wo.cell? ⟨b, off + k * 2, none⟩ = some (.int .i64 x) := fun z => z.cell gs c0
      have L1 : ∀ z : BW wr, z.wo.cell? ⟨b, off + k * 2 + 1, none⟩ = some (.int .i64 y) := fun z => z.cell gs c1
      have L2 : ∀ z : BW wr, z.wo.cell? ⟨g, goff + k * 2, none⟩ = some (.int .i64 x) := fun z => z.cell gt d0
      have L3 : ∀ z : BW wr, z.wo.cell? ⟨g, goff + k * 2 + 1, none⟩ = some (.int .i64 y) := fun z => z.cell gt d1
      go_wp2_with fail
      (refine region_bw (by kernel_rfl) (by kernel_rfl) ?_; (repeat (first | go_big_quiet_skip | (go_big_quiet_want; go_big_quiet_op; first | go_big_quiet_on | (refine ⟨.bool true, fun zz => ?_, ?_⟩; (go_at_call 157; exact zz.on (eqCell_t (x, y) _)); go_big_quiet_on)))); refine wpQuiet_nil ?_; intro wz hw'; obtain ⟨zw, hw''⟩ := hw'; subst hw'')
      go_wp2
      go_roundw
      case rel => exact ⟨k + 1, by omega, by go_num, bl_go hbel zw.ok⟩
      case measure => simp [intOf]; omega
    · go_wp2_with fail
      go_ret
      exact ⟨rfl, hbel⟩
section
open Go.ChangeShapes Go.WideShapes Go.ChangeAt Go.RowKit Go.Deep
variable {H : Type} {enc : TypeId × Value → H} {w : World} {r : Reach} {b0 base : Nat} {v : Value} {d : DataW H} {p : List MemPlace} {held : Bool} {fuel : Nat} {cs : List Value} {x : DataW H × List MemPlace}
set_option maxRecDepth 100000 in
theorem rd_cells (h : DataW.trod enc Tryz.prog w 0 (fun _ => true) held fuel 101 cs = some x) :
    ∃ (A : Option Addr) (c : Nat) (ps : List Ce), cs = [.slice A ps.length c] ∧ ps.length ≤ maxLen ∧ ps.length ≤ c ∧ RdC w A ps := by
  rcases open_slice_pairs Tryz.underlying101 Tryz.underlying152 (by kernel_rfl) rfl rfl (by kernel_rfl) (by kernel_rfl) h with ⟨hcs, _⟩ | ⟨a, len, cap, m, k, V0, V1, D0, D1, P0, P1, hcs, _, hl, hm, hmm, hx, hall⟩
  · exact ⟨none, 0, [], by simpa using hcs, by simp, by simp, Rd.nil _ _⟩
  · have hmm' : m = cap := by simpa using hmm
    have hv : ∀ i, i < len → ∃ q : Ce, V0 i = .int .i64 q.1 ∧ V1 i = .int .i64 q.2 := fun i hi => by
      obtain ⟨-, -, t0, t1⟩ := hall i (by omega)
      obtain ⟨n0, e0, -, -⟩ := DataW.trod_int Tryz.underlying3 t0
      obtain ⟨n1, e1, -, -⟩ := DataW.trod_int Tryz.underlying3 t1
      simp only [List.cons.injEq, and_true] at e0 e1
      exact ⟨(n0, n1), e0, e1⟩
    have hlen : ((List.range len).map fun i => ((intOf (V0 i), intOf (V1 i)) : Ce)).length = len := by simp
    refine ⟨some a, cap, (List.range len).map fun i => (intOf (V0 i), intOf (V1 i)), by rw [hlen]; exact hcs, by rw [hlen]; omega, by rw [hlen]; exact hl, rd_of_cells fun j u hu => ?_⟩
    have hj : j < len * 2 := by
      rcases Nat.lt_or_ge j (len * 2) with h1 | h1
      · exact h1
      · rw [List.getElem?_eq_none (by rw [cellsV_len, hlen]; exact h1)] at hu; cases hu
    have hi : j / 2 < len := by omega
    obtain ⟨g0, g1⟩ := cellsV_get ((List.range len).map fun i => ((intOf (V0 i), intOf (V1 i)) : Ce)) (j / 2) (by rw [hlen]; exact hi)
    obtain ⟨q, e0, e1⟩ := hv _ hi
    obtain ⟨a0, a1, -, -⟩ := hall (j / 2) (by omega)
    rw [List.getElem_map, List.getElem_range] at g0 g1
    rw [e0] at a0 g0
    rw [e1] at a1 g1
    rcases Nat.mod_two_eq_zero_or_one j with hp | hp
    · have ej : j / 2 * 2 = j := by omega
      rw [ej] at a0 g0
      rw [a0, ← hu, g0]
      rfl
    · have ej : j / 2 * 2 + 1 = j := by omega
      rw [ej] at a1 g1
      rw [a1, ← hu, g1]
      rfl
set_option maxRecDepth 100000 in
/-- a slice of cells that came in -/
theorem open_cells (hv : Value.okWide Tryz.prog w r b0 101 v) (h : DataW.Trod enc Tryz.prog w 0 (fun _ => true) held 101 v d p) :
    ∃ (A : Option Addr) (c : Nat) (ps : List Ce), v = .slice A ps.length c ∧ ps.length ≤ maxLen ∧ ps.length ≤ c ∧ RdC w A ps := by
  obtain ⟨a0, len0, cap0, rfl⟩ := okWide_slice Tryz.underlying101 hv
  obtain ⟨fuel, hf⟩ := h
  obtain ⟨A, c, zs, hcs, h1, h2, h3⟩ := rd_cells hf
  simp only [Value.cells, List.cons.injEq, Value.slice.injEq, and_true] at hcs
  obtain ⟨rfl, rfl, rfl⟩ := hcs
  exact ⟨_, _, zs, rfl, h1, h2, h3⟩
end
end Go.Proofs.YtejkbjcmndnfeaaGreat
