
/- Contracts: cells compared, sorted and put elsewhere. -/
import Derived.Test.YtohbnogmeldmpaaMoveN
import Derived.Test.YtohbnogmeldmpaaRowP
import Derived.Test.YtohbnogmeldmpaaCellMark
import Derived.Test.YtohbnogmeldmpaaPieceV
import Derived.Test.YtohbnogmeldmpaaShelf
import Derived.Deep.RegionLaw
namespace Go.Proofs.Ytohbnogmeldmpaa
open Go.RowKit Go.Sort

set_option maxHeartbeats 1000000 in
/-- cmp.Or of two numbers -/
theorem cmpOr_any (b : Nat) (x y : Int) (w : World) (h0 : w.cell? ⟨b, 0, none⟩ = some (.int .i64 x)) (h1 : w.cell? ⟨b, 1, none⟩ = some (.int .i64 y)) :
    Calls Try.prog 49 #[.slice (some ⟨b, 0, none⟩) 2 2] w fun e w' => e = .returned (.int .i64 (if x = 0 then y else x)) ∧ w' = w := by
  by_cases hx : x = 0
  · subst hx
    rw [if_pos rfl]
    have e0 : ((0 : Int) != 0) = false := rfl
    by_cases hy : y = 0
    · subst hy
      go_enter Try.func49, Try.ntmps49
      go_wp2
      refine wp_loop_rounds 3 ?_
      rw [rounds_succ]
      go_wp2
      rw [rounds_succ]
      go_wp2
      rw [rounds_succ]
      go_wp2
      go_ret
      exact ⟨rfl, rfl⟩
    · have e1 : (y != 0) = true := by simp [hy]
      go_enter Try.func49, Try.ntmps49
      go_wp2
      refine wp_loop_rounds 2 ?_
      rw [rounds_succ]
      go_wp2
      rw [rounds_succ]
      go_wp2
      go_ret
      exact ⟨rfl, rfl⟩
  · rw [if_neg hx]
    have e1 : (x != 0) = true := by simp [hx]
    go_enter Try.func49, Try.ntmps49
    go_wp2
    refine wp_loop_rounds 1 ?_
    rw [rounds_succ]
    go_wp2
    go_ret
    exact ⟨rfl, rfl⟩

set_option maxHeartbeats 4000000 in
theorem compareCells_any (x y : Ce) (w : World) :
    Calls Try.prog 42 #[.agg #[.int .i64 x.1, .int .i64 x.2], .agg #[.int .i64 y.1, .int .i64 y.2]] w fun e w' => e = .returned (.int .i64 (cmpC x y)) ∧ ∃ q os', w' = grow (w.drewN q) os' := by
  have hcon := fun a b W' => AnyG.cmp_Compare_int Try.cmpL a b W'
  change ∀ a b W', Calls Try.prog 50 _ _ _ at hcon
  unfold cmpC
  obtain ⟨x1, x2⟩ := x
  obtain ⟨y1, y2⟩ := y
  simp only
  have hc1 := fun W => hcon x1 y1 W
  have hc2 := fun W => hcon x2 y2 W
  generalize Lib.compareInt x1 y1 = r1 at hc1 ⊢
  generalize Lib.compareInt x2 y2 = r2 at hc2 ⊢
  have hO := fun b W h0 h1 => cmpOr_any b r2 r1 W h0 h1
  generalize (if r2 = 0 then r1 else r2) = r3 at hO ⊢
  clear hcon
  have hG : ∀ Z, (((w.alloc (.cells #[.int .i64 x1, .int .i64 x2] 42)).alloc (.cells #[.int .i64 y1, .int .i64 y2] 42)).alloc Z).drew = grow (w.drewN 1) #[.cells #[.int .i64 x1, .int .i64 x2] 42, .cells #[.int .i64 y1, .int .i64 y2] 42, Z] := fun Z => by
    rw [alloc_eq_grow, alloc_eq_grow, alloc_eq_grow, grow_grow, grow_grow]; rfl
  have b0 : ((w.alloc (.cells #[.int .i64 x1, .int .i64 x2] 42)).alloc (.cells #[.int .i64 y1, .int .i64 y2] 42)).cell? ⟨w.heap.size, 0, none⟩ = some (.int .i64 x1) := (World.cell?_alloc_lt _ _ ⟨w.heap.size, 0, none⟩ (by simp)).trans (cell_of_row _ _ _ _ _ _ (heap_alloc_new w _))
  have b1 : ((w.alloc (.cells #[.int .i64 x1, .int .i64 x2] 42)).alloc (.cells #[.int .i64 y1, .int .i64 y2] 42)).cell? ⟨w.heap.size, 1, none⟩ = some (.int .i64 x2) := (World.cell?_alloc_lt _ _ ⟨w.heap.size, 1, none⟩ (by simp)).trans (cell_of_row _ _ _ _ _ _ (heap_alloc_new w _))
  have b2 : ((w.alloc (.cells #[.int .i64 x1, .int .i64 x2] 42)).alloc (.cells #[.int .i64 y1, .int .i64 y2] 42)).cell? ⟨w.heap.size + 1, 0, none⟩ = some (.int .i64 y1) := by
    simp
  have b3 : ((w.alloc (.cells #[.int .i64 x1, .int .i64 x2] 42)).alloc (.cells #[.int .i64 y1, .int .i64 y2] 42)).cell? ⟨w.heap.size + 1, 1, none⟩ = some (.int .i64 y2) := by
    simp
  have HG := Lib.hid hG
  clear hG
  go_enter Try.func42, Try.ntmps42
  go_wp2_with fail
  generalize ((w.alloc (.cells #[.int .i64 x1, .int .i64 x2] 42)).alloc (.cells #[.int .i64 y1, .int .i64 y2] 42)) = wq at *
  have C := Lib.hid (fun W (h0 : W.cell? ⟨wq.heap.size, 0, none⟩ = some (.int .i64 r2)) (h1 : W.cell? ⟨wq.heap.size, 1, none⟩ = some (.int .i64 r1)) => hO wq.heap.size W h0 h1)
  clear hO
  have z0 : (wq.alloc (.cells #[.int .i64 r2, .int .i64 r1] 3)).cell? ⟨wq.heap.size, 0, none⟩ = some (.int .i64 r2) := cell_of_row _ _ _ _ _ _ (heap_alloc_new wq _)
  have z1 : (wq.alloc (.cells #[.int .i64 r2, .int .i64 r1] 3)).cell? ⟨wq.heap.size, 1, none⟩ = some (.int .i64 r1) := cell_of_row _ _ _ _ _ _ (heap_alloc_new wq _)
  go_region_law (first
    | (go_simp; go_at_call 50; first | (with_reducible refine (hc1 _).mono ?_; rintro e w' ⟨rfl, rfl⟩) | (with_reducible refine (hc2 _).mono ?_; rintro e w' ⟨rfl, rfl⟩))
    | (go_simp; go_at_call 49; refine (C.out (wq.alloc (.cells #[.int .i64 r2, .int .i64 r1] 3)).drew z0 z1).mono ?_; rintro e w' ⟨rfl, rfl⟩))
  all_goals (go_wp2; go_ret; exact ⟨rfl, 1, _, HG.out _⟩)

/-! ### The three ways to put a cell elsewhere -/
set_option maxHeartbeats 400000 in
theorem stay_any (x y : Int) (w : World) : Calls Try.prog 20 #[.agg #[.int .i64 x, .int .i64 y]] w fun e w' => e = .returned (.agg #[.int .i64 x, .int .i64 y]) ∧ Below w.heap.size w w' := by
  go_enter Try.func20, Try.ntmps20
  go_wp2
  refine bodyPost_ret (v := .agg #[.int .i64 x, .int .i64 y]) (by simp [results, Try.results20, go_sem]) rfl ⟨rfl, ?_⟩
  exact bl_alloc (bl_alloc (Below.refl _ _) _) _
set_option maxHeartbeats 400000 in
theorem turn_any (x y : Int) (w : World) (y0 : -9 ≤ y) (y1 : y ≤ 9) : Calls Try.prog 34 #[.agg #[.int .i64 x, .int .i64 y]] w fun e w' => e = .returned (.agg #[.int .i64 (-y), .int .i64 x]) ∧ Below w.heap.size w w' := by
  go_enter Try.func34, Try.ntmps34
  go_wp2
  refine bodyPost_ret (v := .agg #[.int .i64 (-y), .int .i64 x]) (by simp [results, Try.results34, go_sem]) rfl ⟨rfl, ?_⟩
  exact bl_alloc (bl_alloc (Below.refl _ _) _) _
set_option maxHeartbeats 400000 in
theorem mirror_any (x y : Int) (w : World) (x0 : -9 ≤ x) (x1 : x ≤ 9) : Calls Try.prog 36 #[.agg #[.int .i64 x, .int .i64 y]] w fun e w' => e = .returned (.agg #[.int .i64 (-x), .int .i64 y]) ∧ Below w.heap.size w w' := by
  go_enter Try.func36, Try.ntmps36
  go_wp2
  refine bodyPost_ret (v := .agg #[.int .i64 (-x), .int .i64 y]) (by simp [results, Try.results36, go_sem]) rfl ⟨rfl, ?_⟩
  exact bl_alloc (bl_alloc (Below.refl _ _) _) _

set_option maxRecDepth 100000 in
set_option maxHeartbeats 4000000 in
theorem sortCells_any (g c : Nat) (base : Nat) (qs : List Ce) (w : World) (h : w.ownsRow base 42 2 (.slice (some ⟨g, 0, none⟩) qs.length c) qs.length (cellsV qs)) (hn : qs.length ≤ 1000000) :
    Calls Try.prog 41 #[.slice (some ⟨g, 0, none⟩) qs.length c, .func (.func 42) #[] #[]] w fun e w' => e = .returned (.tuple #[]) ∧
      w'.ownsRow base 42 2 (.slice (some ⟨g, 0, none⟩) qs.length c) qs.length (cellsV (sortC qs)) ∧ ∀ B w0, B ≤ g → B ≤ w.heap.size → Below B w0 w → Below B w0 w' := by
  have eg : ∀ args w, (callFunc 42 args).run Try.prog w = .ok (.enter 42 args) w := enters_of Try.func42 (by kernel_rfl) rfl
  have hlt : g < w.heap.size := (h.lt g rfl).2
  have hcmp : CmpLays Try.prog 42 #[] encC 2 cmpC g 0 qs.toArray.size w := fun _ _ _ _ x y => compareCells_any x y _
  have hS := AnyQ.slices_SortFunc_total Try.sortL 2 Try.isAgg42 Try.sizeOf42 encC (fun _ => rfl) encC_one cmpC swoC 42 #[] g 0 c qs.toArray w eg hcmp (own_holdsC h) hlt (by simp; omega) totC
  have es : qs.toArray.size = qs.length := by simp
  rw [es] at hS
  refine hS.mono ?_
  rintro e w' ⟨rfl, m, os, rfl⟩
  refine ⟨rfl, own_sortC h (sortC qs) (sortC_len qs) m os, fun B w0 hB hB2 hb => below_sortC hb hB hB2 m _ os⟩
end Go.Proofs.Ytohbnogmeldmpaa
