
/- Contracts: a list of cells has a cell; cells side by side. -/
import Derived.Test.YtohbnogmeldmpaaCell
import Derived.Test.YtohbnogmeldmpaaBase
import Derived.Deep.QuietTactic
import Derived.BigQuiet
namespace Go.Proofs.Ytohbnogmeldmpaa
open Go.RowKit

theorem eql_cell (w : World) (a b x y : Int) : (binOp .eql 42 (.agg #[.int .i64 a, .int .i64 b]) (.agg #[.int .i64 x, .int .i64 y])).run Try.prog w = .ok (.bool (a == x && b == y)) w := by
  by_cases h1 : a = x <;> by_cases h2 : b = y <;> simp [go_sem, Try.underlying42, Try.underlying3, h1, h2]
theorem box2 {w wr : World} {x y : Value} {t : TypeId} (h : Below (w.alloc (.cells #[x, y] t)).heap.size (w.alloc (.cells #[x, y] t)) wr) :
    wr.cell? ⟨w.heap.size, 0, none⟩ = some x ∧ wr.cell? ⟨w.heap.size, 1, none⟩ = some y := by
  have hh : (w.alloc (.cells #[x, y] t)).heap[w.heap.size]? = some (.cells #[x, y] t (0, 0)) := heap_alloc_new w _
  exact ⟨(h.cell (p := ⟨w.heap.size, 0, none⟩) (by simp)).trans (cell_of_row _ _ _ _ _ _ hh), (h.cell (p := ⟨w.heap.size, 1, none⟩) (by simp)).trans (cell_of_row _ _ _ _ _ _ hh)⟩
set_option maxHeartbeats 1000000 in
theorem l8Has_any (A : Option Addr) (c : Nat) (ps : List Ce) (q : Ce) (w : World) (hr : RdC w A ps) (hn : ps.length ≤ 1000000) :
    Calls Try.prog 25 #[.slice A ps.length c, .agg #[.int .i64 q.1, .int .i64 q.2]] w fun e w' => e = .returned (.bool (decide (q ∈ ps))) ∧ Below w.heap.size w w' := by
  obtain ⟨x, y⟩ := q
  have heq := fun W a b => eql_cell W a b x y
  have Z0 := Below.refl (w.alloc (.cells #[.int .i64 x, .int .i64 y] 42)).heap.size (w.alloc (.cells #[.int .i64 x, .int .i64 y] 42))
  go_enter Try.func25, Try.ntmps25
  go_wp2_with fail
  go_loopw [5] (fun i wr => ∃ k : Nat, k ≤ ps.length ∧ i = .int .i64 k ∧ Hid (∀ j (h : j < ps.length), j < k → ps[j] ≠ (x, y)) ∧ Below (w.alloc (.cells #[.int .i64 x, .int .i64 y] 42)).heap.size (w.alloc (.cells #[.int .i64 x, .int .i64 y] 42)) wr) (fun i _ => ps.length - (intOf i).toNat)
  case atStart => exact ⟨0, Nat.zero_le _, rfl, fun j h h2 => by omega, Z0⟩
  case round =>
    clear Z0
    obtain ⟨k, hk, rfl, HK, Z1⟩ := hrel
    obtain ⟨x0, x1⟩ := box2 Z1
    by_cases hlt : k < ps.length
    · obtain ⟨b, off, rfl, c0, c1⟩ := RdC.at_ (w := wr) (show RdC wr A ps from (hr.alloc _).below Z1 (Nat.le_refl _)) hlt
      cases hq : (ps[k].1 == x && ps[k].2 == y) with
      | true =>
        have HM := Lib.hid (show decide ((x, y) ∈ ps) = true by
          simp at hq
          have := List.getElem_mem hlt
          rw [show ps[k] = (x, y) from Prod.ext hq.1 hq.2] at this
          exact decide_eq_true this)
        go_wp2_with fail
        go_quiet (fail)
        go_wp2
        go_ret
        exact ⟨ret_b HM.out.symm, bl_go (bl_alloc (Below.refl _ _) _) (below_drewN' Z1 _)⟩
      | false =>
        have HN := Lib.hid (show ps[k] ≠ (x, y) by intro e; rw [e] at hq; simp at hq)
        go_wp2_with fail
        go_quiet (fail)
        go_wp2
        go_roundw
        case rel =>
          refine ⟨k + 1, by omega, by go_num, fun j h h2 => ?_, below_drewN' Z1 _⟩
          rcases Nat.lt_or_ge j k with h3 | h3
          · exact HK.out j h h3
          · obtain rfl : j = k := by omega
            exact HN.out
        case measure => simp [intOf]; omega
    · have HM := Lib.hid (show decide ((x, y) ∈ ps) = false by
        apply decide_eq_false
        intro hm
        obtain ⟨j, hj, e⟩ := List.getElem_of_mem hm
        exact HK.out j hj (by omega) e)
      go_wp2
      go_ret
      exact ⟨ret_b HM.out.symm, bl_go (bl_alloc (Below.refl _ _) _) Z1⟩
/-- the place of a cell, or -1 -/
def Placed (q : Ce) (ps : List Ce) (w : World) (e : Ending) (w' : World) : Prop := ∃ r : Int, e = .returned (.int .i64 r) ∧ decide (0 ≤ r) = decide (q ∈ ps) ∧ Below w.heap.size w w'
set_option maxHeartbeats 1000000 in
theorem indexC_any (A : Option Addr) (c : Nat) (ps : List Ce) (q : Ce) (w : World) (hr : RdC w A ps) (hn : ps.length ≤ 1000000) :
    Calls Try.prog 46 #[.slice A ps.length c, .agg #[.int .i64 q.1, .int .i64 q.2]] w (Placed q ps w) := by
  obtain ⟨x, y⟩ := q
  have heq := fun W a b => eql_cell W x y a b
  have Z0 := Below.refl (w.alloc (.cells #[.int .i64 x, .int .i64 y] 42)).heap.size (w.alloc (.cells #[.int .i64 x, .int .i64 y] 42))
  go_enter Try.func46, Try.ntmps46
  go_wp2_with fail
  go_loopw [8] (fun i wr => ∃ k : Nat, k ≤ ps.length ∧ i = .int .i64 k ∧ Hid (∀ j (h : j < ps.length), j < k → ps[j] ≠ (x, y)) ∧ Below (w.alloc (.cells #[.int .i64 x, .int .i64 y] 42)).heap.size (w.alloc (.cells #[.int .i64 x, .int .i64 y] 42)) wr) (fun i _ => ps.length - (intOf i).toNat)
  case atStart => exact ⟨0, Nat.zero_le _, rfl, fun j h h2 => by omega, Z0⟩
  case round =>
    clear Z0
    obtain ⟨k, hk, rfl, HK, Z1⟩ := hrel
    obtain ⟨x0, x1⟩ := box2 Z1
    by_cases hlt : k < ps.length
    · obtain ⟨b, off, rfl, c0, c1⟩ := RdC.at_ (w := wr) (show RdC wr A ps from (hr.alloc _).below Z1 (Nat.le_refl _)) hlt
      cases hq : (x == ps[k].1 && y == ps[k].2) with
      | true =>
        have HM := Lib.hid (show decide ((x, y) ∈ ps) = true by
          simp at hq
          have := List.getElem_mem hlt
          rw [show ps[k] = (x, y) from Prod.ext hq.1.symm hq.2.symm] at this
          exact decide_eq_true this)
        go_wp2_with fail
        go_quiet (fail)
        go_wp2
        go_ret
        exact ⟨_, rfl, by rw [HM.out]; simp, bl_go (bl_alloc (Below.refl _ _) _) (below_drewN' Z1 _)⟩
      | false =>
        have HN := Lib.hid (show ps[k] ≠ (x, y) by intro e; rw [e] at hq; simp at hq)
        go_wp2_with fail
        go_quiet (fail)
        go_wp2
        go_roundw
        case rel =>
          refine ⟨k + 1, by omega, by go_num, fun j h h2 => ?_, below_drewN' Z1 _⟩
          rcases Nat.lt_or_ge j k with h3 | h3
          · exact HK.out j h h3
          · obtain rfl : j = k := by omega
            exact HN.out
        case measure => simp [intOf]; omega
    · have HM := Lib.hid (show decide ((x, y) ∈ ps) = false by
        apply decide_eq_false
        intro hm
        obtain ⟨j, hj, e⟩ := List.getElem_of_mem hm
        exact HK.out j hj (by omega) e)
      go_wp2
      go_ret
      exact ⟨_, rfl, by rw [HM.out]; simp, bl_go (bl_alloc (Below.refl _ _) _) Z1⟩

set_option maxHeartbeats 1000000 in
theorem containsC_any (A : Option Addr) (c : Nat) (ps : List Ce) (q : Ce) (w : World) (hr : RdC w A ps) (hn : ps.length ≤ 1000000) :
    Calls Try.prog 40 #[.slice A ps.length c, .agg #[.int .i64 q.1, .int .i64 q.2]] w fun e w' => e = .returned (.bool (decide (q ∈ ps))) ∧ Below w.heap.size w w' := by
  go_enter Try.func40, Try.ntmps40
  go_wp2_with fail
  refine (indexC_any A c ps q _ (hr.alloc _) hn).mono ?_
  rintro e w1 ⟨r, rfl, hr1, b1⟩
  have HR := Lib.hid hr1
  clear hr1
  go_wp2
  go_ret
  exact ⟨ret_b HR.out, bl_go (bl_alloc (Below.refl _ _) _) b1⟩
/-- side by side, as a bool -/
def nearB (a b : Ce) : Bool := decide (adjC a b)
theorem neq_cell (w : World) (a b x y : Int) : (binOp .neq 42 (.agg #[.int .i64 a, .int .i64 b]) (.agg #[.int .i64 x, .int .i64 y])).run Try.prog w = .ok (.bool (!(a == x && b == y))) w := by
  by_cases h1 : a = x <;> by_cases h2 : b = y <;> simp [go_sem, Try.underlying42, Try.underlying3, h1, h2]
set_option maxHeartbeats 1000000 in
theorem l8Near_any (a b : Ce) (w : World) (h1 : -9 ≤ a.1 ∧ a.1 ≤ 9 ∧ -9 ≤ a.2 ∧ a.2 ≤ 9) (h2 : -9 ≤ b.1 ∧ b.1 ≤ 9 ∧ -9 ≤ b.2 ∧ b.2 ≤ 9) :
    Calls Try.prog 26 #[.agg #[.int .i64 a.1, .int .i64 a.2], .agg #[.int .i64 b.1, .int .i64 b.2]] w fun e w' => e = .returned (.bool (nearB a b)) ∧ Below w.heap.size w w' := by
  obtain ⟨x, y⟩ := a
  obtain ⟨u, v⟩ := b
  obtain ⟨p1, p2, p3, p4⟩ := h1
  obtain ⟨q1, q2, q3, q4⟩ := h2
  simp only at p1 p2 p3 p4 q1 q2 q3 q4
  have hne := fun W => neq_cell W x y u v
  have hB : Below w.heap.size w ((w.alloc (.cells #[.int .i64 x, .int .i64 y] 42)).alloc (.cells #[.int .i64 u, .int .i64 v] 42)) := bl_alloc (bl_alloc (Below.refl _ _) _) _
  by_cases hx : x = u
  · subst hx
    have e0 : (x == x) = true := by simp
    rcases (show (y - v = 1 ∨ y - v = -1) ∨ y = v ∨ (y - v < -1 ∨ 1 < y - v) from by omega) with hy | hy | hy
    · have HA := Lib.hid (show nearB (x, y) (x, v) = true from decide_eq_true (by unfold adjC; dsimp only; omega))
      have e1 : (y == v) = false := by rw [beq_eq_false_iff_ne]; omega
      have l1 : -1 ≤ y - v := by omega
      have l2 : y - v ≤ 1 := by omega
      clear hy
      go_enter Try.func26, Try.ntmps26
      go_wp2_with (first | (go_at_call 24; refine (l1in_t _ _ _ _ (by omega) (by omega)).mono ?_; rintro e w' ⟨rfl, rfl⟩) | (go_at_call 24; refine (l1in_f _ _ _ _ (by omega)).mono ?_; rintro e w' ⟨rfl, rfl⟩))
      go_ret
      exact ⟨ret_b HA.out.symm, hB⟩
    · subst hy
      have HA := Lib.hid (show nearB (x, y) (x, y) = false from decide_eq_false (by unfold adjC; dsimp only; omega))
      have e1 : (y == y) = true := by simp
      go_enter Try.func26, Try.ntmps26
      go_wp2_with (first | (go_at_call 24; refine (l1in_t _ _ _ _ (by omega) (by omega)).mono ?_; rintro e w' ⟨rfl, rfl⟩) | (go_at_call 24; refine (l1in_f _ _ _ _ (by omega)).mono ?_; rintro e w' ⟨rfl, rfl⟩))
      go_ret
      exact ⟨ret_b HA.out.symm, hB⟩
    · have HA := Lib.hid (show nearB (x, y) (x, v) = false from decide_eq_false (by unfold adjC; dsimp only; omega))
      have e1 : (y == v) = false := by rw [beq_eq_false_iff_ne]; omega
      go_enter Try.func26, Try.ntmps26
      go_wp2_with (first | (go_at_call 24; refine (l1in_t _ _ _ _ (by omega) (by omega)).mono ?_; rintro e w' ⟨rfl, rfl⟩) | (go_at_call 24; refine (l1in_f _ _ _ _ (by omega)).mono ?_; rintro e w' ⟨rfl, rfl⟩))
      go_ret
      exact ⟨ret_b HA.out.symm, hB⟩
  · have e0 : (x == u) = false := by rw [beq_eq_false_iff_ne]; omega
    rcases (show (y = v ∧ (x - u = 1 ∨ x - u = -1)) ∨ (y = v ∧ (x - u < -1 ∨ 1 < x - u)) ∨ y ≠ v from by omega) with ⟨hy, hz⟩ | ⟨hy, hz⟩ | hy
    · subst hy
      have HA := Lib.hid (show nearB (x, y) (u, y) = true from decide_eq_true (by unfold adjC; dsimp only; omega))
      have e1 : (y == y) = true := by simp
      have l1 : -1 ≤ x - u := by omega
      have l2 : x - u ≤ 1 := by omega
      clear hx hz
      go_enter Try.func26, Try.ntmps26
      go_wp2_with (first | (go_at_call 24; refine (l1in_t _ _ _ _ (by omega) (by omega)).mono ?_; rintro e w' ⟨rfl, rfl⟩) | (go_at_call 24; refine (l1in_f _ _ _ _ (by omega)).mono ?_; rintro e w' ⟨rfl, rfl⟩))
      go_ret
      exact ⟨ret_b HA.out.symm, hB⟩
    · subst hy
      have HA := Lib.hid (show nearB (x, y) (u, y) = false from decide_eq_false (by unfold adjC; dsimp only; omega))
      have e1 : (y == y) = true := by simp
      clear hx
      go_enter Try.func26, Try.ntmps26
      go_wp2_with (first | (go_at_call 24; refine (l1in_t _ _ _ _ (by omega) (by omega)).mono ?_; rintro e w' ⟨rfl, rfl⟩) | (go_at_call 24; refine (l1in_f _ _ _ _ (by omega)).mono ?_; rintro e w' ⟨rfl, rfl⟩))
      go_ret
      exact ⟨ret_b HA.out.symm, hB⟩
    · have HA := Lib.hid (show nearB (x, y) (u, v) = false from decide_eq_false (by unfold adjC; dsimp only; omega))
      have e1 : (y == v) = false := by rw [beq_eq_false_iff_ne]; exact hy
      clear hx hy
      go_enter Try.func26, Try.ntmps26
      go_wp2_with (first | (go_at_call 24; refine (l1in_t _ _ _ _ (by omega) (by omega)).mono ?_; rintro e w' ⟨rfl, rfl⟩) | (go_at_call 24; refine (l1in_f _ _ _ _ (by omega)).mono ?_; rintro e w' ⟨rfl, rfl⟩))
      go_ret
      exact ⟨ret_b HA.out.symm, hB⟩
end Go.Proofs.Ytohbnogmeldmpaa
