
/- Contracts: the number of cells, valid regions. -/
import Derived.Test.YtafmpgikdhlknaaGreatBase
import Derived.Test.YtafmpgikdhlknaaGreatMem
import Derived.Deep.QuietTactic
import Derived.BigQuiet
import Derived.Deep.DeepMust
namespace Go.Proofs.YtafmpgikdhlknaaGreat
open Go.RowKit


set_option maxHeartbeats 400000 in
theorem many_any (A : Option Addr) (c : Nat) (bs : List Bool) (w : World) (hr : Rd w A (bs.map .bool)) (hn : bs.length ≤ maxLen) :
    Calls Tryz.prog 74 #[.slice A bs.length c] w fun e w' => e = .returned (.int .i64 (cnt bs)) ∧ w = w' := by
  unfold maxLen at hn
  go_enter Tryz.func74, Tryz.ntmps74
  go_wp2
  go_loop [3, 8] (fun n i => ∃ k : Nat, k ≤ bs.length ∧ i = .int .i64 k ∧ n = .int .i64 (cnt (bs.take k))) (fun _ i => bs.length - (intOf i).toNat)
  case atStart => exact ⟨0, Nat.zero_le _, rfl, rfl⟩
  case round =>
    obtain ⟨k, hk, rfl, rfl⟩ := hrel
    have hd := cnt_le (bs.take k)
    have hl : (bs.take k).length ≤ k := List.length_take_le _ _
    by_cases hlt : k < bs.length
    · have HS := Lib.hid (cnt_step bs k hlt)
      obtain ⟨ad, rfl, hc⟩ := hr.atM hlt
      cases hb : bs[k] with
      | true =>
        rw [hb] at hc
        have HB := Lib.hid hb; clear hb
        go_wp2
        go_round
        case rel => exact ⟨k + 1, by omega, by go_num, by rw [HS.out, HB.out]; rfl⟩
        case measure => simp [intOf]; omega
      | false =>
        rw [hb] at hc
        have HB := Lib.hid hb; clear hb
        go_wp2
        go_round
        case rel => exact ⟨k + 1, by omega, by go_num, by rw [HS.out, HB.out]; simp⟩
        case measure => simp [intOf]; omega
    · go_wp2
      go_ret
      exact ⟨ret_i (by rw [List.take_of_length_le (by omega)]), rfl⟩

set_option maxHeartbeats 400000 in
theorem l1count_any (A : Option Addr) (c : Nat) (bs : List Bool) (w : World) (hr : Rd w A (bs.map .bool)) (hn : bs.length ≤ maxLen) :
    Calls Tryz.prog 132 #[.slice A bs.length c] w fun e w' => e = .returned (.int .i64 (cnt bs)) ∧ w = w' := by
  unfold maxLen at hn
  go_enter Tryz.func132, Tryz.ntmps132
  go_wp2
  go_loop [3, 4] (fun n i => ∃ k : Nat, k ≤ bs.length ∧ i = .int .i64 k ∧ n = .int .i64 (cnt (bs.take k))) (fun _ i => bs.length - (intOf i).toNat)
  case atStart => exact ⟨0, Nat.zero_le _, rfl, rfl⟩
  case round =>
    obtain ⟨k, hk, rfl, rfl⟩ := hrel
    have hd := cnt_le (bs.take k)
    have hl : (bs.take k).length ≤ k := List.length_take_le _ _
    by_cases hlt : k < bs.length
    · have HS := Lib.hid (cnt_step bs k hlt)
      obtain ⟨ad, rfl, hc⟩ := hr.atM hlt
      cases hb : bs[k] with
      | true =>
        rw [hb] at hc
        have HB := Lib.hid hb; clear hb
        go_wp2
        go_round
        case rel => exact ⟨k + 1, by omega, by go_num, by rw [HS.out, HB.out]; rfl⟩
        case measure => simp [intOf]; omega
      | false =>
        rw [hb] at hc
        have HB := Lib.hid hb; clear hb
        go_wp2
        go_round
        case rel => exact ⟨k + 1, by omega, by go_num, by rw [HS.out, HB.out]; simp⟩
        case measure => simp [intOf]; omega
    · go_wp2
      go_ret
      exact ⟨ret_i (by rw [List.take_of_length_le (by omega)]), rfl⟩

/-- a region is valid -/
def validB (W T : Int) (bs : List Bool) : Bool := decide ((1 ≤ W ∧ W ≤ 6) ∧ (1 ≤ T ∧ T ≤ 6) ∧ (bs.length : Int) = W * T ∧ cnt bs ≤ 24)
theorem mul_bd {W T : Int} (h1 : 1 ≤ W) (h2 : W ≤ 6) (h3 : 1 ≤ T) (h4 : T ≤ 6) : 1 ≤ W * T ∧ W * T ≤ 36 := by
  rcases (show W = 1 ∨ W = 2 ∨ W = 3 ∨ W = 4 ∨ W = 5 ∨ W = 6 from by omega) with rfl | rfl | rfl | rfl | rfl | rfl <;> omega
theorem validB_iff {W T : Int} {bs : List Bool} : validB W T bs = true ↔ ((1 ≤ W ∧ W ≤ 6) ∧ (1 ≤ T ∧ T ≤ 6) ∧ (bs.length : Int) = W * T ∧ cnt bs ≤ 24) := by unfold validB; simp
theorem validB_f {W T : Int} {bs : List Bool} (h : ¬ ((1 ≤ W ∧ W ≤ 6) ∧ (1 ≤ T ∧ T ≤ 6) ∧ (bs.length : Int) = W * T ∧ cnt bs ≤ 24)) : validB W T bs = false := by
  unfold validB; exact decide_eq_false h

set_option maxHeartbeats 400000 in
theorem iRegionValid_any (W T : Int) (A : Option Addr) (c : Nat) (bs : List Bool) (w : World) (hr : Rd w A (bs.map .bool)) (hn : bs.length ≤ maxLen) :
    Calls Tryz.prog 35 #[.agg #[.int .i64 W, .int .i64 T, .slice A bs.length c]] w fun e w' => e = .returned (.bool (validB W T bs)) ∧ Below w.heap.size w w' := by
  have hn' := hn
  unfold maxLen at hn'
  by_cases h1 : 1 ≤ W ∧ W ≤ 6
  · obtain ⟨h1, h2⟩ := h1
    by_cases h3 : 1 ≤ T ∧ T ≤ 6
    · obtain ⟨h3, h4⟩ := h3
      obtain ⟨m1, m2⟩ := mul_bd h1 h2 h3 h4
      by_cases hl : (bs.length : Int) = W * T
      · have hl' : ((bs.length : Int) == W * T) = true := by simpa using hl
        have HL := Lib.hid hl; clear hl
        have hcb := cnt_le bs
        go_enter Tryz.func35, Tryz.ntmps35
        go_wp2_with (first | (go_at_call 42; refine (in_t _ _ _ _ (by omega) (by omega)).mono ?_; rintro e w' ⟨rfl, rfl⟩) | (go_at_call 74; refine (many_any A c bs _ (hr.alloc _) hn).mono ?_; rintro e w' ⟨rfl, rfl⟩))
        go_ret
        exact ⟨ret_b (by unfold validB; simp [HL.out, h1, h2, h3, h4]), (Below.refl _ _).alloc (Nat.le_refl _) _⟩
      · have hl' : ((bs.length : Int) == W * T) = false := by simpa using hl
        have HL := Lib.hid hl; clear hl
        go_enter Tryz.func35, Tryz.ntmps35
        go_wp2_with (first | (go_at_call 42; refine (in_t _ _ _ _ (by omega) (by omega)).mono ?_; rintro e w' ⟨rfl, rfl⟩))
        go_ret
        exact ⟨ret_b (by rw [validB_f (fun h => HL.out h.2.2.1)]), (Below.refl _ _).alloc (Nat.le_refl _) _⟩
    · have h5 : T < 1 ∨ 6 < T := by omega
      have H3 := Lib.hid h3; clear h3
      go_enter Tryz.func35, Tryz.ntmps35
      go_wp2_with (first | (go_at_call 42; refine (in_t _ _ _ _ (by omega) (by omega)).mono ?_; rintro e w' ⟨rfl, rfl⟩) | (go_at_call 42; refine (in_f _ _ _ _ (by omega)).mono ?_; rintro e w' ⟨rfl, rfl⟩))
      go_ret
      exact ⟨ret_b (by rw [validB_f (fun h => H3.out h.2.1)]), (Below.refl _ _).alloc (Nat.le_refl _) _⟩
  · have h5 : W < 1 ∨ 6 < W := by omega
    have H1 := Lib.hid h1; clear h1
    go_enter Tryz.func35, Tryz.ntmps35
    go_wp2_with (first | (go_at_call 42; refine (in_f _ _ _ _ (by omega)).mono ?_; rintro e w' ⟨rfl, rfl⟩))
    go_ret
    exact ⟨ret_b (by rw [validB_f (fun h => H1.out h.1)]), (Below.refl _ _).alloc (Nat.le_refl _) _⟩
set_option maxHeartbeats 400000 in
theorem sRegionValid_any (W T : Int) (A : Option Addr) (c : Nat) (bs : List Bool) (w : World) (hr : Rd w A (bs.map .bool)) (hn : bs.length ≤ maxLen) :
    Calls Tryz.prog 101 #[.agg #[.int .i64 W, .int .i64 T, .slice A bs.length c]] w fun e w' => e = .returned (.bool (validB W T bs)) ∧ Below w.heap.size w w' := by
  have hn' := hn
  unfold maxLen at hn'
  by_cases h1 : 1 ≤ W ∧ W ≤ 6
  · obtain ⟨h1, h2⟩ := h1
    by_cases h3 : 1 ≤ T ∧ T ≤ 6
    · obtain ⟨h3, h4⟩ := h3
      obtain ⟨m1, m2⟩ := mul_bd h1 h2 h3 h4
      by_cases hl : (bs.length : Int) = W * T
      · have hl' : ((bs.length : Int) == W * T) = true := by simpa using hl
        have HL := Lib.hid hl; clear hl
        have hcb := cnt_le bs
        go_enter Tryz.func101, Tryz.ntmps101
        go_wp2_with (first | (go_at_call 71; refine (l1in_t _ _ _ _ (by omega) (by omega)).mono ?_; rintro e w' ⟨rfl, rfl⟩) | (go_at_call 132; refine (l1count_any A c bs _ (hr.alloc _) hn).mono ?_; rintro e w' ⟨rfl, rfl⟩))
        go_ret
        exact ⟨ret_b (by unfold validB; simp [HL.out, h1, h2, h3, h4]), (Below.refl _ _).alloc (Nat.le_refl _) _⟩
      · have hl' : ((bs.length : Int) == W * T) = false := by simpa using hl
        have HL := Lib.hid hl; clear hl
        go_enter Tryz.func101, Tryz.ntmps101
        go_wp2_with (first | (go_at_call 71; refine (l1in_t _ _ _ _ (by omega) (by omega)).mono ?_; rintro e w' ⟨rfl, rfl⟩))
        go_ret
        exact ⟨ret_b (by rw [validB_f (fun h => HL.out h.2.2.1)]), (Below.refl _ _).alloc (Nat.le_refl _) _⟩
    · have h5 : T < 1 ∨ 6 < T := by omega
      have H3 := Lib.hid h3; clear h3
      go_enter Tryz.func101, Tryz.ntmps101
      go_wp2_with (first | (go_at_call 71; refine (l1in_t _ _ _ _ (by omega) (by omega)).mono ?_; rintro e w' ⟨rfl, rfl⟩) | (go_at_call 71; refine (l1in_f _ _ _ _ (by omega)).mono ?_; rintro e w' ⟨rfl, rfl⟩))
      go_ret
      exact ⟨ret_b (by rw [validB_f (fun h => H3.out h.2.1)]), (Below.refl _ _).alloc (Nat.le_refl _) _⟩
  · have h5 : W < 1 ∨ 6 < W := by omega
    have H1 := Lib.hid h1; clear h1
    go_enter Tryz.func101, Tryz.ntmps101
    go_wp2_with (first | (go_at_call 71; refine (l1in_f _ _ _ _ (by omega)).mono ?_; rintro e w' ⟨rfl, rfl⟩))
    go_ret
    exact ⟨ret_b (by rw [validB_f (fun h => H1.out h.1)]), (Below.refl _ _).alloc (Nat.le_refl _) _⟩
end Go.Proofs.YtafmpgikdhlknaaGreat
