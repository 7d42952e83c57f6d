/- Contract: the reference's CornerFill. -/
import Derived.Test.YtnciemnlnijhfaaCornSC
namespace Go.Proofs.Ytnciemnlnijhfaa
open Go.RowKit

/-- a new list that may be read, and whether it is one -/
def NewR2 (xs : List Int) (ok : Bool) (w : World) (e : Ending) (w' : World) : Prop :=
  ∃ (A : Option Addr) (c : Nat), e = .returned (.tuple #[.slice A xs.length c, .bool ok]) ∧ Rd w' A (xs.map (.int .i64)) ∧ Below w.heap.size w w'
def crsV (side : Nat) (f cell : Nat) : List Int := (crnS side f 0 0 cell (List.replicate (side * side) (-1), 0)).1
theorem gb_far0 {w0 w w' : World} {g : Nat} (h : Below w0.heap.size w0 w) (hg : w.grownBy w' (some g)) (hlt : w0.heap.size ≤ g) : Below w0.heap.size w0 w' :=
  h.grown hg h.size (fun k hk => by injection hk with hk; omega)
theorem repl_snoc (k : Nat) (v : Int) : List.replicate k v ++ [v] = List.replicate (k + 1) v := by rw [List.replicate_succ']
set_option maxRecDepth 100000 in
set_option maxHeartbeats 4000000 in
theorem sCorner_1 (cell : Nat) (hc : cell < 1) (w : World) :
    Calls Try.prog 27 #[.int .i64 1, .int .i64 cell] w (NewR2 (crsV 1 0 cell) true w) := by
  have CALL := Lib.hid (fun (z : World) (c g lo : Nat) (R : Wr z lo 3 (some ⟨g, 0, none⟩) ((List.replicate 1 (-1)).map (.int .i64))) =>
    (show Calls Try.prog 81 #[.slice (some ⟨g, 0, none⟩) 1 c, .int .i64 1, .int .i64 0, .int .i64 0, .int .i64 1, .int .i64 cell, .int .i64 0] z _ from
      (crs_zero _ _ _ _ _ _) z (List.replicate 1 (-1)) cell 0 R (by show _ = _; simp) hc (by decide)))
  have VEQ := Lib.hid (show (crnS 1 0 0 0 cell (List.replicate 1 (-1), ((0 : Nat) : Int))).1 = crsV 1 0 cell from rfl)
  have B0 := bl_alloc (Below.refl w.heap.size w) (.cells #[] 3)
  have O0 := OwnI.empty w
  have hz0 : w.heap.size + 1 ≤ (w.alloc (.cells #[] 3)).heap.size := by simp
  go_enter Try.func27, Try.ntmps27
  go_wp2_with (go_at_call 73; refine (l1in_t _ _ _ _ (by omega) (by omega)).mono ?_; rintro e w' ⟨rfl, rfl⟩)
  generalize w.alloc (.cells #[] 3) = wa at *
  go_loopw [6, 7] (fun v i wr => ∃ k : Nat, k ≤ 1 ∧ i = .int .i64 k ∧ OwnI wr w.heap.size v (List.replicate k (-1)) ∧ Below w.heap.size w wr) (fun _ i _ => 1 - (intOf i).toNat)
  case atStart => exact ⟨0, Nat.zero_le _, rfl, O0, B0⟩
  case round =>
    clear O0 B0 hz0
    obtain ⟨k, hk, rfl, hown, B1⟩ := hrel
    have hsz := B1.size
    by_cases hlt : k < 1
    · have hln : (List.replicate k (-1 : Int)).length = k := by simp
      have HS := Lib.hid (repl_snoc k (-1))
      have hl2 : (List.replicate k (-1 : Int)).length ≤ 1000000000000 := by omega
      have HLN := Lib.hid hln
      clear hln
      go_wp2_with (at_builtin; refine app_int _ rfl _ _ rfl w.heap.size _ _ rfl hown _ rfl hl2 hsz ?_; intro A' c' w3 hown3 hg3)
      have b3 := app_below B1 (Nat.le_refl _) hsz hown hg3
      rw [HLN.out] at hown3
      exact ⟨⟨k + 1, by omega, by go_num, by rw [← HS.out]; exact hown3, b3⟩, by simp [intOf]; omega⟩
    · obtain rfl : k = 1 := by omega
      obtain ⟨A, c, rfl, ho⟩ := hown
      have hw := Wr.of_own ho
      obtain ⟨g, rfl, hg1, -⟩ := hw.form (by simp)
      simp only [List.length_replicate]
      go_wp2_with fail
      refine (CALL.out _ _ _ _ hw).mono ?_
      rintro e w5 ⟨⟨m, -, -, rfl, R5, L5⟩, G5⟩
      rw [VEQ.out] at R5 L5
      go_wp2
      go_ret2
      exact ⟨some ⟨g, 0, none⟩, c, by rw [show (crsV 1 0 cell).length = 1 from L5.out]; rfl, R5.rd, gb_far0 B1 G5 hg1⟩
set_option maxRecDepth 100000 in
set_option maxHeartbeats 4000000 in
theorem sCorner_2 (cell : Nat) (hc : cell < 4) (w : World) :
    Calls Try.prog 27 #[.int .i64 2, .int .i64 cell] w (NewR2 (crsV 2 1 cell) true w) := by
  have CALL := Lib.hid (fun (z : World) (c g lo : Nat) (R : Wr z lo 3 (some ⟨g, 0, none⟩) ((List.replicate 4 (-1)).map (.int .i64))) =>
    (show Calls Try.prog 81 #[.slice (some ⟨g, 0, none⟩) 4 c, .int .i64 2, .int .i64 0, .int .i64 0, .int .i64 2, .int .i64 cell, .int .i64 0] z _ from
      (crs_2_1_0_0 _ _ _) z (List.replicate 4 (-1)) cell 0 R (by show _ = _; simp) hc (by decide)))
  have VEQ := Lib.hid (show (crnS 2 1 0 0 cell (List.replicate 4 (-1), ((0 : Nat) : Int))).1 = crsV 2 1 cell from rfl)
  have B0 := bl_alloc (Below.refl w.heap.size w) (.cells #[] 3)
  have O0 := OwnI.empty w
  have hz0 : w.heap.size + 1 ≤ (w.alloc (.cells #[] 3)).heap.size := by simp
  go_enter Try.func27, Try.ntmps27
  go_wp2_with (go_at_call 73; refine (l1in_t _ _ _ _ (by omega) (by omega)).mono ?_; rintro e w' ⟨rfl, rfl⟩)
  generalize w.alloc (.cells #[] 3) = wa at *
  go_loopw [6, 7] (fun v i wr => ∃ k : Nat, k ≤ 4 ∧ i = .int .i64 k ∧ OwnI wr w.heap.size v (List.replicate k (-1)) ∧ Below w.heap.size w wr) (fun _ i _ => 4 - (intOf i).toNat)
  case atStart => exact ⟨0, Nat.zero_le _, rfl, O0, B0⟩
  case round =>
    clear O0 B0 hz0
    obtain ⟨k, hk, rfl, hown, B1⟩ := hrel
    have hsz := B1.size
    by_cases hlt : k < 4
    · have hln : (List.replicate k (-1 : Int)).length = k := by simp
      have HS := Lib.hid (repl_snoc k (-1))
      have hl2 : (List.replicate k (-1 : Int)).length ≤ 1000000000000 := by omega
      have HLN := Lib.hid hln
      clear hln
      go_wp2_with (at_builtin; refine app_int _ rfl _ _ rfl w.heap.size _ _ rfl hown _ rfl hl2 hsz ?_; intro A' c' w3 hown3 hg3)
      have b3 := app_below B1 (Nat.le_refl _) hsz hown hg3
      rw [HLN.out] at hown3
      exact ⟨⟨k + 1, by omega, by go_num, by rw [← HS.out]; exact hown3, b3⟩, by simp [intOf]; omega⟩
    · obtain rfl : k = 4 := by omega
      obtain ⟨A, c, rfl, ho⟩ := hown
      have hw := Wr.of_own ho
      obtain ⟨g, rfl, hg1, -⟩ := hw.form (by simp)
      simp only [List.length_replicate]
      go_wp2_with fail
      refine (CALL.out _ _ _ _ hw).mono ?_
      rintro e w5 ⟨⟨m, -, -, rfl, R5, L5⟩, G5⟩
      rw [VEQ.out] at R5 L5
      go_wp2
      go_ret2
      exact ⟨some ⟨g, 0, none⟩, c, by rw [show (crsV 2 1 cell).length = 4 from L5.out]; rfl, R5.rd, gb_far0 B1 G5 hg1⟩
set_option maxRecDepth 100000 in
set_option maxHeartbeats 4000000 in
theorem sCorner_4 (cell : Nat) (hc : cell < 16) (w : World) :
    Calls Try.prog 27 #[.int .i64 4, .int .i64 cell] w (NewR2 (crsV 4 2 cell) true w) := by
  have CALL := Lib.hid (fun (z : World) (c g lo : Nat) (R : Wr z lo 3 (some ⟨g, 0, none⟩) ((List.replicate 16 (-1)).map (.int .i64))) =>
    (show Calls Try.prog 81 #[.slice (some ⟨g, 0, none⟩) 16 c, .int .i64 4, .int .i64 0, .int .i64 0, .int .i64 4, .int .i64 cell, .int .i64 0] z _ from
      (crs_4_2_0_0 _ _ _) z (List.replicate 16 (-1)) cell 0 R (by show _ = _; simp) hc (by decide)))
  have VEQ := Lib.hid (show (crnS 4 2 0 0 cell (List.replicate 16 (-1), ((0 : Nat) : Int))).1 = crsV 4 2 cell from rfl)
  have B0 := bl_alloc (Below.refl w.heap.size w) (.cells #[] 3)
  have O0 := OwnI.empty w
  have hz0 : w.heap.size + 1 ≤ (w.alloc (.cells #[] 3)).heap.size := by simp
  go_enter Try.func27, Try.ntmps27
  go_wp2_with (go_at_call 73; refine (l1in_t _ _ _ _ (by omega) (by omega)).mono ?_; rintro e w' ⟨rfl, rfl⟩)
  generalize w.alloc (.cells #[] 3) = wa at *
  go_loopw [6, 7] (fun v i wr => ∃ k : Nat, k ≤ 16 ∧ i = .int .i64 k ∧ OwnI wr w.heap.size v (List.replicate k (-1)) ∧ Below w.heap.size w wr) (fun _ i _ => 16 - (intOf i).toNat)
  case atStart => exact ⟨0, Nat.zero_le _, rfl, O0, B0⟩
  case round =>
    clear O0 B0 hz0
    obtain ⟨k, hk, rfl, hown, B1⟩ := hrel
    have hsz := B1.size
    by_cases hlt : k < 16
    · have hln : (List.replicate k (-1 : Int)).length = k := by simp
      have HS := Lib.hid (repl_snoc k (-1))
      have hl2 : (List.replicate k (-1 : Int)).length ≤ 1000000000000 := by omega
      have HLN := Lib.hid hln
      clear hln
      go_wp2_with (at_builtin; refine app_int _ rfl _ _ rfl w.heap.size _ _ rfl hown _ rfl hl2 hsz ?_; intro A' c' w3 hown3 hg3)
      have b3 := app_below B1 (Nat.le_refl _) hsz hown hg3
      rw [HLN.out] at hown3
      exact ⟨⟨k + 1, by omega, by go_num, by rw [← HS.out]; exact hown3, b3⟩, by simp [intOf]; omega⟩
    · obtain rfl : k = 16 := by omega
      obtain ⟨A, c, rfl, ho⟩ := hown
      have hw := Wr.of_own ho
      obtain ⟨g, rfl, hg1, -⟩ := hw.form (by simp)
      simp only [List.length_replicate]
      go_wp2_with fail
      refine (CALL.out _ _ _ _ hw).mono ?_
      rintro e w5 ⟨⟨m, -, -, rfl, R5, L5⟩, G5⟩
      rw [VEQ.out] at R5 L5
      go_wp2
      go_ret2
      exact ⟨some ⟨g, 0, none⟩, c, by rw [show (crsV 4 2 cell).length = 16 from L5.out]; rfl, R5.rd, gb_far0 B1 G5 hg1⟩
set_option maxHeartbeats 1000000 in
theorem sCorner_no (side cell : Int) (h : ¬ ((side = 1 ∨ side = 2 ∨ side = 4) ∧ 0 ≤ cell ∧ cell < side * side)) (w : World) :
    Calls Try.prog 27 #[.int .i64 side, .int .i64 cell] w (NewR2 [] false w) := by
  have B1 := bl_alloc (Below.refl w.heap.size w) (.cells #[] 3)
  by_cases hs : side = 1 ∨ side = 2 ∨ side = 4
  · have hcell : cell < 0 ∨ side * side ≤ cell := by
      rcases Int.lt_or_le cell 0 with h1 | h1
      · exact .inl h1
      · rcases Int.lt_or_le cell (side * side) with h2 | h2
        · exact absurd ⟨hs, h1, h2⟩ h
        · exact .inr h2
    clear h
    rcases hs with rfl | rfl | rfl
    all_goals
      go_enter Try.func27, Try.ntmps27
      go_wp2_with (go_at_call 73; refine (l1in_f _ _ _ _ (by omega)).mono ?_; rintro e w' ⟨rfl, rfl⟩)
      go_ret2
      exact ⟨_, 0, rfl, Rd.nil _ _, B1⟩
  · have n1 : (side != 1) = true := by simp; omega
    have n2 : (side != 2) = true := by simp; omega
    have n4 : (side != 4) = true := by simp; omega
    clear h hs
    go_enter Try.func27, Try.ntmps27
    go_wp2
    go_ret2
    exact ⟨_, 0, rfl, Rd.nil _ _, B1⟩
end Go.Proofs.Ytnciemnlnijhfaa
