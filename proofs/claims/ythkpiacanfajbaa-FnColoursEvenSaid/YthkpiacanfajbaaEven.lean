/- Contracts: ColoursEven. -/
import Derived.Test.YthkpiacanfajbaaColour
import Derived.Deep.RegionHeld3
namespace Go.Proofs.Ythkpiacanfajbaa
open Go.RowKit

/-- all colours have as many cells -/
def evenB (W T : Int) (bs : List Bool) (nu : Int) : Bool := validB W T bs && (inB nu 1 4 && (List.range nu.toNat).all fun r => colourOf W T bs nu r == colourOf W T bs nu 0)
theorem evenB_v {W T nu : Int} {bs : List Bool} (h : validB W T bs = false) : evenB W T bs nu = false := by unfold evenB; rw [h]; rfl
theorem evenB_n {W T nu : Int} {bs : List Bool} (h : nu < 1 ∨ 4 < nu) : evenB W T bs nu = false := by unfold evenB; rw [inB_f h]; simp
theorem evenB_t {W T nu : Int} {bs : List Bool} (h : validB W T bs = true) (h1 : 1 ≤ nu) (h2 : nu ≤ 4) (k : Nat) (hk : ¬ (k : Int) < nu) (hs : ∀ r : Nat, r < k → colourOf W T bs nu r = colourOf W T bs nu 0) : evenB W T bs nu = true := by
  unfold evenB; rw [h, inB_t h1 h2]; simp only [Bool.true_and, List.all_eq_true, List.mem_range, beq_iff_eq]
  intro r hr; exact hs r (by omega)
theorem evenB_f {W T nu : Int} {bs : List Bool} (k : Nat) (hk : (k : Int) < nu) (hs : colourOf W T bs nu k ≠ colourOf W T bs nu 0) : evenB W T bs nu = false := by
  unfold evenB
  have : ((List.range nu.toNat).all fun r => colourOf W T bs nu r == colourOf W T bs nu 0) = false := by
    rw [List.all_eq_false]; exact ⟨k, by simp; omega, by simpa using hs⟩
  rw [this]; simp
theorem colourOf_in {W T nu re : Int} {bs : List Bool} (hv : validB W T bs = true) (n1 : 1 ≤ nu) (n2 : nu ≤ 4) (r1 : 0 ≤ re) (r2 : re < nu) : colourOf W T bs nu re = cntTo (inCol W nu re bs) bs.length := by
  unfold colourOf; rw [if_pos ⟨hv, n1, n2, r1, by omega⟩]

set_option maxHeartbeats 1000000 in
theorem iColoursEven_any (W T nu : Int) (A : Option Addr) (c : Nat) (bs : List Bool) (w : World) (hr : Rd w A (bs.map .bool)) (hn : bs.length ≤ maxLen) :
    Calls Try.prog 43 #[.agg #[.int .i64 W, .int .i64 T, .slice A bs.length c], .int .i64 nu] w fun e w' => e = .returned (.bool (evenB W T bs nu)) ∧ Below w.heap.size w w' := by
  have X0 := C3.new w (.int .i64 W) (.int .i64 T) (.slice A bs.length c) 31
  cases hv : validB W T bs with
  | true =>
    obtain ⟨h1, h2, h3, h4, h5, -⟩ := valid_len hv
    by_cases hnu : 1 ≤ nu ∧ nu ≤ 4
    · obtain ⟨n1, n2⟩ := hnu
      go_enter Try.func43, Try.ntmps43
      go_wp2_with fail
      refine (iRegionValid_any _ _ _ _ _ _ (hr.alloc _) hn).mono ?_
      rintro e w1 ⟨rfl, b1⟩
      have B1 := bl_go ((Below.refl w.heap.size w).alloc (Nat.le_refl _) _) b1
      have X1 := X0.belo b1
      clear b1 X0
      go_wp2_with fail
      refine (in_t _ _ _ _ n1 n2).mono ?_
      rintro e w' ⟨rfl, rfl⟩
      have HV := Lib.hid hv
      clear hv
      go_wp2_with fail
      go_loopw [15] (fun i wr => ∃ k : Nat, (k : Int) ≤ nu ∧ i = .int .i64 k ∧ Hid (∀ r : Nat, r < k → colourOf W T bs nu r = colourOf W T bs nu 0) ∧ Below w.heap.size w wr ∧ C3 wr w.heap.size (.int .i64 W) (.int .i64 T) (.slice A bs.length c)) (fun i _ => (nu - intOf i).toNat)
      case atStart => exact ⟨0, by omega, rfl, fun r hr => by omega, B1, X1⟩
      case round =>
        clear B1 X1
        obtain ⟨k, hk, rfl, HK, B1, X1⟩ := hrel
        by_cases hlt : (k : Int) < nu
        · have R1 := hr.belo B1
          obtain ⟨x0, x1, x2⟩ := id X1
          by_cases hq : cntTo (inCol W nu k bs) bs.length = cntTo (inCol W nu 0 bs) bs.length
          · have hq' : (cntTo (inCol W nu k bs) bs.length != cntTo (inCol W nu 0 bs) bs.length) = false := by simpa using hq
            have HQ := Lib.hid hq
            clear hq
            go_wp2_with fail
            go_region_held3 (fun w' => (w'.cell? ⟨w.heap.size, 0, none⟩ = some (.int .i64 W) ∧ w'.cell? ⟨w.heap.size, 1, none⟩ = some (.int .i64 T) ∧ w'.cell? ⟨w.heap.size, 2, none⟩ = some (.slice A bs.length c)))
              (first | exact X7 | exact X6 | exact X1 | go_keep)
              (first
                | (go_at_call 76; refine (colourMany_any _ _ _ _ _ _ _ _ R6 h1 h2 h5 n1 n2).mono ?_; rintro e w7 ⟨rfl, b7⟩; have X7 := X6.belo b7; have B7 := bl_go B6 b7)
                | (go_at_call 76; refine (colourMany_any _ _ _ _ _ _ _ _ R1.drew h1 h2 h5 n1 n2).mono ?_; rintro e w6 ⟨rfl, b6⟩; have X6 := X1.drew.belo b6; have R6 := R1.drew.belo b6; have B6 := bl_go B1.drew b6))
            go_wp2
            go_roundw
            case rel => exact ⟨k + 1, by omega, by go_num, fun r hr => by
              rcases Nat.lt_or_ge r k with h | h
              · exact HK.out r h
              · obtain rfl : r = k := by omega
                rw [colourOf_in HV.out n1 n2 (by omega) hlt, colourOf_in HV.out n1 n2 (by omega) (by omega)]; exact HQ.out, B7, X7⟩
            case measure => simp [intOf]; omega
          · have hq' : (cntTo (inCol W nu k bs) bs.length != cntTo (inCol W nu 0 bs) bs.length) = true := by simpa using hq
            have HQ := Lib.hid hq
            clear hq
            go_wp2_with fail
            go_region_held3 (fun w' => (w'.cell? ⟨w.heap.size, 0, none⟩ = some (.int .i64 W) ∧ w'.cell? ⟨w.heap.size, 1, none⟩ = some (.int .i64 T) ∧ w'.cell? ⟨w.heap.size, 2, none⟩ = some (.slice A bs.length c)))
              (first | exact X7 | exact X6 | exact X1 | go_keep)
              (first
                | (go_at_call 76; refine (colourMany_any _ _ _ _ _ _ _ _ R6 h1 h2 h5 n1 n2).mono ?_; rintro e w7 ⟨rfl, b7⟩; have X7 := X6.belo b7; have B7 := bl_go B6 b7)
                | (go_at_call 76; refine (colourMany_any _ _ _ _ _ _ _ _ R1.drew h1 h2 h5 n1 n2).mono ?_; rintro e w6 ⟨rfl, b6⟩; have X6 := X1.drew.belo b6; have R6 := R1.drew.belo b6; have B6 := bl_go B1.drew b6))
            go_wp2
            go_ret
            exact ⟨ret_b (by rw [evenB_f k hlt (by rw [colourOf_in HV.out n1 n2 (by omega) hlt, colourOf_in HV.out n1 n2 (by omega) (by omega)]; exact HQ.out)]), B7⟩
        · go_wp2
          go_ret
          exact ⟨ret_b (by rw [evenB_t HV.out n1 n2 k (by omega) HK.out]), B1⟩
    · have hnu' : nu < 1 ∨ 4 < nu := by omega
      have HF := Lib.hid (evenB_n (W := W) (T := T) (bs := bs) hnu')
      clear hnu
      go_enter Try.func43, Try.ntmps43
      go_wp2_with fail
      refine (iRegionValid_any _ _ _ _ _ _ (hr.alloc _) hn).mono ?_
      rintro e w1 ⟨rfl, b1⟩
      have B1 := bl_go ((Below.refl w.heap.size w).alloc (Nat.le_refl _) _) b1
      go_wp2_with fail
      refine (in_f _ _ _ _ hnu').mono ?_
      rintro e w' ⟨rfl, rfl⟩
      go_wp2
      go_ret
      exact ⟨ret_b HF.out.symm, B1⟩
  | false =>
    have HF := Lib.hid (evenB_v (nu := nu) hv)
    go_enter Try.func43, Try.ntmps43
    go_wp2_with fail
    refine (iRegionValid_any _ _ _ _ _ _ (hr.alloc _) hn).mono ?_
    rintro e w1 ⟨rfl, b1⟩
    have B1 := bl_go ((Below.refl w.heap.size w).alloc (Nat.le_refl _) _) b1
    go_wp2
    go_ret
    exact ⟨ret_b HF.out.symm, B1⟩
set_option maxHeartbeats 1000000 in
theorem sColoursEven_any (W T nu : Int) (A : Option Addr) (c : Nat) (bs : List Bool) (w : World) (hr : Rd w A (bs.map .bool)) (hn : bs.length ≤ maxLen) :
    Calls Try.prog 44 #[.agg #[.int .i64 W, .int .i64 T, .slice A bs.length c], .int .i64 nu] w fun e w' => e = .returned (.bool (evenB W T bs nu)) ∧ Below w.heap.size w w' := by
  have X0 := C3.new w (.int .i64 W) (.int .i64 T) (.slice A bs.length c) 31
  cases hv : validB W T bs with
  | true =>
    obtain ⟨h1, h2, h3, h4, h5, -⟩ := valid_len hv
    by_cases hnu : 1 ≤ nu ∧ nu ≤ 4
    · obtain ⟨n1, n2⟩ := hnu
      go_enter Try.func44, Try.ntmps44
      go_wp2_with fail
      refine (sRegionValid_any _ _ _ _ _ _ (hr.alloc _) hn).mono ?_
      rintro e w1 ⟨rfl, b1⟩
      have B1 := bl_go ((Below.refl w.heap.size w).alloc (Nat.le_refl _) _) b1
      have X1 := X0.belo b1
      clear b1 X0
      go_wp2_with fail
      refine (l1in_t _ _ _ _ n1 n2).mono ?_
      rintro e w' ⟨rfl, rfl⟩
      have HV := Lib.hid hv
      clear hv
      go_wp2_with fail
      go_loopw [5] (fun i wr => ∃ k : Nat, (k : Int) ≤ nu ∧ i = .int .i64 k ∧ Hid (∀ r : Nat, r < k → colourOf W T bs nu r = colourOf W T bs nu 0) ∧ Below w.heap.size w wr ∧ C3 wr w.heap.size (.int .i64 W) (.int .i64 T) (.slice A bs.length c)) (fun i _ => (nu - intOf i).toNat)
      case atStart => exact ⟨0, by omega, rfl, fun r hr => by omega, B1, X1⟩
      case round =>
        clear B1 X1
        obtain ⟨k, hk, rfl, HK, B1, X1⟩ := hrel
        by_cases hlt : (k : Int) < nu
        · have R1 := hr.belo B1
          obtain ⟨x0, x1, x2⟩ := id X1
          by_cases hq : colourOf W T bs nu k = colourOf W T bs nu 0
          · have hq' : (colourOf W T bs nu k != colourOf W T bs nu 0) = false := by simpa using hq
            have HQ := Lib.hid hq
            clear hq
            go_wp2_with fail
            go_region_held3 (fun w' => (w'.cell? ⟨w.heap.size, 0, none⟩ = some (.int .i64 W) ∧ w'.cell? ⟨w.heap.size, 1, none⟩ = some (.int .i64 T) ∧ w'.cell? ⟨w.heap.size, 2, none⟩ = some (.slice A bs.length c)))
              (first | exact X7 | exact X6 | exact X1 | go_keep)
              (first
                | (go_at_call 34; refine (sColourMany_any _ _ _ _ _ _ _ _ R6 hn).mono ?_; rintro e w7 ⟨rfl, b7⟩; have X7 := X6.belo b7; have B7 := bl_go B6 b7)
                | (go_at_call 34; refine (sColourMany_any _ _ _ _ _ _ _ _ R1.drew hn).mono ?_; rintro e w6 ⟨rfl, b6⟩; have X6 := X1.drew.belo b6; have R6 := R1.drew.belo b6; have B6 := bl_go B1.drew b6))
            go_wp2
            go_roundw
            case rel => exact ⟨k + 1, by omega, by go_num, fun r hr => by
              rcases Nat.lt_or_ge r k with h | h
              · exact HK.out r h
              · obtain rfl : r = k := by omega
                exact HQ.out, B7, X7⟩
            case measure => simp [intOf]; omega
          · have hq' : (colourOf W T bs nu k != colourOf W T bs nu 0) = true := by simpa using hq
            have HQ := Lib.hid hq
            clear hq
            go_wp2_with fail
            go_region_held3 (fun w' => (w'.cell? ⟨w.heap.size, 0, none⟩ = some (.int .i64 W) ∧ w'.cell? ⟨w.heap.size, 1, none⟩ = some (.int .i64 T) ∧ w'.cell? ⟨w.heap.size, 2, none⟩ = some (.slice A bs.length c)))
              (first | exact X7 | exact X6 | exact X1 | go_keep)
              (first
                | (go_at_call 34; refine (sColourMany_any _ _ _ _ _ _ _ _ R6 hn).mono ?_; rintro e w7 ⟨rfl, b7⟩; have X7 := X6.belo b7; have B7 := bl_go B6 b7)
                | (go_at_call 34; refine (sColourMany_any _ _ _ _ _ _ _ _ R1.drew hn).mono ?_; rintro e w6 ⟨rfl, b6⟩; have X6 := X1.drew.belo b6; have R6 := R1.drew.belo b6; have B6 := bl_go B1.drew b6))
            go_wp2
            go_ret
            exact ⟨ret_b (by rw [evenB_f k hlt (by exact HQ.out)]), B7⟩
        · go_wp2
          go_ret
          exact ⟨ret_b (by rw [evenB_t HV.out n1 n2 k (by omega) HK.out]), B1⟩
    · have hnu' : nu < 1 ∨ 4 < nu := by omega
      have HF := Lib.hid (evenB_n (W := W) (T := T) (bs := bs) hnu')
      clear hnu
      go_enter Try.func44, Try.ntmps44
      go_wp2_with fail
      refine (sRegionValid_any _ _ _ _ _ _ (hr.alloc _) hn).mono ?_
      rintro e w1 ⟨rfl, b1⟩
      have B1 := bl_go ((Below.refl w.heap.size w).alloc (Nat.le_refl _) _) b1
      go_wp2_with fail
      refine (l1in_f _ _ _ _ hnu').mono ?_
      rintro e w' ⟨rfl, rfl⟩
      go_wp2
      go_ret
      exact ⟨ret_b HF.out.symm, B1⟩
  | false =>
    have HF := Lib.hid (evenB_v (nu := nu) hv)
    go_enter Try.func44, Try.ntmps44
    go_wp2_with fail
    refine (sRegionValid_any _ _ _ _ _ _ (hr.alloc _) hn).mono ?_
    rintro e w1 ⟨rfl, b1⟩
    have B1 := bl_go ((Below.refl w.heap.size w).alloc (Nat.le_refl _) _) b1
    go_wp2
    go_ret
    exact ⟨ret_b HF.out.symm, B1⟩
end Go.Proofs.Ythkpiacanfajbaa
