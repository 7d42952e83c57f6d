/- Contracts: valid puzzles. -/
import Derived.Test.YtnciemnlnijhfaaColour
import Derived.Deep.RegionHeld3
namespace Go.Proofs.Ytnciemnlnijhfaa
open Go.RowKit

/-- the number of a cell fits -/
def digOk (b : Bool) (d : Int) : Bool := if b = true then inB d 0 6 else decide (d = -1)
theorem digOk_tt {d : Int} (h1 : 0 ≤ d) (h2 : d ≤ 6) : digOk true d = true := by unfold digOk; rw [if_pos rfl, inB_t h1 h2]
theorem digOk_tf {d : Int} (h : d < 0 ∨ 6 < d) : digOk true d = false := by unfold digOk; rw [if_pos rfl, inB_f h]
theorem digOk_ft {d : Int} (h : d = -1) : digOk false d = true := by subst h; rfl
theorem digOk_ff {d : Int} (h : d ≠ -1) : digOk false d = false := by unfold digOk; simp [h]
/-- all numbers fit -/
def digsB (bs : List Bool) (ds : List Int) : Bool := (List.range ds.length).all fun i => digOk (bs.getD i false) (ds.getD i 0)
def puzB (bs : List Bool) (ds : List Int) : Bool := decide (ds.length = bs.length) && digsB bs ds
theorem puzB_len {bs : List Bool} {ds : List Int} (h : ds.length ≠ bs.length) : puzB bs ds = false := by unfold puzB; simp [h]
theorem puzB_t {bs : List Bool} {ds : List Int} (h : ds.length = bs.length) (hs : ∀ i (h1 : i < ds.length), digOk (bs[i]'(by omega)) ds[i] = true) : puzB bs ds = true := by
  unfold puzB digsB
  simp only [h, decide_true, Bool.true_and, List.all_eq_true, List.mem_range]
  intro i hi
  have := hs i (by omega)
  rw [List.getD_eq_getElem?_getD, List.getD_eq_getElem?_getD, List.getElem?_eq_getElem (by omega), List.getElem?_eq_getElem (by omega)]
  exact this
theorem puzB_f {bs : List Bool} {ds : List Int} (h : ds.length = bs.length) (i : Nat) (h1 : i < ds.length) (hs : digOk (bs[i]'(by omega)) ds[i] = false) : puzB bs ds = false := by
  have : digsB bs ds = false := by
    unfold digsB
    rw [List.all_eq_false]
    refine ⟨i, by simpa using h1, ?_⟩
    rw [List.getD_eq_getElem?_getD, List.getD_eq_getElem?_getD, List.getElem?_eq_getElem (by omega), List.getElem?_eq_getElem (by omega)]
    simp [hs]
  unfold puzB; rw [this]; simp

set_option maxHeartbeats 1000000 in
theorem puzzle_any (W T : Int) (A A' : Option Addr) (c c' : Nat) (bs : List Bool) (ds : List Int) (w : World) (hr : Rd w A (bs.map .bool)) (hr' : Rd w A' (ds.map (.int .i64))) (hn : bs.length ≤ 36) :
    Calls Try.prog 130 #[.agg #[.int .i64 W, .int .i64 T, .slice A bs.length c], .slice A' ds.length c'] w fun e w' => e = .returned (.bool (puzB bs ds)) ∧ Below w.heap.size w w' := by
  by_cases hl : ds.length = bs.length
  · have hlb : ((ds.length : Int) != (bs.length : Int)) = false := by simp [hl]
    have HL := Lib.hid hl
    have hdn : ds.length ≤ 36 := by omega
    have hle : ds.length ≤ bs.length := by omega
    have hb0 := bl_alloc (Below.refl w.heap.size w) (.cells #[.int .i64 W, .int .i64 T, .slice A bs.length c] 25)
    have X0 := C3.new w (.int .i64 W) (.int .i64 T) (.slice A bs.length c) 25
    clear hl
    go_enter Try.func130, Try.ntmps130
    go_wp2_with fail
    go_loop [15] (fun i => ∃ k : Nat, k ≤ ds.length ∧ i = .int .i64 k ∧ Hid (∀ i (h1 : i < k) (h2 : i < ds.length), digOk (bs[i]'(by omega)) ds[i] = true)) (fun i => ds.length - (intOf i).toNat)
    case atStart => exact ⟨0, Nat.zero_le _, rfl, fun i h => by omega⟩
    case round =>
      obtain ⟨k, hk, rfl, HK⟩ := hrel
      by_cases hlt : k < ds.length
      · obtain ⟨ad, rfl, hc⟩ := (hr.alloc (.cells #[.int .i64 W, .int .i64 T, .slice A bs.length c] 25)).atM (k := k) (by omega)
        obtain ⟨ad', rfl, hc'⟩ := (hr'.alloc (.cells #[.int .i64 W, .int .i64 T, .slice (some ad) bs.length c] 25)).atM hlt
        obtain ⟨d, hd⟩ : ∃ d, ds[k] = d := ⟨_, rfl⟩
        rw [hd] at hc'
        have HD := Lib.hid hd
        clear hd
        cases hb : bs[k]'(by omega) with
        | true =>
          rw [hb] at hc
          have HB := Lib.hid hb
          clear hb
          by_cases hin : 0 ≤ d ∧ d ≤ 6
          · have HO := Lib.hid (digOk_tt hin.1 hin.2)
            obtain ⟨d1, d2⟩ := hin
            go_wp2_with (go_at_call 82; refine (in_t _ _ _ _ (by omega) (by omega)).mono ?_; rintro e w' ⟨rfl, rfl⟩)
            go_round
            case rel =>
              refine ⟨k + 1, by omega, by go_num, fun i h1 h2 => ?_⟩
              rcases Nat.lt_or_ge i k with h | h
              · exact HK.out i h h2
              · obtain rfl : i = k := by omega
                rw [HB.out, HD.out]; exact HO.out
            case measure => simp [intOf]; omega
          · have hout : d < 0 ∨ 6 < d := by omega
            have HO := Lib.hid (digOk_tf hout)
            clear hin
            go_wp2_with (go_at_call 82; refine (in_f _ _ _ _ (by omega)).mono ?_; rintro e w' ⟨rfl, rfl⟩)
            go_ret
            exact ⟨ret_b (by rw [puzB_f HL.out k hlt (by rw [HB.out, HD.out]; exact HO.out)]), hb0⟩
        | false =>
          rw [hb] at hc
          have HB := Lib.hid hb
          clear hb
          by_cases hin : d = -1
          · have HO := Lib.hid (digOk_ft hin)
            have hq : (d != -1) = false := by simp [hin]
            clear hin
            go_wp2_with fail
            go_round
            case rel =>
              refine ⟨k + 1, by omega, by go_num, fun i h1 h2 => ?_⟩
              rcases Nat.lt_or_ge i k with h | h
              · exact HK.out i h h2
              · obtain rfl : i = k := by omega
                rw [HB.out, HD.out]; exact HO.out
            case measure => simp [intOf]; omega
          · have HO := Lib.hid (digOk_ff hin)
            have hq : (d != -1) = true := by simp [hin]
            clear hin
            go_wp2_with fail
            go_ret
            exact ⟨ret_b (by rw [puzB_f HL.out k hlt (by rw [HB.out, HD.out]; exact HO.out)]), hb0⟩
      · obtain rfl : k = ds.length := by omega
        go_wp2
        go_ret
        exact ⟨ret_b (by rw [puzB_t HL.out (fun i h1 => HK.out i h1 h1)]), hb0⟩
  · have hlb : ((ds.length : Int) != (bs.length : Int)) = true := by simp; omega
    have HF := Lib.hid (puzB_len hl)
    have hb0 := bl_alloc (Below.refl w.heap.size w) (.cells #[.int .i64 W, .int .i64 T, .slice A bs.length c] 25)
    clear hl
    go_enter Try.func130, Try.ntmps130
    go_wp2
    go_ret
    exact ⟨ret_b HF.out.symm, hb0⟩

def puzVB (W T : Int) (bs : List Bool) (ds : List Int) : Bool := validB W T bs && puzB bs ds

set_option maxHeartbeats 1000000 in
theorem iPuzzleValid_any (W T : Int) (A A' : Option Addr) (c c' : Nat) (bs : List Bool) (ds : List Int) (w : World) (hr : Rd w A (bs.map .bool)) (hr' : Rd w A' (ds.map (.int .i64))) (hn : bs.length ≤ maxLen) :
    Calls Try.prog 93 #[.agg #[.int .i64 W, .int .i64 T, .slice A bs.length c], .slice A' ds.length c'] w fun e w' => e = .returned (.bool (puzVB W T bs ds)) ∧ Below w.heap.size w w' := by
  have X0 := C3.new w (.int .i64 W) (.int .i64 T) (.slice A bs.length c) 25
  cases hv : validB W T bs with
  | true =>
    obtain ⟨h1, h2, h3, h4, h5, -⟩ := valid_len hv
    have HF := Lib.hid (show puzB bs ds = puzVB W T bs ds by unfold puzVB; rw [hv]; rfl)
    go_enter Try.func93, Try.ntmps93
    go_wp2_with fail
    refine (iRegionValid_any _ _ _ _ _ _ (hr.alloc _) hn).mono ?_
    rintro e w1 ⟨rfl, b1⟩
    have B1 := bl_go (bl_alloc (Below.refl w.heap.size w) _) b1
    obtain ⟨x0, x1, x2⟩ := X0.belo b1
    go_wp2_with fail
    refine (puzzle_any _ _ _ _ _ _ _ _ _ (hr.belo B1) (hr'.belo B1) h5).mono ?_
    rintro e w2 ⟨rfl, b2⟩
    go_wp2
    go_ret
    exact ⟨ret_b HF.out, bl_go B1 b2⟩
  | false =>
    have HF := Lib.hid (show puzVB W T bs ds = false by unfold puzVB; rw [hv]; rfl)
    go_enter Try.func93, Try.ntmps93
    go_wp2_with fail
    refine (iRegionValid_any _ _ _ _ _ _ (hr.alloc _) hn).mono ?_
    rintro e w1 ⟨rfl, b1⟩
    have B1 := bl_go (bl_alloc (Below.refl w.heap.size w) _) b1
    go_wp2
    go_ret
    exact ⟨ret_b HF.out.symm, B1⟩

set_option maxHeartbeats 1000000 in
theorem sPuzzleValid_any (W T : Int) (A A' : Option Addr) (c c' : Nat) (bs : List Bool) (ds : List Int) (w : World) (hr : Rd w A (bs.map .bool)) (hr' : Rd w A' (ds.map (.int .i64))) (hn : bs.length ≤ maxLen) (hn' : ds.length ≤ maxLen) :
    Calls Try.prog 90 #[.agg #[.int .i64 W, .int .i64 T, .slice A bs.length c], .slice A' ds.length c'] w fun e w' => e = .returned (.bool (puzVB W T bs ds)) ∧ Below w.heap.size w w' := by
  have X0 := C3.new w (.int .i64 W) (.int .i64 T) (.slice A bs.length c) 25
  unfold maxLen at hn'
  cases hv : validB W T bs with
  | true =>
    obtain ⟨h1, h2, h3, h4, h5, -⟩ := valid_len hv
    have HV := Lib.hid (show puzB bs ds = puzVB W T bs ds by unfold puzVB; rw [hv]; rfl)
    by_cases hl : ds.length = bs.length
    · have hlb : ((ds.length : Int) != (bs.length : Int)) = false := by simp [hl]
      have HL := Lib.hid hl
      have hdn : ds.length ≤ 36 := by omega
      have hle : ds.length ≤ bs.length := by omega
      clear hl
      go_enter Try.func90, Try.ntmps90
      go_wp2_with fail
      refine (sRegionValid_any _ _ _ _ _ _ (hr.alloc _) hn).mono ?_
      rintro e w1 ⟨rfl, b1⟩
      rw [hv]
      clear hv
      have B1 := bl_go (bl_alloc (Below.refl w.heap.size w) _) b1
      have r1 := hr.belo B1
      have r1' := hr'.belo B1
      obtain ⟨x0, x1, x2⟩ := X0.belo b1
      clear hr hr' b1
      go_wp2_with fail
      go_loop [5] (fun i => ∃ k : Nat, k ≤ ds.length ∧ i = .int .i64 k ∧ Hid (∀ i (h1 : i < k) (h2 : i < ds.length), digOk (bs[i]'(by omega)) ds[i] = true)) (fun i => ds.length - (intOf i).toNat)
      case atStart => exact ⟨0, Nat.zero_le _, rfl, fun i h => by omega⟩
      case round =>
        obtain ⟨k, hk, rfl, HK⟩ := hrel
        by_cases hlt : k < ds.length
        · obtain ⟨ad, rfl, hc⟩ := r1.atM (k := k) (by omega)
          obtain ⟨ad', rfl, hc'⟩ := r1'.atM hlt
          obtain ⟨d, hd⟩ : ∃ d, ds[k] = d := ⟨_, rfl⟩
          rw [hd] at hc'
          have HD := Lib.hid hd
          clear hd
          cases hb : bs[k]'(by omega) with
          | true =>
            rw [hb] at hc
            have HB := Lib.hid hb
            clear hb
            by_cases hin : 0 ≤ d ∧ d ≤ 6
            · have HO := Lib.hid (digOk_tt hin.1 hin.2)
              obtain ⟨d1, d2⟩ := hin
              go_wp2_with (go_at_call 73; refine (l1in_t _ _ _ _ (by omega) (by omega)).mono ?_; rintro e w' ⟨rfl, rfl⟩)
              go_round
              case rel =>
                refine ⟨k + 1, by omega, by go_num, fun i h1 h2 => ?_⟩
                rcases Nat.lt_or_ge i k with h | h
                · exact HK.out i h h2
                · obtain rfl : i = k := by omega
                  rw [HB.out, HD.out]; exact HO.out
              case measure => simp [intOf]; omega
            · have hout : d < 0 ∨ 6 < d := by omega
              have HO := Lib.hid (digOk_tf hout)
              clear hin
              go_wp2_with (go_at_call 73; refine (l1in_f _ _ _ _ (by omega)).mono ?_; rintro e w' ⟨rfl, rfl⟩)
              go_ret
              exact ⟨ret_b (by rw [← HV.out, puzB_f HL.out k hlt (by rw [HB.out, HD.out]; exact HO.out)]), B1⟩
          | false =>
            rw [hb] at hc
            have HB := Lib.hid hb
            clear hb
            by_cases hin : d = -1
            · have HO := Lib.hid (digOk_ft hin)
              have hq : (d != -1) = false := by simp [hin]
              clear hin
              go_wp2_with fail
              go_round
              case rel =>
                refine ⟨k + 1, by omega, by go_num, fun i h1 h2 => ?_⟩
                rcases Nat.lt_or_ge i k with h | h
                · exact HK.out i h h2
                · obtain rfl : i = k := by omega
                  rw [HB.out, HD.out]; exact HO.out
              case measure => simp [intOf]; omega
            · have HO := Lib.hid (digOk_ff hin)
              have hq : (d != -1) = true := by simp [hin]
              clear hin
              go_wp2_with fail
              go_ret
              exact ⟨ret_b (by rw [← HV.out, puzB_f HL.out k hlt (by rw [HB.out, HD.out]; exact HO.out)]), B1⟩
        · obtain rfl : k = ds.length := by omega
          go_wp2
          go_ret
          exact ⟨ret_b (by rw [← HV.out, puzB_t HL.out (fun i h1 => HK.out i h1 h1)]), B1⟩
    · have hlb : ((ds.length : Int) != (bs.length : Int)) = true := by simp; omega
      have HF := Lib.hid (puzB_len hl)
      clear hl
      go_enter Try.func90, Try.ntmps90
      go_wp2_with fail
      refine (sRegionValid_any _ _ _ _ _ _ (hr.alloc _) hn).mono ?_
      rintro e w1 ⟨rfl, b1⟩
      have B1 := bl_go (bl_alloc (Below.refl w.heap.size w) _) b1
      obtain ⟨x0, x1, x2⟩ := X0.belo b1
      go_wp2
      go_ret
      exact ⟨ret_b (by rw [← HV.out, HF.out]), B1⟩
  | false =>
    have HF := Lib.hid (show puzVB W T bs ds = false by unfold puzVB; rw [hv]; rfl)
    go_enter Try.func90, Try.ntmps90
    go_wp2_with fail
    refine (sRegionValid_any _ _ _ _ _ _ (hr.alloc _) hn).mono ?_
    rintro e w1 ⟨rfl, b1⟩
    have B1 := bl_go (bl_alloc (Below.refl w.heap.size w) _) b1
    go_wp2
    go_ret
    exact ⟨ret_b HF.out.symm, B1⟩
end Go.Proofs.Ytnciemnlnijhfaa
