/- Contracts: columns and rows, colours. -/
import Derived.Test.YthkpiacanfajbaaReg
namespace Go.Proofs.Ythkpiacanfajbaa
open Go.RowKit

/-- how many of the first k have a property -/
def cntTo (p : Nat → Bool) (k : Nat) : Int := ((List.range k).filter p).length
theorem cntTo_succ (p : Nat → Bool) (k : Nat) : cntTo p (k + 1) = cntTo p k + if p k = true then 1 else 0 := by
  unfold cntTo; rw [List.range_succ, List.filter_append]; by_cases h : p k = true <;> simp [h]
theorem cntTo_bd (p : Nat → Bool) (k : Nat) : 0 ≤ cntTo p k ∧ cntTo p k ≤ k := by
  unfold cntTo; exact ⟨by omega, by have := List.length_filter_le p (List.range k); simp at this; omega⟩
theorem below_drewN {B : Nat} {a w : World} (h : Below B a w) (n : Nat) : Below B a (w.drewN n) := ⟨h.os, h.tape, h.output, h.size, h.block⟩
/-- the cells of a box that the call made first -/
theorem box_cell {w wr : World} {cs : Array Value} {t : TypeId} (h : Below (w.heap.size + 1) (w.alloc (.cells cs t)) wr) (i : Nat) : wr.cell? ⟨w.heap.size, i, none⟩ = cs[i]? := by
  rw [h.cell (p := ⟨w.heap.size, i, none⟩) (by simp)]
  exact cell_of_row _ _ _ _ _ _ (heap_alloc_new w _)
theorem box3 {w wr : World} {x y z : Value} {t : TypeId} (h : Below (w.alloc (.cells #[x, y, z] t)).heap.size (w.alloc (.cells #[x, y, z] t)) wr) :
    wr.cell? ⟨w.heap.size, 0, none⟩ = some x ∧ wr.cell? ⟨w.heap.size, 1, none⟩ = some y ∧ wr.cell? ⟨w.heap.size, 2, none⟩ = some z := (C3.new w x y z t).belo h
/-- bounds of columns and rows -/
theorem xy_bd {W c : Int} (h1 : 1 ≤ W) (h2 : W ≤ 6) (h3 : 0 ≤ c) (h4 : c ≤ 36) : 0 ≤ c % W ∧ c % W ≤ W - 1 ∧ 0 ≤ c / W ∧ c / W ≤ 36 := by
  rcases (show W = 1 ∨ W = 2 ∨ W = 3 ∨ W = 4 ∨ W = 5 ∨ W = 6 from by omega) with rfl | rfl | rfl | rfl | rfl | rfl <;> omega

set_option maxHeartbeats 400000 in
theorem xy_any (W T : Int) (S : Value) (c : Int) (w : World) (h1 : 1 ≤ W) (h2 : W ≤ 6) (h3 : 0 ≤ c) (h4 : c ≤ 36) :
    Calls Try.prog 97 #[.agg #[.int .i64 W, .int .i64 T, S], .int .i64 c] w fun e w' => e = .returned (.tuple #[.int .i64 (c % W), .int .i64 (c / W)]) ∧ Below w.heap.size w w' := by
  obtain ⟨b1, b2, b3, b4⟩ := xy_bd h1 h2 h3 h4
  go_enter Try.func97, Try.ntmps97
  go_wp2
  go_quiet (fail)
  go_wp2
  go_ret2
  exact ⟨rfl, below_drewN ((Below.refl _ _).alloc (Nat.le_refl _) _) _⟩

/-- whether a cell has a colour -/
def inCol (W nu re : Int) (bs : List Bool) (i : Nat) : Bool := bs.getD i false && decide (((i : Int) % W + (i : Int) / W) % nu = re)
theorem inCol_f {W nu re : Int} {bs : List Bool} {k : Nat} (hk : k < bs.length) (h : bs[k] = false) : inCol W nu re bs k = false := by
  unfold inCol; rw [List.getD_eq_getElem?_getD, List.getElem?_eq_getElem hk]; simp [h]
theorem inCol_t {W nu re : Int} {bs : List Bool} {k : Nat} (hk : k < bs.length) (h : bs[k] = true) : inCol W nu re bs k = decide (((k : Int) % W + (k : Int) / W) % nu = re) := by
  unfold inCol; rw [List.getD_eq_getElem?_getD, List.getElem?_eq_getElem hk]; simp [h]
theorem cnt_t {p : Nat → Bool} {k : Nat} (h : p k = true) : cntTo p (k + 1) = cntTo p k + 1 := by rw [cntTo_succ, if_pos h]
theorem cnt_f {p : Nat → Bool} {k : Nat} (h : p k = false) : cntTo p (k + 1) = cntTo p k := by rw [cntTo_succ, h]; simp

set_option maxHeartbeats 1000000 in
theorem colourMany_any (W T nu re : Int) (A : Option Addr) (c : Nat) (bs : List Bool) (w : World) (hr : Rd w A (bs.map .bool)) (h1 : 1 ≤ W) (h2 : W ≤ 6) (hn : bs.length ≤ 36) (n1 : 1 ≤ nu) (n2 : nu ≤ 4) :
    Calls Try.prog 76 #[.agg #[.int .i64 W, .int .i64 T, .slice A bs.length c], .int .i64 nu, .int .i64 re] w fun e w' => e = .returned (.int .i64 (cntTo (inCol W nu re bs) bs.length)) ∧ Below w.heap.size w w' := by
  have hb0 : Below (w.heap.size + 1) (w.alloc (.cells #[.int .i64 W, .int .i64 T, .slice A bs.length c] 31)) (w.alloc (.cells #[.int .i64 W, .int .i64 T, .slice A bs.length c] 31)) := Below.refl _ _
  go_enter Try.func76, Try.ntmps76
  go_wp2
  go_loopw [7, 15] (fun n i wr => ∃ k : Nat, k ≤ bs.length ∧ i = .int .i64 k ∧ n = .int .i64 (cntTo (inCol W nu re bs) k) ∧ Below (w.heap.size + 1) (w.alloc (.cells #[.int .i64 W, .int .i64 T, .slice A bs.length c] 31)) wr) (fun _ i _ => bs.length - (intOf i).toNat)
  case atStart => exact ⟨0, Nat.zero_le _, rfl, rfl, hb0⟩
  case round =>
    clear hb0
    obtain ⟨k, hk, rfl, rfl, hbel⟩ := hrel
    have hd := cntTo_bd (inCol W nu re bs) k
    by_cases hlt : k < bs.length
    · obtain ⟨ad, rfl, hc⟩ := ((hr.alloc _).below hbel (by simp)).atM hlt
      have c0 := box_cell hbel 0
      have c1 := box_cell hbel 1
      have c2 := box_cell hbel 2
      simp at c0 c1 c2
      obtain ⟨b1, b2, b3, b4⟩ := xy_bd h1 h2 (show (0 : Int) ≤ k by omega) (by omega)
      cases hb : bs[k] with
      | true =>
        have HI := Lib.hid (inCol_t (W := W) (nu := nu) (re := re) hlt hb)
        rw [hb] at hc
        clear hb
        by_cases hq : ((k : Int) % W + (k : Int) / W) % nu = re
        · have hq' : (((k : Int) % W + (k : Int) / W) % nu == re) = true := by simpa using hq
          have HS := Lib.hid (cnt_t (HI.out.trans (by simpa using hq)))
          clear hq HI
          go_wp2_with (go_at_call 97; refine (xy_any _ _ _ _ _ h1 h2 (by omega) (by omega)).mono ?_; rintro e w1 ⟨rfl, hbel1⟩)
          go_roundw
          case rel => exact ⟨k + 1, by omega, by go_num, by rw [HS.out], hbel.trans (hbel1.mono (by have := hbel.size; simp at this; omega))⟩
          case measure => simp [intOf]; omega
        · have hq' : (((k : Int) % W + (k : Int) / W) % nu == re) = false := by simpa using hq
          have HS := Lib.hid (cnt_f (HI.out.trans (by simpa using hq)))
          clear hq HI
          go_wp2_with (go_at_call 97; refine (xy_any _ _ _ _ _ h1 h2 (by omega) (by omega)).mono ?_; rintro e w1 ⟨rfl, hbel1⟩)
          go_roundw
          case rel => exact ⟨k + 1, by omega, by go_num, by rw [HS.out], hbel.trans (hbel1.mono (by have := hbel.size; simp at this; omega))⟩
          case measure => simp [intOf]; omega
      | false =>
        have HS := Lib.hid (cnt_f (inCol_f (W := W) (nu := nu) (re := re) hlt hb))
        rw [hb] at hc
        clear hb
        go_wp2_with (go_at_call 97; refine (xy_any _ _ _ _ _ h1 h2 (by omega) (by omega)).mono ?_; rintro e w1 ⟨rfl, hbel1⟩)
        go_roundw
        case rel => exact ⟨k + 1, by omega, by go_num, by rw [HS.out], hbel.trans (hbel1.mono (by have := hbel.size; simp at this; omega))⟩
        case measure => simp [intOf]; omega
    · go_wp2
      go_ret
      have hk2 : k = bs.length := by omega
      subst hk2
      exact ⟨rfl, ((Below.refl _ _).alloc (Nat.le_refl _) _).trans (hbel.mono (by omega))⟩

def colourOf (W T : Int) (bs : List Bool) (nu re : Int) : Int := if validB W T bs = true ∧ 1 ≤ nu ∧ nu ≤ 4 ∧ 0 ≤ re ∧ re ≤ nu - 1 then cntTo (inCol W nu re bs) bs.length else -1
theorem valid_len {W T : Int} {bs : List Bool} (h : validB W T bs = true) : 1 ≤ W ∧ W ≤ 6 ∧ 1 ≤ T ∧ T ≤ 6 ∧ bs.length ≤ 36 ∧ (bs.length : Int) = W * T := by
  obtain ⟨⟨a, b⟩, ⟨c, d⟩, e, _⟩ := validB_iff.1 h
  have := mul_bd a b c d
  exact ⟨a, b, c, d, by omega, e⟩

set_option maxHeartbeats 1000000 in
theorem iColourMany_any (W T nu re : Int) (A : Option Addr) (c : Nat) (bs : List Bool) (w : World) (hr : Rd w A (bs.map .bool)) (hn : bs.length ≤ maxLen) :
    Calls Try.prog 33 #[.agg #[.int .i64 W, .int .i64 T, .slice A bs.length c], .int .i64 nu, .int .i64 re] w fun e w' => e = .returned (.int .i64 (colourOf W T bs nu re)) ∧ Below w.heap.size w w' := by
  cases hv : validB W T bs with
  | true =>
    obtain ⟨h1, h2, h3, h4, h5, -⟩ := valid_len hv
    by_cases hnu : 1 ≤ nu ∧ nu ≤ 4
    · obtain ⟨n1, n2⟩ := hnu
      by_cases hre : 0 ≤ re ∧ re ≤ nu - 1
      · obtain ⟨r1, r2⟩ := hre
        have HF := Lib.hid (show cntTo (inCol W nu re bs) bs.length = colourOf W T bs nu re by unfold colourOf; rw [if_pos ⟨hv, n1, n2, r1, r2⟩])
        go_enter Try.func33, Try.ntmps33
        go_wp2_with (first | (go_at_call 58; refine (iRegionValid_any _ _ _ _ _ _ (by repeat (first | exact hr | apply Rd.alloc)) hn).mono ?_; rintro e w1 ⟨rfl, hbel⟩; obtain ⟨hc0, hc1, hc2⟩ := box3 hbel) | (go_at_call 52; refine (in_t _ _ _ _ (by omega) (by omega)).mono ?_; rintro e w' ⟨rfl, rfl⟩))
        refine (colourMany_any W T nu re A c bs _ ((hr.alloc _).belo (by assumption)) h1 h2 h5 n1 n2).mono ?_
        rintro e w2 ⟨rfl, hbel2⟩
        go_wp2
        go_ret
        exact ⟨ret_i HF.out, (((Below.refl _ _).alloc (Nat.le_refl _) _).trans (hbel.mono (by simp))).trans (hbel2.mono (by have := hbel.size; simp at this; omega))⟩
      · have hre' : re < 0 ∨ nu - 1 < re := by omega
        have HF := Lib.hid (show -1 = colourOf W T bs nu re by unfold colourOf; rw [if_neg (fun h => hre ⟨h.2.2.2.1, h.2.2.2.2⟩)])
        clear hre
        go_enter Try.func33, Try.ntmps33
        go_wp2_with (first | (go_at_call 58; refine (iRegionValid_any _ _ _ _ _ _ (by repeat (first | exact hr | apply Rd.alloc)) hn).mono ?_; rintro e w1 ⟨rfl, hbel⟩; obtain ⟨hc0, hc1, hc2⟩ := box3 hbel) | (go_at_call 52; refine (in_t _ _ _ _ (by omega) (by omega)).mono ?_; rintro e w' ⟨rfl, rfl⟩) | (go_at_call 52; refine (in_f _ _ _ _ (by omega)).mono ?_; rintro e w' ⟨rfl, rfl⟩))
        go_ret
        exact ⟨ret_i HF.out, ((Below.refl _ _).alloc (Nat.le_refl _) _).trans ((show Below _ _ _ by assumption).mono (by simp))⟩

    · have hnu' : nu < 1 ∨ 4 < nu := by omega
      have HF := Lib.hid (show -1 = colourOf W T bs nu re by unfold colourOf; rw [if_neg (fun h => hnu ⟨h.2.1, h.2.2.1⟩)])
      clear hnu
      go_enter Try.func33, Try.ntmps33
      go_wp2_with (first | (go_at_call 58; refine (iRegionValid_any _ _ _ _ _ _ (by repeat (first | exact hr | apply Rd.alloc)) hn).mono ?_; rintro e w1 ⟨rfl, hbel⟩; obtain ⟨hc0, hc1, hc2⟩ := box3 hbel) | (go_at_call 52; refine (in_t _ _ _ _ (by omega) (by omega)).mono ?_; rintro e w' ⟨rfl, rfl⟩) | (go_at_call 52; refine (in_f _ _ _ _ (by omega)).mono ?_; rintro e w' ⟨rfl, rfl⟩))
      go_ret
      exact ⟨ret_i HF.out, ((Below.refl _ _).alloc (Nat.le_refl _) _).trans ((show Below _ _ _ by assumption).mono (by simp))⟩

  | false =>
    have HF := Lib.hid (show -1 = colourOf W T bs nu re by unfold colourOf; rw [if_neg (fun h => by rw [hv] at h; cases h.1)])
    go_enter Try.func33, Try.ntmps33
    go_wp2_with (first | (go_at_call 58; refine (iRegionValid_any _ _ _ _ _ _ (by repeat (first | exact hr | apply Rd.alloc)) hn).mono ?_; rintro e w1 ⟨rfl, hbel⟩; obtain ⟨hc0, hc1, hc2⟩ := box3 hbel) | (go_at_call 52; refine (in_t _ _ _ _ (by omega) (by omega)).mono ?_; rintro e w' ⟨rfl, rfl⟩) | (go_at_call 52; refine (in_f _ _ _ _ (by omega)).mono ?_; rintro e w' ⟨rfl, rfl⟩))
    go_ret
    exact ⟨ret_i HF.out, ((Below.refl _ _).alloc (Nat.le_refl _) _).trans ((show Below _ _ _ by assumption).mono (by simp))⟩

set_option maxHeartbeats 1000000 in
theorem sColourMany_any (W T nu re : Int) (A : Option Addr) (c : Nat) (bs : List Bool) (w : World) (hr : Rd w A (bs.map .bool)) (hn : bs.length ≤ maxLen) :
    Calls Try.prog 34 #[.agg #[.int .i64 W, .int .i64 T, .slice A bs.length c], .int .i64 nu, .int .i64 re] w fun e w' => e = .returned (.int .i64 (colourOf W T bs nu re)) ∧ Below w.heap.size w w' := by
  cases hv : validB W T bs with
  | true =>
    obtain ⟨h1, h2, h3, h4, h5, -⟩ := valid_len hv
    by_cases hnu : 1 ≤ nu ∧ nu ≤ 4
    · obtain ⟨n1, n2⟩ := hnu
      by_cases hre : 0 ≤ re ∧ re ≤ nu - 1
      · obtain ⟨r1, r2⟩ := hre
        have HF := Lib.hid (show cntTo (inCol W nu re bs) bs.length = colourOf W T bs nu re by unfold colourOf; rw [if_pos ⟨hv, n1, n2, r1, r2⟩])
        go_enter Try.func34, Try.ntmps34
        go_wp2_with (first | (go_at_call 77; refine (sRegionValid_any _ _ _ _ _ _ (by repeat (first | exact hr | apply Rd.alloc)) hn).mono ?_; rintro e w1 ⟨rfl, hbel⟩; obtain ⟨hc0, hc1, hc2⟩ := box3 hbel) | (go_at_call 56; refine (l1in_t _ _ _ _ (by omega) (by omega)).mono ?_; rintro e w' ⟨rfl, rfl⟩))
        have hbs := hbel.mono (B' := w.heap.size + 1) (by simp)
        clear hbel
        go_loopw [7, 8] (fun n i wr => ∃ k : Nat, k ≤ bs.length ∧ i = .int .i64 k ∧ n = .int .i64 (cntTo (inCol W nu re bs) k) ∧ Below (w.heap.size + 1) (w.alloc (.cells #[.int .i64 W, .int .i64 T, .slice A bs.length c] 31)) wr) (fun _ i _ => bs.length - (intOf i).toNat)
        case atStart => exact ⟨0, Nat.zero_le _, rfl, rfl, hbs⟩
        case round =>
          clear hbs hc0 hc1 hc2
          obtain ⟨k, hk, rfl, rfl, hbel⟩ := hrel
          have hd := cntTo_bd (inCol W nu re bs) k
          obtain ⟨c0, c1, c2⟩ := box3 (hbel.mono (by simp))
          by_cases hlt : k < bs.length
          · obtain ⟨ad, rfl, hc⟩ := ((hr.alloc _).below hbel (by simp)).atM hlt
            obtain ⟨b1, b2, b3, b4⟩ := xy_bd h1 h2 (show (0 : Int) ≤ k by omega) (by omega)
            cases hb : bs[k] with
            | true =>
              have HI := Lib.hid (inCol_t (W := W) (nu := nu) (re := re) hlt hb)
              rw [hb] at hc
              clear hb
              by_cases hq : ((k : Int) % W + (k : Int) / W) % nu = re
              · have hq' : (((k : Int) % W + (k : Int) / W) % nu == re) = true := by simpa using hq
                have HS := Lib.hid (cnt_t (HI.out.trans (by simpa using hq)))
                clear hq HI
                go_wp2
                go_quiet (fail)
                go_wp2
                go_roundw
                case rel => exact ⟨k + 1, by omega, by go_num, by rw [HS.out], below_drewN hbel _⟩
                case measure => simp [intOf]; omega
              · have hq' : (((k : Int) % W + (k : Int) / W) % nu == re) = false := by simpa using hq
                have HS := Lib.hid (cnt_f (HI.out.trans (by simpa using hq)))
                clear hq HI
                go_wp2
                go_quiet (fail)
                go_wp2
                go_roundw
                case rel => exact ⟨k + 1, by omega, by go_num, by rw [HS.out], below_drewN hbel _⟩
                case measure => simp [intOf]; omega
            | false =>
              have HS := Lib.hid (cnt_f (inCol_f (W := W) (nu := nu) (re := re) hlt hb))
              rw [hb] at hc
              clear hb
              go_wp2
              go_quiet (fail)
              go_wp2
              go_roundw
              case rel => exact ⟨k + 1, by omega, by go_num, by rw [HS.out], below_drewN hbel _⟩
              case measure => simp [intOf]; omega
          · go_wp2
            go_ret
            have hk2 : k = bs.length := by omega
            subst hk2
            exact ⟨ret_i HF.out, ((Below.refl _ _).alloc (Nat.le_refl _) _).trans (hbel.mono (by omega))⟩
      · have hre' : re < 0 ∨ nu - 1 < re := by omega
        have HF := Lib.hid (show -1 = colourOf W T bs nu re by unfold colourOf; rw [if_neg (fun h => hre ⟨h.2.2.2.1, h.2.2.2.2⟩)])
        clear hre
        go_enter Try.func34, Try.ntmps34
        go_wp2_with (first | (go_at_call 77; refine (sRegionValid_any _ _ _ _ _ _ (by repeat (first | exact hr | apply Rd.alloc)) hn).mono ?_; rintro e w1 ⟨rfl, hbel⟩; obtain ⟨hc0, hc1, hc2⟩ := box3 hbel) | (go_at_call 56; refine (l1in_t _ _ _ _ (by omega) (by omega)).mono ?_; rintro e w' ⟨rfl, rfl⟩) | (go_at_call 56; refine (l1in_f _ _ _ _ (by omega)).mono ?_; rintro e w' ⟨rfl, rfl⟩))
        go_ret
        exact ⟨ret_i HF.out, ((Below.refl _ _).alloc (Nat.le_refl _) _).trans ((show Below _ _ _ by assumption).mono (by simp))⟩

    · have hnu' : nu < 1 ∨ 4 < nu := by omega
      have HF := Lib.hid (show -1 = colourOf W T bs nu re by unfold colourOf; rw [if_neg (fun h => hnu ⟨h.2.1, h.2.2.1⟩)])
      clear hnu
      go_enter Try.func34, Try.ntmps34
      go_wp2_with (first | (go_at_call 77; refine (sRegionValid_any _ _ _ _ _ _ (by repeat (first | exact hr | apply Rd.alloc)) hn).mono ?_; rintro e w1 ⟨rfl, hbel⟩; obtain ⟨hc0, hc1, hc2⟩ := box3 hbel) | (go_at_call 56; refine (l1in_t _ _ _ _ (by omega) (by omega)).mono ?_; rintro e w' ⟨rfl, rfl⟩) | (go_at_call 56; refine (l1in_f _ _ _ _ (by omega)).mono ?_; rintro e w' ⟨rfl, rfl⟩))
      go_ret
      exact ⟨ret_i HF.out, ((Below.refl _ _).alloc (Nat.le_refl _) _).trans ((show Below _ _ _ by assumption).mono (by simp))⟩

  | false =>
    have HF := Lib.hid (show -1 = colourOf W T bs nu re by unfold colourOf; rw [if_neg (fun h => by rw [hv] at h; cases h.1)])
    go_enter Try.func34, Try.ntmps34
    go_wp2_with (first | (go_at_call 77; refine (sRegionValid_any _ _ _ _ _ _ (by repeat (first | exact hr | apply Rd.alloc)) hn).mono ?_; rintro e w1 ⟨rfl, hbel⟩; obtain ⟨hc0, hc1, hc2⟩ := box3 hbel) | (go_at_call 56; refine (l1in_t _ _ _ _ (by omega) (by omega)).mono ?_; rintro e w' ⟨rfl, rfl⟩) | (go_at_call 56; refine (l1in_f _ _ _ _ (by omega)).mono ?_; rintro e w' ⟨rfl, rfl⟩))
    go_ret
    exact ⟨ret_i HF.out, ((Below.refl _ _).alloc (Nat.le_refl _) _).trans ((show Below _ _ _ by assumption).mono (by simp))⟩

end Go.Proofs.Ythkpiacanfajbaa
