/- Contracts: dark cells. -/
import Derived.Test.YtnciemnlnijhfaaColour
import Derived.Test.YtnciemnlnijhfaaApp
namespace Go.Proofs.Ytnciemnlnijhfaa
open Go.RowKit

def darkB (W c : Int) : Bool := (c % W + c / W) % 2 == 0
/-- the numbers with a property, in order -/
def pickTo (p : Nat → Bool) (k : Nat) : List Int := ((List.range k).filter p).map fun i : Nat => (i : Int)
theorem pick_t {p : Nat → Bool} {k : Nat} (h : p k = true) : pickTo p (k + 1) = pickTo p k ++ [(k : Int)] := by
  unfold pickTo; rw [List.range_succ, List.filter_append]; simp [h]
theorem pick_f {p : Nat → Bool} {k : Nat} (h : p k = false) : pickTo p (k + 1) = pickTo p k := by
  unfold pickTo; rw [List.range_succ, List.filter_append]; simp [h]
theorem pick_len (p : Nat → Bool) (k : Nat) : (pickTo p k).length ≤ k := by
  unfold pickTo; rw [List.length_map]; have := List.length_filter_le p (List.range k); simpa using this
/-- whether a cell of the region is dark, or light -/
def isCol (W : Int) (bs : List Bool) (d : Bool) (i : Nat) : Bool := bs.getD i false && (darkB W i == d)
theorem isCol_f {W : Int} {bs : List Bool} {d : Bool} {k : Nat} (hk : k < bs.length) (h : bs[k] = false) : isCol W bs d k = false := by
  unfold isCol; rw [List.getD_eq_getElem?_getD, List.getElem?_eq_getElem hk]; simp [h]
theorem isCol_t {W : Int} {bs : List Bool} {d : Bool} {k : Nat} (hk : k < bs.length) (h : bs[k] = true) : isCol W bs d k = (darkB W k == d) := by
  unfold isCol; rw [List.getD_eq_getElem?_getD, List.getElem?_eq_getElem hk]; simp [h]
def darkL (W : Int) (bs : List Bool) (d : Bool) : List Int := pickTo (isCol W bs d) bs.length

set_option maxHeartbeats 400000 in
theorem dark_any (W T : Int) (S : Value) (c : Int) (w : World) (h1 : 1 ≤ W) (h2 : W ≤ 6) (h3 : 0 ≤ c) (h4 : c ≤ 36) :
    Calls Try.prog 111 #[.agg #[.int .i64 W, .int .i64 T, S], .int .i64 c] w fun e w' => e = .returned (.bool (darkB W c)) ∧ Below w.heap.size w w' := by
  obtain ⟨b1, b2, b3, b4⟩ := xy_bd h1 h2 h3 h4
  go_enter Try.func111, Try.ntmps111
  go_wp2_with (go_at_call 87; refine (xy_any _ _ _ _ _ h1 h2 h3 h4).mono ?_; rintro e w1 ⟨rfl, hb1⟩)
  go_ret
  exact ⟨rfl, bl_go (bl_alloc (Below.refl _ _) _) hb1⟩

/-- what is returned for a region that is not valid -/
def darkV (W T : Int) (bs : List Bool) : List Int := if validB W T bs = true then darkL W bs true else []
set_option maxHeartbeats 1000000 in
theorem coloured_any (W T : Int) (d : Bool) (A : Option Addr) (c : Nat) (bs : List Bool) (w : World) (hr : Rd w A (bs.map .bool)) (h1 : 1 ≤ W) (h2 : W ≤ 6) (hn : bs.length ≤ 36) :
    Calls Try.prog 54 #[.agg #[.int .i64 W, .int .i64 T, .slice A bs.length c], .bool d] w (NewW (darkL W bs d) w) := by
  have X0 := C3.new w (.int .i64 W) (.int .i64 T) (.slice A bs.length c) 25
  go_enter Try.func54, Try.ntmps54
  go_wp2_with fail
  go_loopw [5, 11] (fun v i wr => ∃ k : Nat, k ≤ bs.length ∧ i = .int .i64 k ∧ OwnI wr (w.heap.size + 1) v (pickTo (isCol W bs d) k) ∧ Below w.heap.size w wr ∧ C3 wr w.heap.size (.int .i64 W) (.int .i64 T) (.slice A bs.length c) ∧ w.heap.size + 1 ≤ wr.heap.size) (fun _ i _ => bs.length - (intOf i).toNat)
  case atStart => exact ⟨0, Nat.zero_le _, rfl, OwnI.nil _ _, bl_alloc (Below.refl _ _) _, X0, by simp⟩
  case round =>
    clear X0
    obtain ⟨k, hk, rfl, hown, B1, X1, hsz⟩ := hrel
    by_cases hlt : k < bs.length
    · obtain ⟨ad, rfl, hc⟩ := (hr.belo B1).atM hlt
      obtain ⟨x0, x1, x2⟩ := id X1
      have HL := pick_len (isCol W bs d) k
      cases hb : bs[k] with
      | true =>
        have HI := Lib.hid (isCol_t (W := W) (d := d) hlt hb)
        rw [hb] at hc
        clear hb
        cases hq : (darkB W k == d) with
        | true =>
          have HS := Lib.hid (pick_t (HI.out.trans hq))
          clear HI
          go_wp2_with (first
            | (go_at_call 111; refine (dark_any _ _ _ _ _ h1 h2 (by omega) (by omega)).mono ?_; rintro e w2 ⟨rfl, b2⟩; have hown2 := hown.belo b2; have B2 := bl_go B1 b2; have X2 := X1.belo b2; have hs2 := b2.size)
            | (at_builtin; refine app_int _ rfl _ _ rfl (w.heap.size + 1) _ _ rfl hown2 _ rfl (by omega) (by omega) ?_; intro A' c' w3 hown3 hg3))
          have b3 := app_below (Below.refl (w.heap.size + 1) w2) (Nat.le_refl _) (by omega) hown2 hg3
          go_roundw
          case rel => exact ⟨k + 1, by omega, by go_num, by rw [HS.out]; exact hown3, B2.trans (b3.mono (by omega)), X2.below b3 (by omega), by have := b3.size; omega⟩
          case measure => simp [intOf]; omega
        | false =>
          have HS := Lib.hid (pick_f (HI.out.trans hq))
          clear HI
          go_wp2_with (go_at_call 111; refine (dark_any _ _ _ _ _ h1 h2 (by omega) (by omega)).mono ?_; rintro e w2 ⟨rfl, b2⟩)
          go_roundw
          case rel => exact ⟨k + 1, by omega, by go_num, by rw [HS.out]; exact hown.belo b2, bl_go B1 b2, X1.belo b2, by have := b2.size; omega⟩
          case measure => simp [intOf]; omega
      | false =>
        have HS := Lib.hid (pick_f (isCol_f (W := W) (d := d) hlt hb))
        rw [hb] at hc
        clear hb
        go_wp2_with fail
        go_roundw
        case rel => exact ⟨k + 1, by omega, by go_num, by rw [HS.out]; exact hown, B1, X1, hsz⟩
        case measure => simp [intOf]; omega
    · obtain rfl : k = bs.length := by omega
      obtain ⟨A2, c2, rfl, hw⟩ := id hown
      go_wp2_with (go_at_call 109; refine (clip_any _ _ _ _ hown).mono ?_; rintro e w' ⟨rfl, rfl⟩)
      go_ret
      exact ⟨_, rfl, (Wr.of_own hw).lower (by omega), B1⟩



set_option maxHeartbeats 1000000 in
theorem sDarkCells_any (W T : Int) (A : Option Addr) (c : Nat) (bs : List Bool) (w : World) (hr : Rd w A (bs.map .bool)) (hn : bs.length ≤ maxLen) :
    Calls Try.prog 57 #[.agg #[.int .i64 W, .int .i64 T, .slice A bs.length c]] w (NewRd (darkV W T bs) w) := by
  have X0 := C3.new w (.int .i64 W) (.int .i64 T) (.slice A bs.length c) 25
  have X00 := X0.alloc (.cells #[] 3)
  have hn' := hn
  unfold maxLen at hn'
  cases hv : validB W T bs with
  | true =>
    obtain ⟨h1, h2, h3, h4, h5, -⟩ := valid_len hv
    rw [show darkV W T bs = darkL W bs true by unfold darkV; rw [if_pos hv]]
    have HV := Lib.hid hv
    clear hv X0
    have O0 : OwnI ((w.alloc (.cells #[.int .i64 W, .int .i64 T, .slice A bs.length c] 25)).alloc (.cells #[] 3)) (w.heap.size + 1) (.slice (some ⟨w.heap.size + 1, 0, none⟩) 0 0) [] := by
      have := OwnI.empty (w.alloc (.cells #[.int .i64 W, .int .i64 T, .slice A bs.length c] 25))
      simpa using this
    have B0 := bl_alloc (bl_alloc (Below.refl w.heap.size w) (.cells #[.int .i64 W, .int .i64 T, .slice A bs.length c] 25)) (.cells #[] 3)
    go_enter Try.func57, Try.ntmps57
    go_wp2_with fail
    go_loopw [3, 4] (fun v i wr => ∃ k : Nat, k ≤ bs.length ∧ i = .int .i64 k ∧ OwnI wr (w.heap.size + 1) v (pickTo (isCol W bs true) k) ∧ Below w.heap.size w wr ∧ C3 wr w.heap.size (.int .i64 W) (.int .i64 T) (.slice A bs.length c) ∧ w.heap.size + 1 ≤ wr.heap.size) (fun _ i _ => bs.length - (intOf i).toNat)
    case atStart => exact ⟨0, Nat.zero_le _, rfl, O0, B0, X00, by simp⟩
    case round =>
      clear X00 O0 B0
      obtain ⟨k, hk, rfl, hown, B1, X1, hsz⟩ := hrel
      obtain ⟨x0, x1, x2⟩ := id X1
      by_cases hlt : k < bs.length
      · have HL := pick_len (isCol W bs true) k
        go_wp2_with fail
        refine (sRegionValid_any _ _ _ _ _ _ (hr.belo B1) hn).mono ?_
        rintro e w2 ⟨rfl, b2⟩
        rw [HV.out]
        have hown2 := hown.belo b2
        have B2 := bl_go B1 b2
        have X2 := X1.belo b2
        have hs2 := b2.size
        clear x0 x1 x2 X1 hown B1
        obtain ⟨x0, x1, x2⟩ := id X2
        obtain ⟨ad, rfl, hc⟩ := (hr.belo B2).atM hlt
        obtain ⟨b1, b2, b3, b4⟩ := xy_bd h1 h2 (show (0 : Int) ≤ k by omega) (by omega)
        cases hb : bs[k] with
        | true =>
          have HI := Lib.hid (isCol_t (W := W) (d := true) hlt hb)
          rw [hb] at hc
          clear hb
          cases hq : (((k : Int) % W + (k : Int) / W) % 2 == 0) with
          | true =>
            have HS := Lib.hid (pick_t (HI.out.trans (show (darkB W k == true) = true by unfold darkB; rw [hq]; rfl)))
            clear HI
            go_wp2_with fail
            go_quiet (fail)
            go_wp2_with (at_builtin; refine app_int _ rfl _ _ rfl (w.heap.size + 1) _ _ rfl (hown2.drewN _) _ rfl (by omega) (by simp; omega) ?_; intro A' c' w3 hown3 hg3)
            have b5 := app_below (below_drewN (Below.refl (w.heap.size + 1) w2) _) (Nat.le_refl _) (by simp; omega) (hown2.drewN _) hg3
            go_roundw
            case rel => exact ⟨k + 1, by omega, by go_num, by rw [HS.out]; exact hown3, B2.trans (b5.mono (by omega)), X2.below b5 (by omega), by have := b5.size; omega⟩
            case measure => simp [intOf]; omega
          | false =>
            have HS := Lib.hid (pick_f (HI.out.trans (show (darkB W k == true) = false by unfold darkB; rw [hq]; rfl)))
            clear HI
            go_wp2_with fail
            go_quiet (fail)
            go_wp2_with fail
            go_roundw
            case rel => exact ⟨k + 1, by omega, by go_num, by rw [HS.out]; exact hown2.drewN _, below_drewN B2 _, X2, by simp; omega⟩
            case measure => simp [intOf]; omega
        | false =>
          have HS := Lib.hid (pick_f (isCol_f (W := W) (d := true) hlt hb))
          rw [hb] at hc
          clear hb
          go_wp2_with fail
          go_quiet (fail)
          go_wp2_with fail
          go_roundw
          case rel => exact ⟨k + 1, by omega, by go_num, by rw [HS.out]; exact hown2.drewN _, below_drewN B2 _, X2, by simp; omega⟩
          case measure => simp [intOf]; omega
      · obtain rfl : k = bs.length := by omega
        go_wp2
        go_ret
        exact hown.newRd B1 (by omega)
  | false =>
    rw [show darkV W T bs = [] by unfold darkV; rw [hv]; rfl]
    have HV := Lib.hid hv
    clear hv X0
    have O0 : OwnI ((w.alloc (.cells #[.int .i64 W, .int .i64 T, .slice A bs.length c] 25)).alloc (.cells #[] 3)) (w.heap.size + 1) (.slice (some ⟨w.heap.size + 1, 0, none⟩) 0 0) [] := by
      have := OwnI.empty (w.alloc (.cells #[.int .i64 W, .int .i64 T, .slice A bs.length c] 25))
      simpa using this
    have B0 := bl_alloc (bl_alloc (Below.refl w.heap.size w) (.cells #[.int .i64 W, .int .i64 T, .slice A bs.length c] 25)) (.cells #[] 3)
    by_cases h0 : 0 < bs.length
    · go_enter Try.func57, Try.ntmps57
      go_wp2_with fail
      refine wp_loop_rounds 1 ?_
      rw [rounds_succ]
      obtain ⟨x0, x1, x2⟩ := X00
      go_wp2_with fail
      refine (sRegionValid_any _ _ _ _ _ _ (by repeat (first | exact hr | apply Rd.alloc)) hn).mono ?_
      rintro e w2 ⟨rfl, b2⟩
      rw [HV.out]
      go_wp2
      go_ret
      exact (O0.belo b2).newRd (bl_go B0 b2) (by omega)
    · have h1 : bs = [] := List.eq_nil_of_length_eq_zero (by omega)
      subst h1
      go_enter Try.func57, Try.ntmps57
      go_wp2_with fail
      refine wp_loop_rounds 1 ?_
      rw [rounds_succ]
      obtain ⟨x0, x1, x2⟩ := X00
      go_wp2
      go_ret
      exact O0.newRd B0 (by omega)
theorem darkV_len (W T : Int) (bs : List Bool) {n : Nat} (h : bs.length ≤ n) : (darkV W T bs).length ≤ n := by
  unfold darkV
  split
  · exact Nat.le_trans (pick_len _ _) h
  · simp
end Go.Proofs.Ytnciemnlnijhfaa
