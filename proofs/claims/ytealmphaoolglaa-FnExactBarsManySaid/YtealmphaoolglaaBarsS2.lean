/- Contract: the reference's BarsMany, for all arguments. -/
import Derived.Test.YtealmphaoolglaaBarsS
namespace Go.Proofs.Ytealmphaoolglaa
open Go.RowKit

set_option maxRecDepth 100000 in
set_option maxHeartbeats 1000000 in
theorem sBarsMany_any (W T long : Int) (A : Option Addr) (c : Nat) (bs : List Bool) (w : World) (hr : Rd w A (bs.map .bool)) (hm : bs.length ≤ maxLen) :
    Calls Try.prog 49 #[.agg #[.int .i64 W, .int .i64 T, .slice A bs.length c], .int .i64 long] w fun e w' => e = .returned (.int .i64 (barsOf W T bs long)) ∧ Below w.heap.size w w' := by
  have X0 := C3.new w (.int .i64 W) (.int .i64 T) (.slice A bs.length c) 45
  have B0 := bl_alloc (Below.refl w.heap.size w) (.cells #[.int .i64 W, .int .i64 T, .slice A bs.length c] 45)
  have R0 := hr.belo B0
  cases hv : validB W T bs with
  | true =>
    obtain ⟨h1, h2, h3, h4, h5, h6⟩ := valid_len hv
    have hcnt : cnt bs ≤ 24 := (validB_iff.1 hv).2.2.2
    have hpos := mul_bd h1 h2 h3 h4
    obtain ⟨b, off, rfl, -⟩ := hr.atEM (k := 0) (by omega)
    have HV := Lib.hid hv
    have H6 := Lib.hid h6
    have HCN := Lib.hid hcnt
    have hrv := fun z R => sRegionValid_any W T (some ⟨b, off, none⟩) c bs z R hm
    rw [hv] at hrv
    have HRV := Lib.hid hrv
    clear hv h6 hcnt hrv hpos
    by_cases hl : 1 ≤ long ∧ long ≤ 4
    · obtain ⟨l1, l2⟩ := hl
      have HB := Lib.hid (barsOf_ok HV.out l1 l2)
      obtain ⟨ln, rfl⟩ := Int.eq_ofNat_of_zero_le (show 0 ≤ long by omega)
      have CB := Lib.hid (fun (z : World) (R : Rd z (some ⟨b, off, none⟩) (bs.map .bool)) => barsS_all W T ln bs.length h1 h2 h3 h4 (by omega) (by omega) H6.out.symm 24 (Nat.le_refl _) bs b off c z R rfl HCN.out)
      go_enter Try.func49, Try.ntmps49
      go_wp2_with fail
      refine (HRV.out _ R0).mono ?_
      rintro e w1 ⟨rfl, b1⟩
      have B1 := bl_go B0 b1
      obtain ⟨x0, x1, x2⟩ := X0.belo b1
      have R1 := R0.belo b1
      go_wp2_with (go_at_call 53; refine (l1in_t _ _ _ _ (by omega) (by omega)).mono ?_; rintro e w' ⟨rfl, rfl⟩)
      refine (CB.out _ R1).mono ?_
      rintro e w2 ⟨rfl, b2⟩
      go_wp2
      go_ret
      exact ⟨ret_i (by rw [HB.out]; rfl), bl_go B1 b2⟩
    · have HE := Lib.hid (barsOf_no (W := W) (T := T) (bs := bs) (fun h => hl h.2))
      have hl' : long < 1 ∨ 4 < long := by omega
      clear hl
      go_enter Try.func49, Try.ntmps49
      go_wp2_with fail
      refine (HRV.out _ R0).mono ?_
      rintro e w1 ⟨rfl, b1⟩
      have B1 := bl_go B0 b1
      go_wp2_with (go_at_call 53; refine (l1in_f _ _ _ _ hl').mono ?_; rintro e w' ⟨rfl, rfl⟩)
      go_ret
      exact ⟨ret_i HE.out.symm, B1⟩
  | false =>
    have HE := Lib.hid (barsOf_no (W := W) (T := T) (bs := bs) (long := long) (fun h => by rw [hv] at h; exact absurd h.1 (by decide)))
    go_enter Try.func49, Try.ntmps49
    go_wp2_with fail
    refine (sRegionValid_any W T A c bs _ R0 hm).mono ?_
    rintro e w1 ⟨rfl, b1⟩
    rw [hv]
    have B1 := bl_go B0 b1
    go_wp2
    go_ret
    exact ⟨ret_i HE.out.symm, B1⟩
end Go.Proofs.Ytealmphaoolglaa
