/- The walk of the law FnExactSamePiece. -/
import Derived.Test.YtcghbpnhdpmilaaFormJ
import Derived.Test.YtcghbpnhdpmilaaFormU
import Derived.Test.YtcghbpnhdpmilaaCellMark
namespace Go.Proofs.Ytcghbpnhdpmilaa
open Go.RowKit

theorem sameVW (a b : List Ce) : sameV a b = sameW a b := rfl
set_option maxHeartbeats 4000000 in
theorem fnExactSamePiece_walk {w0 : World} (A : Option Addr) (c : Nat) (ps : List Ce) (hn : ps.length ≤ maxLen) (_hc : ps.length ≤ c) (hr : RdC w0 A ps) (A' : Option Addr) (c' : Nat) (qs : List Ce) (hn' : qs.length ≤ maxLen) (_hc' : qs.length ≤ c') (hr' : RdC w0 A' qs) :
    Calls Try.prog 7 #[.slice A ps.length c, .slice A' qs.length c'] w0 fun e w' => e = .returned (.bool true) ∧ Below w0.heap.size w0 w' := by
  clear _hc _hc'
  have HNP := Lib.hid hn
  have HNQ := Lib.hid hn'
  by_cases hs : ps.length ≤ 1048576
  · have hs1 : (ps.length : Int) ≤ 1048576 := by omega
    by_cases ht : (qs.length : Int) ≤ 1048576 - ps.length
    · have cS := Lib.hid (fun (w : World) (A A' : Option Addr) (R : RdC w A ps) (R' : RdC w A' qs) => sSamePiece_any A A' ps.length qs.length ps qs w R R' hn hn' (Nat.le_refl _) (Nat.le_refl _))
      have cI := Lib.hid (fun (w : World) (A A' : Option Addr) (R : RdC w A ps) (R' : RdC w A' qs) => by
        have := iSamePiece_any A A' ps.length qs.length ps qs w R R' hn hn' (Nat.le_refl _) (Nat.le_refl _)
        rw [sameVW] at this
        exact this)
      obtain ⟨V, hV⟩ : ∃ V, sameW ps qs = V := ⟨_, rfl⟩
      rw [hV] at cS cI
      clear hV
      have hvv : (V != V) = false := by simp
      have Z0 := Below.refl w0.heap.size w0
      have hpl : ps.length ≤ 10000000 := by omega
      have hql : qs.length ≤ 10000000 := by omega
      have hge : ¬ ((1048576 : Int) - ps.length < 0) := by omega
      clear hn hn'
      go_enter Try.func7, Try.ntmps7
      go_wp2_with fail
      refine (szCellS_t _ _ _ _ _ (by omega) hs1).mono ?_
      rintro e w1 ⟨rfl, rfl⟩
      go_wp2_with fail
      refine (szCellS_t _ _ _ _ _ (by omega) ht).mono ?_
      rintro e w1 ⟨rfl, rfl⟩
      go_wp2_with fail
      refine (toCellS_any _ _ _ _ hr hpl).mono ?_
      rintro e w2 ⟨A2, rfl, o2, b2⟩
      have Z2 := bl_go Z0 b2
      have S2 : RdC w2 A2 ps := OwnC.rd o2
      clear o2 b2 Z0
      go_wp2_with fail
      refine (toCellS_any _ _ _ _ (Rd.belo hr' Z2) hql).mono ?_
      rintro e w3 ⟨A3, rfl, o3, b3⟩
      have Z3 := bl_go Z2 b3
      have S3 : RdC w3 A2 ps := Rd.belo S2 b3
      have T3 : RdC w3 A3 qs := OwnC.rd o3
      clear o3 b3 Z2 S2
      go_wp2_with fail
      refine (cS.out _ _ _ S3 T3).mono ?_
      rintro e w4 ⟨rfl, b4⟩
      have Z4 := bl_go Z3 b4
      clear S3 T3 Z3 b4
      go_wp2_with fail
      refine (toCellS_any _ _ _ _ (Rd.belo hr Z4) hpl).mono ?_
      rintro e w5 ⟨A5, rfl, o5, b5⟩
      have Z5 := bl_go Z4 b5
      have S5 : RdC w5 A5 ps := OwnC.rd o5
      clear o5 b5 Z4
      go_wp2_with fail
      refine (toCellS_any _ _ _ _ (Rd.belo hr' Z5) hql).mono ?_
      rintro e w6 ⟨A6, rfl, o6, b6⟩
      have Z6 := bl_go Z5 b6
      have S6 : RdC w6 A5 ps := Rd.belo S5 b6
      have T6 : RdC w6 A6 qs := OwnC.rd o6
      clear o6 b6 Z5 S5
      go_wp2_with fail
      refine (cI.out _ _ _ S6 T6).mono ?_
      rintro e w7 ⟨rfl, b7⟩
      have Z7 := bl_go Z6 b7
      have S7 : RdC w7 A5 ps := Rd.belo S6 b7
      have T7 : RdC w7 A6 qs := Rd.belo T6 b7
      clear b7 Z6 S6 T6
      go_wp2_with fail
      refine (toCellS_any _ _ _ _ (Rd.belo hr Z7) hpl).mono ?_
      rintro e w8 ⟨A8, rfl, o8, b8⟩
      have Z8 := bl_go Z7 b8
      have S8 : RdC w8 A5 ps := Rd.belo S7 b8
      have T8 : RdC w8 A6 qs := Rd.belo T7 b8
      have U8 : RdC w8 A8 ps := OwnC.rd o8
      clear o8 b8 Z7 S7 T7
      go_wp2_with fail
      refine (eqCellS_t _ _ _ _ ps _ S8 U8 HNP.out).mono ?_
      rintro e w9 ⟨rfl, b9⟩
      have Z9 := bl_go Z8 b9
      have T9 : RdC w9 A6 qs := Rd.belo T8 b9
      clear b9 Z8 S8 T8 U8
      go_wp2_with fail
      refine (toCellS_any _ _ _ _ (Rd.belo hr' Z9) hql).mono ?_
      rintro e w10 ⟨A10, rfl, o10, b10⟩
      have Z10 := bl_go Z9 b10
      have T10 : RdC w10 A6 qs := Rd.belo T9 b10
      have U10 : RdC w10 A10 qs := OwnC.rd o10
      clear o10 b10 Z9 T9
      go_wp2_with fail
      refine (eqCellS_t _ _ _ _ qs _ T10 U10 HNQ.out).mono ?_
      rintro e w11 ⟨rfl, b11⟩
      go_wp2
      go_ret
      exact ⟨rfl, bl_go Z10 b11⟩
    · have ht' : (1048576 : Int) - ps.length < qs.length := by omega
      go_enter Try.func7, Try.ntmps7
      go_wp2_with fail
      refine (szCellS_t _ _ _ _ _ (by omega) hs1).mono ?_
      rintro e w1 ⟨rfl, rfl⟩
      have hge : ¬ ((1048576 : Int) - ps.length < 0) := by omega
      go_wp2_with fail
      refine (szCellS_f _ _ _ _ _ (by omega) HNQ.out ht').mono ?_
      rintro e w1 ⟨rfl, rfl⟩
      go_wp2
      go_ret
      exact ⟨rfl, Below.refl _ _⟩
  · have hs1 : (1048576 : Int) < ps.length := by omega
    go_enter Try.func7, Try.ntmps7
    go_wp2_with fail
    refine (szCellS_f _ _ _ _ _ (by omega) HNP.out hs1).mono ?_
    rintro e w1 ⟨rfl, rfl⟩
    go_wp2
    go_ret
    exact ⟨rfl, Below.refl _ _⟩
end Go.Proofs.Ytcghbpnhdpmilaa
