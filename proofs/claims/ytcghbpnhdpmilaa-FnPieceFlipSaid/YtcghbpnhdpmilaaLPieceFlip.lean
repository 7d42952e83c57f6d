/- The walk of the law FnPieceFlip. -/
import Derived.Test.YtcghbpnhdpmilaaSameC
import Derived.Test.YtcghbpnhdpmilaaMoveL
import Derived.Test.YtcghbpnhdpmilaaMoveI
namespace Go.Proofs.Ytcghbpnhdpmilaa
open Go.RowKit

set_option maxRecDepth 100000 in
set_option maxHeartbeats 2000000 in
theorem fnPieceFlip_walk {w0 : World} (A : Option Addr) (c : Nat) (bs : List Int) (hcap : bs.length ≤ c) (hm : bs.length ≤ maxLen) (hr : Rd w0 A (bs.map (.int .u8))) (hw : ∀ n ∈ bs, 0 ≤ n ∧ n ≤ 255) :
    Calls Try.prog 5 #[.slice A bs.length c] w0 fun e w' => e = .returned (.bool true) ∧ Below w0.heap.size w0 w' := by
  have HW := Lib.hid hw
  clear hw
  unfold maxLen at hm
  by_cases hn : bs.length ≤ 1048576
  · have hg : decide ((1048576 : Int) < (bs.length : Int)) = false := by simp; omega
    go_enter Try.func5, Try.ntmps5
    go_wp2_with fail
    refine (drawPieceFlip_any A c bs _ hr HW.out hn hcap).mono ?_
    rintro e w1 ⟨B, k, ps, rfl, R1, hk, hl, hnear, B1⟩
    clear hg hn hm hr HW hcap
    have HNR := Lib.hid hnear
    clear hnear
    have hmx : ps.length ≤ maxLen := by unfold maxLen; omega
    have CV := Lib.hid (fun (z : World) (R : RdC z B ps) => sPieceValid_any B k ps z R hmx hk)
    have CP := Lib.hid (fun (z : World) (R : RdC z B ps) => iPieceFlip_any B k ps z R hmx hk)
    have CQ := Lib.hid (fun (z : World) (R : RdC z B ps) => sPieceFlip_any B k ps z R (by omega) (near_ok HNR.out))
    obtain ⟨X, hX⟩ : ∃ X, mvdV flipC ps = X := ⟨_, rfl⟩
    have HX := Lib.hid hX
    have hXl : X.length ≤ 5 := by rw [← hX]; exact mvdV_len _ _
    rw [hX] at CP CQ
    clear hX
    go_wp2_with fail
    refine (CP.out _ R1).mono ?_
    rintro e w2 ⟨A2, rfl, W2, b2⟩
    have R2 : RdC w2 B ps := Rd.belo R1 b2
    have X2 := OwnC.rd W2
    have B2 := bl_go B1 b2
    clear R1 B1 b2 W2
    go_wp2_with fail
    refine (CQ.out _ R2).mono ?_
    rintro e w3 ⟨A3, c3, rfl, P3, b3, -⟩
    have R3 : RdC w3 B ps := Rd.belo R2 b3
    have X3 : RdC w3 A2 X := Rd.belo X2 b3
    have B3 := bl_go B2 b3
    clear R2 X2 B2 b3
    go_wp2_with fail
    refine (sameCells_t _ _ _ _ X _ X3 P3 (by omega)).mono ?_
    rintro e w4 ⟨rfl, b4⟩
    have R4 : RdC w4 B ps := Rd.belo R3 b4
    have X4 : RdC w4 A2 X := Rd.belo X3 b4
    have B4 := bl_go B3 b4
    clear R3 X3 P3 B3 b4
    cases hv : pieceB ps with
    | false =>
      have hX0 : X = [] := by rw [← HX.out]; exact mvdV_no _ hv
      subst hX0
      have HV := Lib.hid hv
      clear hv
      go_wp2_with (first
        | (go_at_call 19; refine (CV.out _ R4).mono ?_; rintro e w5 ⟨rfl, b5⟩; rw [HV.out])
        | (go_at_call 20; refine (alive_any _).mono ?_; rintro e w6 ⟨rfl, b6⟩))
      go_ret
      exact ⟨rfl, bl_go (bl_go B4 b5) b6⟩
    | true =>
      have HOK := Lib.hid (ok_of_pieceB hv)
      have HV := Lib.hid hv
      clear hv
      have HT : Hid (∀ (z : World) (A' : Option Addr) (n c' : Nat) (Y Y' : List Ce), mvdV turnC Y = Y' → Y.length = n → n ≤ 7 → n ≤ c' → RdC z A' Y → Calls Try.prog 23 #[.slice A' n c'] z (NewOC Y' z)) := by
        intro z A' n c' Y Y' e1 e2 e3 e4 R
        subst e1; subst e2
        exact iPieceTurn_any A' c' Y z R (by unfold maxLen; omega) e4
      have HF : Hid (∀ (z : World) (A' : Option Addr) (n c' : Nat) (Y Y' : List Ce), mvdV flipC Y = Y' → Y.length = n → n ≤ 7 → n ≤ c' → RdC z A' Y → Calls Try.prog 26 #[.slice A' n c'] z (NewOC Y' z)) := by
        intro z A' n c' Y Y' e1 e2 e3 e4 R
        subst e1; subst e2
        exact iPieceFlip_any A' c' Y z R (by unfold maxLen; omega) e4
      have HM : Hid (∀ (z : World), RdC z B ps → Calls Try.prog 16 #[.slice B ps.length k] z (NewOC (mvdV stayC ps) z)) := fun z R => iPieceMoved_any B k ps z R hmx hk
      obtain ⟨Z1, hZ1⟩ : ∃ Y, mvdV flipC X = Y := ⟨_, rfl⟩
      obtain ⟨Y1, hY1⟩ : ∃ Y, mvdV turnC ps = Y := ⟨_, rfl⟩
      obtain ⟨Y2, hY2⟩ : ∃ Y, mvdV flipC Y1 = Y := ⟨_, rfl⟩
      have hY3 : mvdV turnC Y2 = X := by rw [← hY2, ← hY1, ← HX.out]; exact law_flip2 HOK.out
      have hE : mvdV stayC ps = Z1 := by rw [← hZ1, ← HX.out]; exact (law_flip HOK.out).symm
      rw [hE] at HM
      have l0 : Z1.length ≤ 5 := by rw [← hZ1]; exact mvdV_len _ _
      have l1 : Y1.length ≤ 5 := by rw [← hY1]; exact mvdV_len _ _
      have l2 : Y2.length ≤ 5 := by rw [← hY2]; exact mvdV_len _ _
      have K0 := Lib.hid hZ1
      have K1 := Lib.hid hY1
      have K2 := Lib.hid hY2
      have K3 := Lib.hid hY3
      clear hZ1 hY1 hY2 hY3 hE
      go_wp2_with (go_at_call 19; refine (CV.out _ R4).mono ?_; rintro e w5 ⟨rfl, b5⟩; rw [HV.out])
      have R5 : RdC w5 B ps := Rd.belo R4 b5
      have X5 : RdC w5 A2 X := Rd.belo X4 b5
      have B5 := bl_go B4 b5
      clear R4 X4 B4 b5
      go_wp2_with fail
      refine (HF.out _ _ _ _ X Z1 K0.out rfl (by omega) (Nat.le_refl _) X5).mono ?_
      rintro e w6 ⟨A6, rfl, W6, b6⟩
      have R6 : RdC w6 B ps := Rd.belo R5 b6
      have X6 : RdC w6 A2 X := Rd.belo X5 b6
      have B6 := bl_go B5 b6
      have Q6 := OwnC.rd W6
      clear R5 X5 B5 b6 W6
      go_wp2_with fail
      refine (HM.out _ R6).mono ?_
      rintro e w7 ⟨A7, rfl, W7, b7⟩
      have R7 : RdC w7 B ps := Rd.belo R6 b7
      have X7 : RdC w7 A2 X := Rd.belo X6 b7
      have Q7 : RdC w7 A6 Z1 := Rd.belo Q6 b7
      have M7 := OwnC.rd W7
      have B7 := bl_go B6 b7
      clear R6 X6 B6 b7 W7 Q6
      go_wp2_with fail
      refine (sameCells_t _ _ _ _ Z1 _ Q7 M7 (by omega)).mono ?_
      rintro e w8 ⟨rfl, b8⟩
      have R8 : RdC w8 B ps := Rd.belo R7 b8
      have X8 : RdC w8 A2 X := Rd.belo X7 b8
      have B8 := bl_go B7 b8
      clear R7 X7 B7 b8 Q7 M7
      go_wp2_with fail
      refine (HT.out _ _ _ _ ps Y1 K1.out rfl (by omega) hk R8).mono ?_
      rintro e w9 ⟨A9, rfl, W9, b9⟩
      have X9 : RdC w9 A2 X := Rd.belo X8 b9
      have B9 := bl_go B8 b9
      have Q9 := OwnC.rd W9
      clear R8 X8 B8 b9 W9
      go_wp2_with fail
      refine (HF.out _ _ _ _ Y1 Y2 K2.out rfl (by omega) (Nat.le_refl _) Q9).mono ?_
      rintro e wa ⟨Aa, rfl, Wa, ba⟩
      have Xa : RdC wa A2 X := Rd.belo X9 ba
      have Ba := bl_go B9 ba
      have Qa := OwnC.rd Wa
      clear X9 B9 ba Wa Q9
      go_wp2_with fail
      refine (HT.out _ _ _ _ Y2 X K3.out rfl (by omega) (Nat.le_refl _) Qa).mono ?_
      rintro e wb ⟨Ab, rfl, Wb, bb⟩
      have Xb : RdC wb A2 X := Rd.belo Xa bb
      have Bb := bl_go Ba bb
      have Qb := OwnC.rd Wb
      clear Xa Ba bb Wb Qa
      go_wp2_with fail
      refine (sameCells_t _ _ _ _ X _ Qb Xb (by omega)).mono ?_
      rintro e wc ⟨rfl, bc⟩
      go_wp2
      go_ret
      exact ⟨rfl, bl_go Bb bc⟩
  · have hg : decide ((1048576 : Int) < (bs.length : Int)) = true := by simp; omega
    go_enter Try.func5, Try.ntmps5
    go_wp2
    go_ret
    exact ⟨rfl, Below.refl _ _⟩
end Go.Proofs.Ytcghbpnhdpmilaa
