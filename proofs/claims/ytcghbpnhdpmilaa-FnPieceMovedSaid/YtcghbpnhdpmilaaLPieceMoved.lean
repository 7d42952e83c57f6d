/- The walk of the law FnPieceMoved. -/
import Derived.Test.YtcghbpnhdpmilaaSameC
import Derived.Test.YtcghbpnhdpmilaaMoveL
import Derived.Test.YtcghbpnhdpmilaaMoveI
namespace Go.Proofs.Ytcghbpnhdpmilaa
open Go.RowKit

/-- one of the first k is in the column 0, in the row 0 -/
def wK (X : List Ce) (k : Nat) : Bool := (X.take k).any fun c => c.1 == 0
def sK (X : List Ce) (k : Nat) : Bool := (X.take k).any fun c => c.2 == 0
theorem wK_step {X : List Ce} {k : Nat} (h : k < X.length) : wK X (k + 1) = (wK X k || (X[k].1 == 0)) := by unfold wK; rw [take_one_more X k h, List.any_append]; simp
theorem sK_step {X : List Ce} {k : Nat} (h : k < X.length) : sK X (k + 1) = (sK X k || (X[k].2 == 0)) := by unfold sK; rw [take_one_more X k h, List.any_append]; simp
theorem wK_end {X : List Ce} (h : ∃ c ∈ X, c.1 = 0) : wK X X.length = true := by
  obtain ⟨c, hc, e⟩ := h
  unfold wK
  rw [List.take_length, List.any_eq_true]
  exact ⟨c, hc, by simp [e]⟩
theorem sK_end {X : List Ce} (h : ∃ c ∈ X, c.2 = 0) : sK X X.length = true := by
  obtain ⟨c, hc, e⟩ := h
  unfold sK
  rw [List.take_length, List.any_eq_true]
  exact ⟨c, hc, by simp [e]⟩
set_option maxRecDepth 100000 in
set_option maxHeartbeats 2000000 in
theorem fnPieceMoved_walk {w0 : World} (A : Option Addr) (c : Nat) (bs : List Int) (hcap : bs.length ≤ c) (hm : bs.length ≤ maxLen) (hr : Rd w0 A (bs.map (.int .u8))) (hw : ∀ n ∈ bs, 0 ≤ n ∧ n ≤ 255) :
    Calls Try.prog 3 #[.slice A bs.length c] w0 fun e w' => e = .returned (.bool true) ∧ Below w0.heap.size w0 w' := by
  have HW := Lib.hid hw
  clear hw
  unfold maxLen at hm
  by_cases hn : bs.length ≤ 1048576
  · have hg : decide ((1048576 : Int) < (bs.length : Int)) = false := by simp; omega
    go_enter Try.func3, Try.ntmps3
    go_wp2_with fail
    refine (drawPieceMoved_any A c bs _ hr HW.out hn hcap).mono ?_
    rintro e w1 ⟨B, k, ps, rfl, R1, hk, hl, hnear, B1⟩
    clear hg hn hm hr HW hcap
    have HNR := Lib.hid hnear
    clear hnear
    have hmx : ps.length ≤ maxLen := by unfold maxLen; omega
    have CV := Lib.hid (fun (z : World) (R : RdC z B ps) => sPieceValid_any B k ps z R hmx hk)
    have CP := Lib.hid (fun (z : World) (R : RdC z B ps) => iPieceMoved_any B k ps z R hmx hk)
    have CQ := Lib.hid (fun (z : World) (R : RdC z B ps) => sPieceMoved_any B k ps z R hmx hk)
    obtain ⟨X, hX⟩ : ∃ X, mvdV stayC ps = X := ⟨_, rfl⟩
    have HX := Lib.hid hX
    have hXl : X.length ≤ 5 := by rw [← hX]; exact mvdV_len _ _
    rw [hX] at CP CQ
    clear hX
    go_wp2_with fail
    refine (CP.out _ R1).mono ?_
    rintro e w2 ⟨A2, rfl, W2, b2⟩
    have R2 : RdC w2 B ps := Rd.belo R1 b2
    have X2 := OwnC.rd W2
    have B2 := bl_go B1 b2
    clear R1 B1 b2 W2
    go_wp2_with fail
    refine (CQ.out _ R2).mono ?_
    rintro e w3 ⟨A3, c3, rfl, P3, b3, -⟩
    have R3 : RdC w3 B ps := Rd.belo R2 b3
    have X3 : RdC w3 A2 X := Rd.belo X2 b3
    have B3 := bl_go B2 b3
    clear R2 X2 B2 b3
    go_wp2_with fail
    refine (sameCells_t _ _ _ _ X _ X3 P3 (by omega)).mono ?_
    rintro e w4 ⟨rfl, b4⟩
    have R4 : RdC w4 B ps := Rd.belo R3 b4
    have X4 : RdC w4 A2 X := Rd.belo X3 b4
    have B4 := bl_go B3 b4
    clear R3 X3 P3 B3 b4
    cases hv : pieceB ps with
    | false =>
      have hX0 : X = [] := by rw [← HX.out]; exact mvdV_no _ hv
      subst hX0
      have HV := Lib.hid hv
      clear hv
      go_wp2_with (first
        | (go_at_call 19; refine (CV.out _ R4).mono ?_; rintro e w5 ⟨rfl, b5⟩; rw [HV.out])
        | (go_at_call 20; refine (alive_any _).mono ?_; rintro e w6 ⟨rfl, b6⟩))
      go_ret
      exact ⟨rfl, bl_go (bl_go B4 b5) b6⟩
    | true =>
      have HOK := Lib.hid (ok_of_pieceB hv)
      have HV := Lib.hid hv
      clear hv
      obtain ⟨m1, m2, m3, m4, m5, m6⟩ := law_moved HOK.out
      rw [HX.out] at m1 m2 m3 m4 m5 m6
      have HPX := Lib.hid (pieceB_t m3)
      have HWE := Lib.hid (wK_end m5)
      have HSE := Lib.hid (sK_end m6)
      have HLE := Lib.hid m2
      have HGE := Lib.hid m4
      have HM : Hid (∀ (z : World) (A' : Option Addr), RdC z A' X → Calls Try.prog 16 #[.slice A' X.length X.length] z (NewOC X z)) := by
        intro z A' R
        have := iPieceMoved_any A' X.length X z R (by unfold maxLen; omega) (Nat.le_refl _)
        rw [m1] at this
        exact this
      clear m1 m2 m3 m4 m5 m6
      go_wp2_with (go_at_call 19; refine (CV.out _ R4).mono ?_; rintro e w5 ⟨rfl, b5⟩; rw [HV.out])
      have X5 : RdC w5 A2 X := Rd.belo X4 b5
      have B5 := bl_go B4 b5
      clear R4 X4 B4 b5
      go_wp2_with fail
      go_loop [5, 6, 7] (fun a b i => ∃ j : Nat, j ≤ X.length ∧ i = .int .i64 j ∧ a = .bool (wK X j) ∧ b = .bool (sK X j)) (fun _ _ i => X.length - (intOf i).toNat)
      case atStart => exact ⟨0, Nat.zero_le _, rfl, rfl, rfl⟩
      case round =>
        obtain ⟨j, hj, rfl, rfl, rfl⟩ := hrel
        by_cases hlt : j < X.length
        · obtain ⟨b, off, rfl, c0, c1⟩ := RdC.at_ (w := w5) X5 hlt
          have HW1 := Lib.hid (wK_step hlt)
          have HS1 := Lib.hid (sK_step hlt)
          obtain ⟨g1, g2⟩ := HGE.out _ (List.getElem_mem hlt)
          generalize X[j] = q at c0 c1 HW1 HS1 g1 g2
          obtain ⟨x, y⟩ := q
          simp only at c0 c1 HW1 HS1 g1 g2
          have hx0 : decide (x < 0) = false := by simp; omega
          have hy0 : decide (y < 0) = false := by simp; omega
          clear g1 g2
          cases hwk : wK X j with
          | true =>
            cases hsk : sK X j with
            | true =>
              rw [hwk, Bool.true_or] at HW1
              rw [hsk, Bool.true_or] at HS1
              clear hwk hsk
              go_wp2_with fail
              go_round
              case rel => exact ⟨j + 1, by omega, by go_num, by rw [HW1.out], by rw [HS1.out]⟩
              case measure => simp [intOf]; omega
            | false =>
              rw [hwk, Bool.true_or] at HW1
              rw [hsk, Bool.false_or] at HS1
              clear hwk hsk
              go_wp2_with fail
              go_round
              case rel => exact ⟨j + 1, by omega, by go_num, by rw [HW1.out], by rw [HS1.out]⟩
              case measure => simp [intOf]; omega
          | false =>
            cases hsk : sK X j with
            | true =>
              rw [hwk, Bool.false_or] at HW1
              rw [hsk, Bool.true_or] at HS1
              clear hwk hsk
              go_wp2_with fail
              go_round
              case rel => exact ⟨j + 1, by omega, by go_num, by rw [HW1.out], by rw [HS1.out]⟩
              case measure => simp [intOf]; omega
            | false =>
              rw [hwk, Bool.false_or] at HW1
              rw [hsk, Bool.false_or] at HS1
              clear hwk hsk
              go_wp2_with fail
              go_round
              case rel => exact ⟨j + 1, by omega, by go_num, by rw [HW1.out], by rw [HS1.out]⟩
              case measure => simp [intOf]; omega
        · obtain rfl : j = X.length := by omega
          have hw2 := HWE.out
          have hs2 := HSE.out
          have hlb : ((X.length : Int) == (ps.length : Int)) = true := by rw [HLE.out]; simp
          go_wp2_with fail
          refine (iPieceValid_any A2 X.length X _ X5 (by unfold maxLen; omega) (Nat.le_refl _)).mono ?_
          rintro e w6 ⟨rfl, b6⟩
          rw [HPX.out]
          have X6 : RdC w6 A2 X := Rd.belo X5 b6
          have B6 := bl_go B5 b6
          go_wp2_with fail
          refine (HM.out _ _ X6).mono ?_
          rintro e w7 ⟨A7, rfl, W7, b7⟩
          have X7 : RdC w7 A2 X := Rd.belo X6 b7
          have B7 := bl_go B6 b7
          go_wp2_with fail
          refine (sameCells_t _ _ _ _ X _ (OwnC.rd W7) X7 (by omega)).mono ?_
          rintro e w8 ⟨rfl, b8⟩
          go_wp2
          go_ret
          exact ⟨rfl, bl_go B7 b8⟩
  · have hg : decide ((1048576 : Int) < (bs.length : Int)) = true := by simp; omega
    go_enter Try.func3, Try.ntmps3
    go_wp2
    go_ret
    exact ⟨rfl, Below.refl _ _⟩
end Go.Proofs.Ytcghbpnhdpmilaa
