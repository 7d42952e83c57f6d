/- The walk of the law FnPieceForms. -/
import Derived.Test.YtcghbpnhdpmilaaPieceCmp
import Derived.Test.YtcghbpnhdpmilaaFormJ
import Derived.Test.YtcghbpnhdpmilaaFormU
import Derived.Test.YtcghbpnhdpmilaaAlive
import Derived.Deep.RegionLaw
namespace Go.Proofs.Ytcghbpnhdpmilaa
open Go.RowKit

theorem RdSN.takeN {w : World} {A : Option Addr} {F : List (List Ce)} (h : RdSN w A F) (k : Nat) : RdSN w A (F.take k) := fun j hj => by
  have hj' : j < F.length := by rw [List.length_take] at hj; omega
  obtain ⟨b, off, A', c', e, h1, h2, h3⟩ := h j hj'
  rw [List.getElem_take]
  exact ⟨b, off, A', c', e, h1, h2, h3⟩
/-- a new list of cells of a length that is told -/
def NewOL (p : List Ce) (L : Nat) (w : World) (e : Ending) (w' : World) : Prop := ∃ A : Option Addr, e = .returned (.slice A L L) ∧ RdC w' A p ∧ Below w.heap.size w w'
theorem NewOC.toL {p : List Ce} {L : Nat} (hl : p.length = L) {w : World} {e : Ending} {w' : World} (h : NewOC p w e w') : NewOL p L w e w' := by
  subst hl
  obtain ⟨A, h1, h2, h3⟩ := h
  exact ⟨A, h1, h2.rd, h3⟩
theorem inc_no {F : List (List Ce)} (h : Inc F) {k : Nat} (hk : k < F.length) : decide (F[k] ∈ F.take k) = false := by
  apply decide_eq_false
  intro hm
  rw [List.mem_take_iff_getElem] at hm
  obtain ⟨i, hi, e⟩ := hm
  have := (List.pairwise_iff_getElem.1 h) i k (by omega) hk (by omega)
  rw [e, ltL_irrefl] at this
  cases this
set_option maxRecDepth 100000 in
set_option maxHeartbeats 4000000 in
theorem fnPieceForms_walk {w0 : World} (A : Option Addr) (c : Nat) (bs : List Int) (hcap : bs.length ≤ c) (hm : bs.length ≤ maxLen) (hr : Rd w0 A (bs.map (.int .u8))) (hw : ∀ n ∈ bs, 0 ≤ n ∧ n ≤ 255) :
    Calls Try.prog 11 #[.slice A bs.length c] w0 fun e w' => e = .returned (.bool true) ∧ Below w0.heap.size w0 w' := by
  have HW := Lib.hid hw
  clear hw
  unfold maxLen at hm
  by_cases hn : bs.length ≤ 1048576
  · have hg : decide ((1048576 : Int) < (bs.length : Int)) = false := by simp; omega
    go_enter Try.func11, Try.ntmps11
    go_wp2_with fail
    refine (drawPieceForms_any A c bs _ hr HW.out hn hcap).mono ?_
    rintro e w1 ⟨B, k, ps, rfl, R1, hk, hl, -, B1⟩
    clear hg hn hm hr HW hcap
    have hmx : ps.length ≤ maxLen := by unfold maxLen; omega
    have CV := Lib.hid (fun (z : World) (R : RdC z B ps) => sPieceValid_any B k ps z R hmx hk)
    have CP := Lib.hid (fun (z : World) (R : RdC z B ps) => iPieceForms_any B k ps z R hmx hk)
    have CQ := Lib.hid (fun (z : World) (R : RdC z B ps) => sPieceForms_any B k ps z R hmx hk)
    obtain ⟨F, hF⟩ : ∃ F, formsV ps = F := ⟨_, rfl⟩
    have HF := Lib.hid hF
    have hFl : F.length ≤ 8 := by rw [← hF]; exact formsV_len_le _
    have H7 := Lib.hid (show ∀ x ∈ F, x.length ≤ 7 from fun x hx => by rw [← hF] at hx; have h := formsV_each hx; have := (ok_of_pieceB h.2).1.2; omega)
    rw [hF] at CP CQ
    clear hF
    go_wp2_with fail
    refine (CP.out _ R1).mono ?_
    rintro e w2 ⟨A2, xs2, rfl, rd2, -, hd2, -, b2⟩
    have R2 : RdC w2 B ps := Rd.belo R1 b2
    have B2 := bl_go B1 b2
    clear R1 B1 b2
    go_wp2_with fail
    refine (CQ.out _ R2).mono ?_
    rintro e w3 ⟨b3a, c3, xs3, rfl, -, rd3, hd3, b3⟩
    have R3 : RdC w3 B ps := Rd.belo R2 b3
    have rd2' := rd2.belo b3
    have hd2' := hd2.belo b3
    have B3 := bl_go B2 b3
    clear R2 B2 b3 rd2 hd2
    go_wp2_with fail
    refine (samePieces_t _ _ _ _ F _ (RdSN.ofR rd2' hd2') (RdSN.ofN rd3 hd3) (by omega) H7.out).mono ?_
    rintro e w4 ⟨rfl, b4⟩
    have R4 : RdC w4 B ps := Rd.belo R3 b4
    have rd4 := rd2'.belo b4
    have hd4 := hd2'.belo b4
    have B4 := bl_go B3 b4
    clear R3 rd2' hd2' rd3 hd3 B3 b4
    cases hv : pieceB ps with
    | false =>
      have hX0 : F = [] := by rw [← HF.out]; exact formsV_no hv
      subst hX0
      have HV := Lib.hid hv
      clear hv
      go_wp2_with (first
        | (go_at_call 19; refine (CV.out _ R4).mono ?_; rintro e w5 ⟨rfl, b5⟩; rw [HV.out])
        | (go_at_call 20; refine (alive_any _).mono ?_; rintro e w6 ⟨rfl, b6⟩))
      go_ret
      exact ⟨rfl, bl_go (bl_go B4 b5) b6⟩
    | true =>
      have HV := Lib.hid hv
      have HOK := Lib.hid (ok_of_pieceB hv)
      clear hv
      have HINC := Lib.hid (show Inc F by rw [← HF.out, formsV_ok HOK.out]; exact incOf_inc _)
      have HCNT := Lib.hid (show F.length = 1 ∨ F.length = 2 ∨ F.length = 4 ∨ F.length = 8 by rw [← HF.out]; exact forms_count HOK.out)
      obtain ⟨N, hN⟩ : ∃ N, F.length = N := ⟨_, rfl⟩
      have HN := Lib.hid hN
      rw [hN] at HCNT hFl ⊢
      clear hN
      go_wp2_with (go_at_call 19; refine (CV.out _ R4).mono ?_; rintro e w5 ⟨rfl, b5⟩; rw [HV.out])
      have rd5 := rd4.belo b5
      have hd5 := hd4.belo b5
      have B5 := bl_go B4 b5
      clear R4 rd4 hd4 B4 b5
      go_wp2_with fail
      go_loopw [5] (fun i wr => ∃ j : Nat, j ≤ N ∧ i = .int .i64 j ∧ Below w5.heap.size w5 wr) (fun i _ => N - (intOf i).toNat)
      case atStart => exact ⟨0, Nat.zero_le _, rfl, Below.refl _ _⟩
      case round =>
        obtain ⟨j, hj, rfl, Z1⟩ := hrel
        by_cases hlt : j < N
        · have hjF : j < F.length := by rw [HN.out]; exact hlt
          obtain ⟨B6, c6, e6, l6, m6, r6⟩ := (hd5.belo Z1).2 j hjF
          obtain ⟨b, off, rfl, hc⟩ := rd_cellE (rd5.belo Z1) e6
          have hxF : F[j] ∈ F := List.getElem_mem hjF
          have HNO := Lib.hid (inc_no HINC.out hjF)
          obtain ⟨x, hx⟩ : ∃ x, F[j] = x := ⟨_, rfl⟩
          rw [hx] at e6 l6 m6 r6 hc hxF HNO
          have hxV : x ∈ formsV ps := by rw [HF.out]; exact hxF
          have hokx := (forms_of_form hxV).2
          have hTm : mvdV turnC x ∈ F := by rw [← HF.out]; exact turn_mem hxV
          have hFm : mvdV flipC x ∈ F := by rw [← HF.out]; exact flip_mem hxV
          have hTl := mvdV_lenE turnC hokx
          have hFl2 := mvdV_lenE flipC hokx
          obtain ⟨L, hL⟩ : ∃ L, x.length = L := ⟨_, rfl⟩
          have hRS := RdSN.ofR (rd5.belo Z1) (hd5.belo Z1)
          have T1 := Lib.hid (fun (z : World) (hb : Below wr.heap.size wr z) => ((iPieceTurn_any B6 c6 x z (Rd.belo r6 hb) (by unfold maxLen; omega) l6).mono fun _ _ h => h.toL (hTl.trans hL)))
          have T2 := Lib.hid (fun (z : World) (hb : Below wr.heap.size wr z) => ((iPieceFlip_any B6 c6 x z (Rd.belo r6 hb) (by unfold maxLen; omega) l6).mono fun _ _ h => h.toL (hFl2.trans hL)))
          have P1 := Lib.hid (fun (z : World) (C : Option Addr) (hb : Below wr.heap.size wr z) (r : RdC z C (mvdV turnC x)) => by
            have := hasPiece_any (some ⟨b, off, none⟩) C N L N F (mvdV turnC x) z (hRS.belo hb) r HN.out (by omega) H7.out
            rw [hTl.trans hL, decide_eq_true hTm] at this
            exact this)
          have P2 := Lib.hid (fun (z : World) (C : Option Addr) (hb : Below wr.heap.size wr z) (r : RdC z C (mvdV flipC x)) => by
            have := hasPiece_any (some ⟨b, off, none⟩) C N L N F (mvdV flipC x) z (hRS.belo hb) r HN.out (by omega) H7.out
            rw [hFl2.trans hL, decide_eq_true hFm] at this
            exact this)
          have P3 := Lib.hid (fun (z : World) (hb : Below wr.heap.size wr z) => by
            have := hasPiece_any (some ⟨b, off, none⟩) B6 N c6 j (F.take j) x z ((hRS.belo hb).takeN j) (Rd.belo r6 hb) (by rw [List.length_take]; omega) (by omega) (fun y hy => H7.out y (List.mem_of_mem_take hy))
            rw [hL, HNO.out] at this
            exact this)
          rw [hL] at hc T1 T2
          have HC := Lib.hid (fun (z : World) (hb : Below wr.heap.size wr z) => ((bcell hb).1 b (off + j) (by have := World.block_lt_of_cell? wr _ hc; simpa using this)).trans hc)
          have hjN : (j : Int) < (N : Int) := by omega
          have hjN2 : (j : Int) ≤ (N : Int) := by omega
          have Z0 : Below wr.heap.size wr wr.drew := (Below.refl _ _).drew
          clear e6 l6 m6 r6 hxF hx hxV hokx hTm hFm hTl hFl2 hL hRS
          go_wp2_with fail
          go_region_held3 (fun w' => w'.cell? ⟨b, off + j, none⟩ = some (.slice B6 L c6))
            (first | (with_reducible exact HC.out _ Z10) | (with_reducible exact HC.out _ Z9) | (with_reducible exact HC.out _ Z8) | (with_reducible exact HC.out _ Z7) | (with_reducible exact HC.out _ Z6) | (with_reducible exact HC.out _ Z0) | (with_reducible exact hc) | go_keep)
            (first
            | (go_at_call 23; (with_reducible refine (T1.out _ Z0).mono ?_); rintro e w6 ⟨C1, rfl, r7, b6⟩; have Z6 := Z0.trans (b6.mono Z0.size))
            | (go_at_call 53; (with_reducible refine (P1.out _ _ Z6 r7).mono ?_); rintro e w7 ⟨rfl, b7⟩; have Z7 := Z6.trans (b7.mono Z6.size))
            | (go_at_call 26; (with_reducible refine (T2.out _ Z7).mono ?_); rintro e w8 ⟨C2, rfl, r8, b8⟩; have Z8 := Z7.trans (b8.mono Z7.size))
            | (go_at_call 53; (with_reducible refine (P2.out _ _ Z8 r8).mono ?_); rintro e w9 ⟨rfl, b9⟩; have Z9 := Z8.trans (b9.mono Z8.size))
            | (go_at_call 53; (with_reducible refine (P3.out _ Z9).mono ?_); rintro e w10 ⟨rfl, b10⟩; have Z10 := Z9.trans (b10.mono Z9.size)))
          go_wp2_with fail
          go_roundw
          case rel => exact ⟨j + 1, by omega, by go_num, Z1.trans (Z10.mono Z1.size)⟩
          case measure => simp [intOf]; omega
        · obtain rfl : j = N := by omega
          rcases HCNT.out with rfl | rfl | rfl | rfl
          all_goals (
            go_wp2_with fail
            go_ret
            exact ⟨rfl, bl_go B5 Z1⟩)
  · have hg : decide ((1048576 : Int) < (bs.length : Int)) = true := by simp; omega
    go_enter Try.func11, Try.ntmps11
    go_wp2
    go_ret
    exact ⟨rfl, Below.refl _ _⟩
end Go.Proofs.Ytcghbpnhdpmilaa
