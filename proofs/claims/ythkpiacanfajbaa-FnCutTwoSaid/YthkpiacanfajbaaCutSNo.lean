/- Contract: the reference's CutTwo, where there is nothing to cut; for all arguments. -/
import Derived.Test.YthkpiacanfajbaaCutS
namespace Go.Proofs.Ythkpiacanfajbaa
open Go.RowKit

set_option maxRecDepth 100000 in
set_option maxHeartbeats 1000000 in
theorem sCutTwo_no1 (W T a b : Int) (w : World) (hr : roundOk W T = false) :
    Calls Try.prog 39 #[.int .i64 W, .int .i64 T, .int .i64 a, .int .i64 b] w (CutRd [] false w) := by
  have hX : roundOf W T = [] := by unfold roundOf; rw [hr]; rfl
  have cS := fun w => sRoundOf_any W T w
  simp only [hX] at cS
  have CI := Lib.hid cS
  clear cS hX hr
  go_enter Try.func39, Try.ntmps39
  go_wp2_with fail
  refine (CI.out _).mono ?_
  rintro e v1 ⟨A, c1, rfl, g1, b1, f1⟩
  simp only [List.length_nil]
  go_wp2_with fail
  go_quiet (fail)
  have B2 := below_drewN' b1 nq
  generalize v1.drewN nq = v2 at *
  go_wp2
  go_ret2
  exact cutRd_none _ _ B2

set_option maxRecDepth 100000 in
set_option maxHeartbeats 1000000 in
theorem sCutTwo_no2 (W T a b : Int) (w : World) (hr : roundOk W T = true) (h : inB a 0 (W * T - 1) = false ∨ (inB a 0 (W * T - 1) = true ∧ inB b 0 (W * T - 1) = false) ∨ (inB a 0 (W * T - 1) = true ∧ inB b 0 (W * T - 1) = true ∧ oddPair W a b = false)) :
    Calls Try.prog 39 #[.int .i64 W, .int .i64 T, .int .i64 a, .int .i64 b] w (CutRd [] false w) := by
  obtain ⟨w2, w6, t2, t6, hwt, Wn, Tn, n, rfl, rfl, hn, hX, hXl, hXb, hXi, n4, n24⟩ := cut_facts hr
  have cS := fun w => sRoundOf_any Wn Tn w
  simp only [hX] at cS
  rw [hn] at h
  generalize roundL Wn Tn = X at cS hXl
  subst hXl
  have CI := Lib.hid cS
  have H := Lib.hid h
  have W1 : (1 : Int) ≤ Wn := by omega
  have Wz : ¬ (Wn = 0) := by omega
  have wl : IntKind.i64.wrap ((X.length : Int) - 1) = (X.length : Int) - 1 := IntWalk.i64_in _ (by omega)
  have hl0 : ((X.length : Int) == 0) = false := by rw [beq_eq_false_iff_ne]; omega
  clear cS hXb hXi h hX hr hn hwt
  rcases H.out with h | ⟨ha, h⟩ | ⟨ha, hb, h⟩
  · have HAI := Lib.hid (fun z => by have := l1in_any a 0 ((X.length : Int) - 1) z; rw [h] at this; exact this)
    clear h
    go_enter Try.func39, Try.ntmps39
    go_wp2_with fail
    refine (CI.out _).mono ?_
    rintro e v1 ⟨A, c1, rfl, g1, b1, f1⟩
    go_wp2_with fail
    go_quiet ((go_at_call 56; with_reducible exact quietL (HAI.out _)))
    have B2 := below_drewN' b1 nq
    generalize v1.drewN nq = v2 at *
    go_wp2
    go_ret2
    exact cutRd_none _ _ B2
  · have HAI := Lib.hid (fun z => by have := l1in_any a 0 ((X.length : Int) - 1) z; rw [ha] at this; exact this)
    have HBI := Lib.hid (fun z => by have := l1in_any b 0 ((X.length : Int) - 1) z; rw [h] at this; exact this)
    clear ha h
    go_enter Try.func39, Try.ntmps39
    go_wp2_with fail
    refine (CI.out _).mono ?_
    rintro e v1 ⟨A, c1, rfl, g1, b1, f1⟩
    go_wp2_with fail
    go_quiet ((first | (go_at_call 56; with_reducible exact quietL (HAI.out _)) | (go_at_call 56; with_reducible exact quietL (HBI.out _))))
    have B2 := below_drewN' b1 nq
    generalize v1.drewN nq = v2 at *
    go_wp2
    go_ret2
    exact cutRd_none _ _ B2
  · have HAI := Lib.hid (fun z => by have := l1in_any a 0 ((X.length : Int) - 1) z; rw [ha] at this; exact this)
    have HBI := Lib.hid (fun z => by have := l1in_any b 0 ((X.length : Int) - 1) z; rw [hb] at this; exact this)
    have ha' := ha
    have hb' := hb
    unfold inB at ha' hb'
    simp at ha' hb'
    obtain ⟨P1, Q1, eP1, eQ1, tP1, tQ1, p11, p12, q11, q12, wp1, wq1⟩ := xy_draw (W := (Wn : Int)) (c := a) (by omega) w6 (by omega) (by omega)
    obtain ⟨P2, Q2, eP2, eQ2, tP2, tQ2, p21, p22, q21, q22, wp2, wq2⟩ := xy_draw (W := (Wn : Int)) (c := b) (by omega) w6 (by omega) (by omega)
    have hodd2 : ((P1 + Q1 + P2 + Q2) % 2 == 0) = true := by
      unfold oddPair at h
      rw [eP1, eQ1, eP2, eQ2] at h
      rw [beq_iff_eq]
      simp at h; omega
    have ws1 : IntKind.i64.wrap (P1 + Q1) = P1 + Q1 := IntWalk.i64_in _ (by omega)
    have ws2 : IntKind.i64.wrap (P1 + Q1 + P2) = P1 + Q1 + P2 := IntWalk.i64_in _ (by omega)
    have ws3 : IntKind.i64.wrap (P1 + Q1 + P2 + Q2) = P1 + Q1 + P2 + Q2 := IntWalk.i64_in _ (by omega)
    have ws5 : IntKind.i64.wrap ((P1 + Q1 + P2 + Q2) % 2) = (P1 + Q1 + P2 + Q2) % 2 := IntWalk.i64_in _ (by omega)
    clear ha hb h ha' hb' eP1 eP2 eQ1 eQ2
    go_enter Try.func39, Try.ntmps39
    go_wp2_with fail
    refine (CI.out _).mono ?_
    rintro e v1 ⟨A, c1, rfl, g1, b1, f1⟩
    go_wp2_with fail
    go_quiet ((first | (go_at_call 56; with_reducible exact quietL (HAI.out _)) | (go_at_call 56; with_reducible exact quietL (HBI.out _))))
    clear hodd2 ws5 tP1 tQ1 tP2 tQ2 wp1 wq1 wp2 wq2 ws1 ws2 ws3 wl HAI HBI hl0
    have B2 := below_drewN' b1 nq
    generalize v1.drewN nq = v2 at *
    go_wp2
    go_ret2
    exact cutRd_none _ _ B2

def cutSOf (W T a b : Int) : List Int := if cutOk W T a b = true then cutS W T (roundL W.toNat T.toNat) a b else []
theorem sCutTwo_any (W T a b : Int) (w : World) : Calls Try.prog 39 #[.int .i64 W, .int .i64 T, .int .i64 a, .int .i64 b] w (CutRd (cutSOf W T a b) (cutOk W T a b) w) := by
  cases hr : roundOk W T with
  | false =>
    have h : cutOk W T a b = false := by unfold cutOk; rw [hr]; rfl
    have h2 : cutSOf W T a b = [] := by unfold cutSOf; rw [h]; rfl
    rw [h, h2]; exact sCutTwo_no1 W T a b w hr
  | true =>
    cases ha : inB a 0 (W * T - 1) with
    | false =>
      have h : cutOk W T a b = false := by unfold cutOk; rw [hr, ha]; rfl
      have h2 : cutSOf W T a b = [] := by unfold cutSOf; rw [h]; rfl
      rw [h, h2]; exact sCutTwo_no2 W T a b w hr (.inl ha)
    | true =>
      cases hb : inB b 0 (W * T - 1) with
      | false =>
        have h : cutOk W T a b = false := by unfold cutOk; rw [hr, ha, hb]; rfl
        have h2 : cutSOf W T a b = [] := by unfold cutSOf; rw [h]; rfl
        rw [h, h2]; exact sCutTwo_no2 W T a b w hr (.inr (.inl ⟨ha, hb⟩))
      | true =>
        cases ho : oddPair W a b with
        | false =>
          have h : cutOk W T a b = false := by unfold cutOk; rw [hr, ha, hb, ho]; rfl
          have h2 : cutSOf W T a b = [] := by unfold cutSOf; rw [h]; rfl
          rw [h, h2]; exact sCutTwo_no2 W T a b w hr (.inr (.inr ⟨ha, hb, ho⟩))
        | true =>
          have h : cutOk W T a b = true := by unfold cutOk; rw [hr, ha, hb, ho]; rfl
          have h2 : cutSOf W T a b = cutS W T (roundL W.toNat T.toNat) a b := by unfold cutSOf; rw [if_pos h]
          rw [h, h2]
          unfold inB at ha hb
          simp at ha hb
          exact sCutTwo_ok W T a b w hr (by omega) (by omega) (by omega) (by omega) ho
end Go.Proofs.Ythkpiacanfajbaa
