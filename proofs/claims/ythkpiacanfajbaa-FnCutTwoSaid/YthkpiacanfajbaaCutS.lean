/- Contract: the reference's CutTwo. -/
import Derived.Test.YthkpiacanfajbaaCutINo
import Derived.Test.YthkpiacanfajbaaERoundOf
namespace Go.Proofs.Ythkpiacanfajbaa
open Go.RowKit

def CutRd (X : List Int) (ok : Bool) (w : World) (e : Ending) (w' : World) : Prop :=
  ∃ (A : Option Addr) (c : Nat), e = .returned (.tuple #[.slice A X.length c, .bool ok]) ∧ Rd w' A (X.map (.int .i64)) ∧ Below w.heap.size w w'
theorem cutRd_none (w w1 : World) (h : Below w.heap.size w w1) : CutRd [] false w (.returned (.tuple #[.slice (some ⟨w1.heap.size, 0, none⟩) 0 0, .bool false])) (w1.alloc (.cells #[] 3)) := ⟨_, _, rfl, Rd.nil _ _, bl_alloc h _⟩
/-- a column and a row of a cell, for a drawn region -/
theorem xy_draw {W c : Int} (h1 : 1 ≤ W) (h2 : W ≤ 6) (h3 : 0 ≤ c) (h4 : c ≤ 36) : ∃ X Y, c % W = X ∧ c / W = Y ∧ c.tmod W = X ∧ c.tdiv W = Y ∧ 0 ≤ X ∧ X ≤ 6 ∧ 0 ≤ Y ∧ Y ≤ 36 ∧ IntKind.i64.wrap X = X ∧ IntKind.i64.wrap Y = Y := by
  obtain ⟨q1, q2, q3, q4⟩ := xy_bd h1 h2 h3 h4
  exact ⟨_, _, rfl, rfl, Int.tmod_eq_emod_of_nonneg h3, Int.tdiv_eq_ediv_of_nonneg h3, q1, by omega, q3, q4, IntWalk.i64_in _ (by omega), IntWalk.i64_in _ (by omega)⟩

set_option maxRecDepth 100000 in
set_option maxHeartbeats 1000000 in
theorem sCutTwo_ok (W T a b : Int) (w : World) (hr : roundOk W T = true) (a0 : 0 ≤ a) (a1 : a < W * T) (b0 : 0 ≤ b) (b1 : b < W * T) (ho : oddPair W a b = true) :
    Calls Try.prog 39 #[.int .i64 W, .int .i64 T, .int .i64 a, .int .i64 b] w (CutRd (cutS W T (roundL W.toNat T.toNat) a b) true w) := by
  obtain ⟨w2, w6, t2, t6, hwt, Wn, Tn, n, rfl, rfl, hn, hX, hXl, hXb, hXi, n4, n24⟩ := cut_facts hr
  have cS := fun w => sRoundOf_any Wn Tn w
  have cB := fun w => sRegionBox_ok Wn Tn n w (by omega) w6 (by omega) t6 hn hwt
  simp only [hX] at cS
  simp only [Int.toNat_natCast]
  have ha := hXi a a0 a1
  have hb := hXi b b0 b1
  have HC := Lib.hid (show cutS Wn Tn (roundL Wn Tn) a b = cutK Wn Tn (roundL Wn Tn) a b (min (idx (roundL Wn Tn) a) (idx (roundL Wn Tn) b)) ((roundL Wn Tn).length - 1) from rfl)
  generalize roundL Wn Tn = X at cS hXl hXb ha hb HC
  subst hXl
  obtain ⟨P1, Q1, eP1, eQ1, tP1, tQ1, p11, p12, q11, q12, wp1, wq1⟩ := xy_draw (W := (Wn : Int)) (c := a) (by omega) w6 a0 (by omega)
  obtain ⟨P2, Q2, eP2, eQ2, tP2, tQ2, p21, p22, q21, q22, wp2, wq2⟩ := xy_draw (W := (Wn : Int)) (c := b) (by omega) w6 b0 (by omega)
  have hodd : ((P1 + Q1 + P2 + Q2).tmod 2 == 0) = false := by
    unfold oddPair at ho
    rw [eP1, eQ1, eP2, eQ2] at ho
    rw [Int.tmod_eq_emod_of_nonneg (by omega), beq_eq_false_iff_ne]
    simp at ho; omega
  have ws1 : IntKind.i64.wrap (P1 + Q1) = P1 + Q1 := IntWalk.i64_in _ (by omega)
  have ws2 : IntKind.i64.wrap (P1 + Q1 + P2) = P1 + Q1 + P2 := IntWalk.i64_in _ (by omega)
  have ws3 : IntKind.i64.wrap (P1 + Q1 + P2 + Q2) = P1 + Q1 + P2 + Q2 := IntWalk.i64_in _ (by omega)
  have ws4 : IntKind.i64.wrap ((P1 + Q1 + P2 + Q2).tmod 2) = (P1 + Q1 + P2 + Q2).tmod 2 := IntWalk.i64_in _ (by rw [Int.tmod_eq_emod_of_nonneg (by omega)]; omega)
  have hodd2 : ((P1 + Q1 + P2 + Q2) % 2 == 0) = false := by rw [Int.tmod_eq_emod_of_nonneg (by omega)] at hodd; exact hodd
  have ws5 : IntKind.i64.wrap ((P1 + Q1 + P2 + Q2) % 2) = (P1 + Q1 + P2 + Q2) % 2 := IntWalk.i64_in _ (by omega)
  have wl : IntKind.i64.wrap ((X.length : Int) - 1) = (X.length : Int) - 1 := IntWalk.i64_in _ (by omega)
  have CI := Lib.hid cS
  have CB := Lib.hid cB
  have HXB := Lib.hid hXb
  have HAB := Lib.hid (And.intro ha hb)
  have HN := Lib.hid hn
  have HAI := Lib.hid (fun z => l1in_t a 0 ((X.length : Int) - 1) z a0 (by omega))
  have HBI := Lib.hid (fun z => l1in_t b 0 ((X.length : Int) - 1) z b0 (by omega))
  have hl0 : ((X.length : Int) == 0) = false := by rw [beq_eq_false_iff_ne]; omega
  have Wz : ¬ (Wn = 0) := by omega
  have W1 : (1 : Int) ≤ Wn := by omega
  have T1 : (1 : Int) ≤ Tn := by omega
  have HWT := Lib.hid hwt
  have hab : a ≠ b := by
    intro e; subst e
    rw [eP1] at eP2; rw [eQ1] at eQ2
    subst eP2; subst eQ2
    rw [beq_eq_false_iff_ne, Int.tmod_eq_emod_of_nonneg (by omega)] at hodd
    omega
  have HNE := Lib.hid hab
  clear cS cB hXb ha hb hn a1 b1 ho hX hr hXi eP1 eQ1 eP2 eQ2 hwt hab
  go_enter Try.func39, Try.ntmps39
  go_wp2_with fail
  refine (CI.out _).mono ?_
  rintro e v1 ⟨A, c1, rfl, g1, b1, f1⟩
  go_wp2_with fail
  go_quiet ((first | (go_at_call 56; with_reducible exact quietL (HAI.out _)) | (go_at_call 56; with_reducible exact quietL (HBI.out _))))
  clear hodd2 ws5 tP1 tQ1 tP2 tQ2 wp1 wq1 wp2 wq2 ws1 ws2 ws3 ws4 wl hodd HAI HBI hl0
  have b1' := below_drewN' b1 nq
  change Rd (v1.drewN nq) _ _ at g1
  generalize v1.drewN nq = v2 at *
  go_wp2_with fail
  refine (CB.out _).mono ?_
  rintro e v3 ⟨A2, c2, rfl, g2, b2⟩
  simp only [List.length_replicate]
  have B3 := bl_go b1' b2
  have g3 := g1.belo b2
  clear b1 b1' g1 g2 b2
  obtain ⟨i0, hi, hz0, hz1, hz2⟩ := info_parts Try.infoI
  have hb1 : i0.bytes * X.length ≤ 281474976710656 := by rw [hz2]; omega
  have HZ := Lib.hid (And.intro hz0 (And.intro hz1 hz2))
  clear hz0 hz1 hz2
  go_wp2_with (at_make; refine wpList_make_full _ rfl _ _ 25 rfl (v3.heap.size + 1) 3 i0 (.int .i64 0) 1 Try.underlying25 hi HZ.out.1 HZ.out.2.1 .i64 .i64 _ _ X.length rfl rfl rfl rfl hb1 (by unfold maxLen; omega) (by simp) ?_; intro v4 hown4 hgrow4)
  have X4 : C3 v4 v3.heap.size (.int .i64 Wn) (.int .i64 Tn) (.slice A2 X.length c2) := by
    have X3 := C3.new v3 (.int .i64 Wn) (.int .i64 Tn) (.slice A2 X.length c2) 31
    exact ⟨(hgrow4.cell_far _ (by simp) (by simp)).trans X3.1, (hgrow4.cell_far _ (by simp) (by simp)).trans X3.2.1, (hgrow4.cell_far _ (by simp) (by simp)).trans X3.2.2⟩
  have g4 := (g3.alloc (.cells #[.int .i64 Wn, .int .i64 Tn, .slice A2 X.length c2] 31)).grown hgrow4 (fun k hk => by cases hk)
  have B4 := (bl_alloc B3 (.cells #[.int .i64 Wn, .int .i64 Tn, .slice A2 X.length c2] 31)).grown hgrow4 (by have := B3.size; simp; omega) (fun k hk => by cases hk)
  have hw4 := Wr.of_own hown4
  rw [show (Value.int .i64 0).cells = #[.int .i64 0] from rfl, toList_madeCells_one, show List.replicate (X.length * 1) (Value.int .i64 0) = (List.replicate X.length (0 : Int)).map (.int .i64) by simp, show (v3.alloc (.cells #[.int .i64 Wn, .int .i64 Tn, .slice A2 X.length c2] 31)).heap.size = v3.heap.size + 1 by simp] at hw4
  obtain ⟨bA, oA, rfl, -⟩ := g3.atEM (k := 0) (by omega)
  have hbA : bA < v3.heap.size := by have := g3.lt rfl (by intro e; have := congrArg List.length e; simp at this; subst this; simp at n4); simpa using this
  have hs3 := B3.size
  have hpos := own_lt hown4 _ rfl
  simp at hpos
  clear g3 hown4 hgrow4 B3
  generalize v3.heap.size = p2 at *
  obtain ⟨la, ea⟩ := idx_at HAB.out.1
  obtain ⟨lb, eb⟩ := idx_at HAB.out.2
  have HF := Lib.hid (show ∀ k (hk : k < X.length), k < min (idx X a) (idx X b) → X[k] ≠ a ∧ X[k] ≠ b from fun k hk h => ⟨idx_not (by omega) hk, idx_not (by omega) hk⟩)
  have hfl : min (idx X a) (idx X b) < X.length := by omega
  have HG := Lib.hid (show X[min (idx X a) (idx X b)] = a ∨ (X[min (idx X a) (idx X b)] ≠ a ∧ X[min (idx X a) (idx X b)] = b) by
    by_cases h : idx X a ≤ idx X b
    · left; simp only [Nat.min_eq_left h]; exact ea
    · right
      simp only [Nat.min_eq_right (show idx X b ≤ idx X a by omega)]
      exact ⟨idx_not (by omega) lb, eb⟩)
  clear ea eb la lb
  generalize min (idx X a) (idx X b) = f at HF hfl HG HC
  go_loop [13] (fun v => ∃ k : Nat, k ≤ f ∧ v = .int .i64 k) (fun v => f - (intOf v).toNat)
  case atStart => exact ⟨0, Nat.zero_le _, rfl⟩
  case round =>
    obtain ⟨k, hk, rfl⟩ := hrel
    have hkl : k < X.length := by omega
    have ck := g4.cellEM hkl
    by_cases hlt : k < f
    · obtain ⟨n1, n2⟩ := HF.out k hkl hlt
      generalize X[k] = x at ck n1 n2
      have e1 : (x != a) = true := by simpa using n1
      have e2 : (x != b) = true := by simpa using n2
      clear n1 n2
      go_wp2_with fail
      go_round
      case rel => exact ⟨k + 1, by omega, by go_num⟩
      case measure => simp [intOf]; omega
    · obtain rfl : k = f := by omega
      have hG := HG.out
      obtain ⟨x, hx⟩ : ∃ x, X[k] = x := ⟨_, rfl⟩
      rw [hx] at ck hG
      clear hx HF HG hlt hk
      have hex : (x != a) = false ∨ ((x != a) = true ∧ (x != b) = false) := by
        rcases hG with h | ⟨h1, h2⟩
        · left; simp [h]
        · right; subst h2; exact ⟨by simpa using h1, by simp⟩
      clear hG
      rcases hex with e1 | ⟨e1, e2⟩
      all_goals
        go_wp2_with fail
        go_loopw [14] (fun v w5 => ∃ m : Nat, m + 1 ≤ X.length ∧ v = .int .i64 ((m : Int) + 1) ∧ Wr w5 (p2 + 1) 3 (some ⟨p2 + 1, 0, none⟩) ((cutK Wn Tn X a b k m).map (.int .i64)) ∧ v4.grownBy w5 (some (p2 + 1))) (fun v _ => X.length - (intOf v).toNat)
        case atStart => exact ⟨0, by omega, by go_num, hw4, World.grownBy.refl _ _⟩
        case round =>
          clear e1 ck hw4
          try clear e2
          obtain ⟨m, hm, rfl, hw, hg⟩ := hrel
          have hr5 := g4.grownBelow hg (fun _ ad e => by injection e with e; subst e; intro h; injection h with h; dsimp only at h; omega)
          have kr := X4.gb hg (by omega)
          by_cases hlt : m + 1 < X.length
          · obtain ⟨q1, hq1⟩ : ∃ q, (k + (m + 1)) % X.length = q := ⟨_, rfl⟩
            obtain ⟨q2, hq2⟩ : ∃ q, (k + (m + 1) + 1) % X.length = q := ⟨_, rfl⟩
            have l1 : q1 < X.length := by rw [← hq1]; exact Nat.mod_lt _ (by omega)
            have l2 : q2 < X.length := by rw [← hq2]; exact Nat.mod_lt _ (by omega)
            have t1 : ((k : Int) + ((m : Int) + 1)) % (X.length : Int) = (q1 : Int) := by rw [← hq1]; simp
            have t2 : ((k : Int) + ((m : Int) + 1) + 1) % (X.length : Int) = (q2 : Int) := by rw [← hq2]; simp
            have y1 := hr5.cellEM l1
            have y2 := hr5.cellEM l2
            have x1 := HXB.out _ (List.getElem_mem l1)
            have x2 := HXB.out _ (List.getElem_mem l2)
            have HQ1 := Lib.hid (wayAt_at rfl hq1 l1)
            have HQ2 := Lib.hid (wayAt_at rfl hq2 l2)
            generalize X[q1] = ca at y1 x1 HQ1
            generalize X[q2] = nb at y2 x2 HQ2
            obtain ⟨xa0, xa1⟩ := x1
            obtain ⟨xb0, xb1⟩ := x2
            obtain ⟨ca, rfl⟩ := Int.eq_ofNat_of_zero_le xa0
            obtain ⟨nb, rfl⟩ := Int.eq_ofNat_of_zero_le xb0
            have lc : ca < X.length := by have := HN.out; omega
            have ln : nb < X.length := by have := HN.out; omega
            have HM := Lib.hid (cutK_len Wn Tn X a b k m)
            have cm := hw.rd.cellEM (k := ca) (by rw [HM.out]; exact lc)
            simp only [Nat.zero_add] at cm
            have HV := Lib.hid (getD_at (cutK Wn Tn X a b k m) 0 (k := ca) (by rw [HM.out]; exact lc))
            generalize (cutK Wn Tn X a b k m)[ca]'(by rw [HM.out]; exact lc) = mv at cm HV
            have XA := Lib.hid xa1
            clear xa1 xb1 hq1 hq2 xa0 xb0
            have HK := Lib.hid (show cutK Wn Tn X a b k (m + 1) = if (ca : Int) = a ∨ (ca : Int) = b ∨ mv ≠ 0 then cutK Wn Tn X a b k m else layTo Wn Tn (cutK Wn Tn X a b k m) ca nb 4 by
              simp only [cutK]
              rw [HQ1.out, HQ2.out, Int.toNat_natCast, HV.out])
            by_cases ea : (ca : Int) = a
            · have ea1 : ((ca : Int) == a) = true := by simpa using ea
              have HS := Lib.hid (HK.out.trans (if_pos (.inl ea)))
              clear ea
              go_wp2_with fail
              go_roundw
              case rel => exact ⟨m + 1, by omega, by go_num, by rw [HS.out]; exact hw, hg⟩
              case measure => simp [intOf]; omega
            · have ea1 : ((ca : Int) == a) = false := by simpa using ea
              by_cases eb : (ca : Int) = b
              · have eb1 : ((ca : Int) == b) = true := by simpa using eb
                have HS := Lib.hid (HK.out.trans (if_pos (.inr (.inl eb))))
                clear ea eb
                go_wp2_with fail
                go_roundw
                case rel => exact ⟨m + 1, by omega, by go_num, by rw [HS.out]; exact hw, hg⟩
                case measure => simp [intOf]; omega
              · have eb1 : ((ca : Int) == b) = false := by simpa using eb
                by_cases ev : mv = 0
                · have HS := Lib.hid (HK.out.trans (if_neg (by intro h; rcases h with h | h | h; exact ea h; exact eb h; exact h ev)))
                  have ev1 : (mv != 0) = false := by simp [ev]
                  clear ea eb ev HK
                  have hdec : decide ((m : Int) + 1 < (X.length : Int)) = true := by simp; omega
                  have z1 := hr5
                  go_wp2_with fail
                  clear t1 t2 y1 y2 cm z1 hdec ea1 eb1 ev1
                  obtain ⟨wo, hwo⟩ : ∃ wo : World, wo = wr := ⟨_, rfl⟩
                  subst hwo
                  generalize cutK Wn Tn X a b k m = M at hw HS HM
                  go_loopw [17] (fun v wr => ∃ d : Nat, d ≤ 4 ∧ v = .int .i64 ((d : Int) + 1) ∧ Wr wr (p2 + 1) 3 (some ⟨p2 + 1, 0, none⟩) ((layTo Wn Tn M ca nb d).map (.int .i64)) ∧ v4.grownBy wr (some (p2 + 1))) (fun v _ => (5 - intOf v).toNat)
                  case atStart => exact ⟨0, by omega, by go_num, hw, hg⟩
                  case round =>
                    clear hw hg hr5 kr
                    obtain ⟨d, hd, rfl, hw, hg⟩ := hrel
                    have kr := X4.gb hg (by omega)
                    by_cases hd4 : d < 4
                    · obtain ⟨x0, x1, x2⟩ := id kr
                      have HN2 := Lib.hid ((layTo_len Wn Tn M ca nb d).trans HM.out)
                      cases hs : (stepZ Wn Tn ca ((d : Int) + 1) == (nb : Int)) with
                      | false =>
                        have HD := Lib.hid (show layTo Wn Tn M ca nb (d + 1) = layTo Wn Tn M ca nb d by
                          rw [layTo, layD, if_neg (by simpa using hs)])
                        go_wp2_with fail
                        refine (l2step_any Wn Tn _ ca ((d : Int) + 1) _ W1 w6 T1 t6 (by omega) XA.out).mono ?_
                        rintro e u2 ⟨rfl, b2⟩
                        go_wp2
                        go_roundw
                        case rel => exact ⟨d + 1, by omega, by go_num, by rw [HD.out]; exact hw.belo b2, gb_below hg b2⟩
                        case measure => simp [intOf]; omega
                      | true =>
                        have HD := Lib.hid (show layTo Wn Tn M ca nb (d + 1) = ((layTo Wn Tn M ca nb d).set ca ((d : Int) + 1)).set nb (backZ ((d : Int) + 1)) by
                          rw [layTo, layD, if_pos (by simpa using hs)]; simp)
                        generalize layTo Wn Tn M ca nb d = N at hw HD HN2
                        go_wp2_with fail
                        refine (l2step_any Wn Tn _ ca ((d : Int) + 1) _ W1 w6 T1 t6 (by omega) XA.out).mono ?_
                        rintro e u2 ⟨rfl, b2⟩
                        have hw2 := hw.belo b2
                        have hg2 := gb_below hg b2
                        obtain ⟨g', hg0, _, _, hfz⟩ := hw2.form (by intro e; have := HN2.out; simp at e; rw [e] at this; simp at this; omega)
                        have hgg : p2 + 1 = g' := by injection hg0 with h; injection h
                        subst hgg
                        have f1 := hfz ca
                        have f2 := hfz nb
                        have c1 := hw2.rd.cellEM (k := ca) (by rw [HN2.out]; exact lc)
                        have c2 := hw2.rd.cellEM (k := nb) (by rw [HN2.out]; exact ln)
                        simp only [Nat.zero_add] at c1 c2
                        have HW := Lib.hid hw2
                        have hcn : ¬ (ca = nb) := by
                          intro e; subst e
                          exact step_neq (W := Wn) (T := Tn) (d := (d : Int) + 1) W1 (Int.natCast_nonneg ca) (by simpa using hs)
                        have hnc : ¬ (nb = ca) := fun e => hcn e.symm
                        clear hw2 hw hg b2 kr x0 x1 x2 hfz hg0
                        go_wp2_with (go_at_call 86; refine (sback_any _ _ (by omega) (by omega)).mono ?_; rintro e w' ⟨rfl, rfl⟩)
                        go_roundw
                        case rel =>
                          refine ⟨d + 1, by omega, by go_num, ?_, gb_store (gb_store hg2)⟩
                          rw [HD.out, List.map_set, List.map_set]
                          exact (HW.out.store ca _).store nb _
                        case measure => simp [intOf]; omega
                    · obtain rfl : d = 4 := by omega
                      go_wp2_with fail
                      go_roundw
                      case rel => exact ⟨m + 1, by omega, by go_num, by rw [HS.out]; exact hw, hg⟩
                      case measure => simp [intOf]; omega
                · have HS := Lib.hid (HK.out.trans (if_pos (.inr (.inr ev))))
                  have ev1 : (mv != 0) = true := by simpa using ev
                  clear ea eb ev
                  go_wp2_with fail
                  go_roundw
                  case rel => exact ⟨m + 1, by omega, by go_num, by rw [HS.out]; exact hw, hg⟩
                  case measure => simp [intOf]; omega
          · have HE := Lib.hid (show cutK Wn Tn X a b k m = cutS Wn Tn X a b by rw [HC.out, show X.length - 1 = m by omega])
            have HL := Lib.hid (cutK_len Wn Tn X a b k m)
            go_wp2
            go_ret2
            refine ⟨some ⟨p2 + 1, 0, none⟩, X.length, ?_, ?_, ?_⟩
            · rw [← HE.out, HL.out]; rfl
            · rw [← HE.out]; exact hw.rd
            · exact B4.grown hg B4.size (fun k hk => by injection hk with hk; omega)
end Go.Proofs.Ythkpiacanfajbaa
