/- Contracts: the places of numbers in lists; the closure of CutTwo. -/
import Derived.Test.YthkpiacanfajbaaCutN
import Derived.Test.YthkpiacanfajbaaStep
import Derived.Test.YthkpiacanfajbaaMemE
import Derived.Deep.RegionHeld3
namespace Go.Proofs.Ythkpiacanfajbaa
open Go.RowKit

theorem gb_cell {w wr : World} {g : Nat} (hg : w.grownBy wr (some g)) {b o : Nat} {v : Value} (hb : b ≠ g) (h : w.cell? ⟨b, o, none⟩ = some v) : wr.cell? ⟨b, o, none⟩ = some v :=
  (hg.cell_far ⟨b, o, none⟩ (World.block_lt_of_cell? w _ h) (fun e => hb (by injection e))).trans h
theorem C3.gb {w wr : World} {g b : Nat} {x y z : Value} (h : C3 w b x y z) (hg : w.grownBy wr (some g)) (hb : b ≠ g) : C3 wr b x y z := ⟨gb_cell hg hb h.1, gb_cell hg hb h.2.1, gb_cell hg hb h.2.2⟩
theorem gb_below {w wr w' : World} {row : Option Nat} (hg : w.grownBy wr row) (hb : Below wr.heap.size wr w') : w.grownBy w' row :=
  grownBy_trans' hg ⟨hb.os, hb.tape, hb.output, hb.size, fun i hi _ => hb.block i hi⟩
theorem gb_store {w wr : World} {g o : Nat} {u : Value} (hg : w.grownBy wr (some g)) : w.grownBy (wr.setCell ⟨g, o, none⟩ u) (some g) :=
  grownBy_trans' hg ⟨rfl, rfl, rfl, by simp [World.setCell], fun i hi hn => Below.heap_setCell _ _ _ _ (fun e => hn (by simp [e]))⟩
theorem gb_drew {w wr : World} {row : Option Nat} (hg : w.grownBy wr row) : w.grownBy wr.drew row := ⟨hg.os, hg.tape, hg.output, hg.size, hg.block⟩
theorem gb_drewN {w wr : World} {row : Option Nat} (hg : w.grownBy wr row) (n : Nat) : w.grownBy (wr.drewN n) row := ⟨hg.os, hg.tape, hg.output, hg.size, hg.block⟩

theorem gb_far {w : World} {b g o k : Nat} {u v : Value} (h : w.cell? ⟨b, o, none⟩ = some v) (hb : b ≠ g) : (w.setCell ⟨g, k, none⟩ u).cell? ⟨b, o, none⟩ = some v :=
  (World.cell?_setCell_other w ⟨g, k, none⟩ ⟨b, o, none⟩ u (fun e => hb (by injection e with e; exact e.symm))).trans h
theorem step_neq {W T c d : Int} (h1 : 1 ≤ W) (c0 : 0 ≤ c) : stepZ W T c d ≠ c := by
  unfold stepZ; repeat (first | split | omega)

set_option maxHeartbeats 400000 in
theorem indexI_any (A : Option Addr) (c : Nat) (X : List Int) (a : Int) (w : World) (hr : Rd w A (X.map (.int .i64))) (hn : X.length ≤ maxLen) (ha : a ∈ X) :
    Calls Try.prog 81 #[.slice A X.length c, .int .i64 a] w fun e w' => e = .returned (.int .i64 (idx X a)) ∧ w = w' := by
  unfold maxLen at hn
  have HA := Lib.hid ha
  clear ha
  go_enter Try.func81, Try.ntmps81
  go_wp2
  go_loop [8] (fun i => ∃ k : Nat, k ≤ X.length ∧ i = .int .i64 k ∧ Hid (∀ j (h : j < X.length), j < k → X[j] ≠ a)) (fun i => X.length - (intOf i).toNat)
  case atStart => exact ⟨0, Nat.zero_le _, rfl, fun j h h2 => by omega⟩
  case round =>
    obtain ⟨k, hk, rfl, HK⟩ := hrel
    by_cases hlt : k < X.length
    · obtain ⟨ad, rfl, hc⟩ := hr.atM hlt
      by_cases hq : X[k] = a
      · have HF := Lib.hid (show k = idx X a by
          obtain ⟨h1, h2⟩ := idx_at HA.out
          rcases Nat.lt_trichotomy k (idx X a) with h | h | h
          · exact absurd hq (idx_not h hlt)
          · exact h
          · exact absurd h2 (HK.out _ h1 h))
        have hb : (a == a) = true := by simp
        rw [hq] at hc
        clear hq
        go_wp2
        go_ret
        exact ⟨ret_i (by rw [← HF.out]), rfl⟩
      · have hb : (a == X[k]) = false := by rw [beq_eq_false_iff_ne]; exact fun e => hq e.symm
        have HQ := Lib.hid hq
        clear hq
        generalize X[k] = x at hc hb
        go_wp2
        go_round
        case rel =>
          refine ⟨k + 1, by omega, by go_num, fun j h h2 => ?_⟩
          rcases Nat.lt_or_ge j k with h3 | h3
          · exact HK.out j h h3
          · obtain rfl : j = k := by omega
            exact HQ.out
        case measure => simp [intOf]; omega
    · exfalso
      obtain ⟨h1, h2⟩ := idx_at HA.out
      exact HK.out _ h1 (by omega) h2

set_option maxRecDepth 100000 in
set_option maxHeartbeats 4000000 in
theorem cover_any (W T : Int) (S : Value) (A : Option Addr) (X L : List Int) (g n fr to bw bn br bl lo : Nat) (w : World) (h1 : 1 ≤ W) (h2 : W ≤ 6) (h3 : 1 ≤ T) (h4 : T ≤ 6)
    (hX : ∀ x ∈ X, 0 ≤ x ∧ x < W * T) (hn : X.length = n) (hL : L.length = n) (hWT : W * T = (n : Int)) (n1 : 1 ≤ n) (hto : to ≤ 100) (hfr : fr ≤ 100)
    (cw : w.cell? ⟨bw, 0, none⟩ = some (.slice A n n)) (cn : w.cell? ⟨bn, 0, none⟩ = some (.int .i64 n)) (cr : C3 w br (.int .i64 W) (.int .i64 T) S) (cl : w.cell? ⟨bl, 0, none⟩ = some (.slice (some ⟨g, 0, none⟩) n n))
    (hr : Rd w A (X.map (.int .i64))) (hw : Wr w lo 3 (some ⟨g, 0, none⟩) (L.map (.int .i64))) (d1 : bw ≠ g) (d2 : bn ≠ g) (d3 : br ≠ g) (d4 : bl ≠ g) (d5 : ∀ ad, A = some ad → ad.block ≠ g) :
    Calls Try.prog 82 #[.int .i64 fr, .int .i64 to, .pointer (some ⟨bw, 0, none⟩), .pointer (some ⟨bn, 0, none⟩), .pointer (some ⟨br, 0, none⟩), .pointer (some ⟨bl, 0, none⟩)] w fun e w' =>
      e = .returned (.tuple #[]) ∧ Wr w' lo 3 (some ⟨g, 0, none⟩) ((coverL W T X L fr to).map (.int .i64)) ∧ w.grownBy w' (some g) := by
  have n36 : n ≤ 36 := by have := mul_bd h1 h2 h3 h4; omega
  have HX := Lib.hid hX
  have HN := Lib.hid hn
  have HL := Lib.hid hL
  have HWT := Lib.hid hWT
  obtain ⟨b, off, rfl, -⟩ := hr.atEM (k := 0) (by omega)
  have d5 := d5 _ rfl
  simp only at d5
  clear hX hn hL hWT
  go_enter Try.func82, Try.ntmps82
  go_wp2_with fail
  go_loopw [8] (fun v wr => ∃ j i : Nat, Hid (i = fr + 2 * j) ∧ v = .int .i64 i ∧ i ≤ 200 ∧ Hid (j ≤ (to - fr) / 2) ∧ Wr wr lo 3 (some ⟨g, 0, none⟩) ((coverK W T X L fr j).map (.int .i64)) ∧ w.grownBy wr (some g)) (fun v _ => 300 - (intOf v).toNat)
  case atStart => exact ⟨0, fr, Lib.hid (by omega), rfl, by omega, Lib.hid (Nat.zero_le _), hw, World.grownBy.refl _ _⟩
  case round =>
    clear hw
    obtain ⟨j, i, HI, rfl, hi, HJ, hw, hg⟩ := hrel
    have kw := gb_cell hg d1 cw
    have kn := gb_cell hg d2 cn
    have kl := gb_cell hg d4 cl
    have kr := cr.gb hg d3
    have hr2 := hr.grownBelow hg (fun _ ad e => by injection e with e; subst e; intro h; exact d5 (by injection h))
    by_cases hlt : i + 1 < to
    · obtain ⟨q1, hq1⟩ : ∃ q, i % n = q := ⟨_, rfl⟩
      obtain ⟨q2, hq2⟩ : ∃ q, (i + 1) % n = q := ⟨_, rfl⟩
      have l1 : q1 < n := by rw [← hq1]; exact Nat.mod_lt _ n1
      have l2 : q2 < n := by rw [← hq2]; exact Nat.mod_lt _ n1
      have t1 : (i : Int).tmod (n : Int) = (q1 : Int) := by rw [Int.tmod_eq_emod_of_nonneg (by omega), ← hq1]; simp
      have t2 : ((i : Int) + 1).tmod (n : Int) = (q2 : Int) := by rw [Int.tmod_eq_emod_of_nonneg (by omega), ← hq2]; simp
      have e1 : IntKind.i64.wrap (q1 : Int) = q1 := IntWalk.i64_in _ (by omega)
      have e2 : IntKind.i64.wrap (q2 : Int) = q2 := IntWalk.i64_in _ (by omega)
      have e3 : IntKind.i64.wrap ((i : Int) + 1) = (i : Int) + 1 := IntWalk.i64_in _ (by omega)
      have c1 := hr2.cellEM (k := q1) (by rw [HN.out]; exact l1)
      have c2 := hr2.cellEM (k := q2) (by rw [HN.out]; exact l2)
      have x1 := HX.out _ (List.getElem_mem (show q1 < X.length by rw [HN.out]; exact l1))
      have x2 := HX.out _ (List.getElem_mem (show q2 < X.length by rw [HN.out]; exact l2))
      have HQ1 := Lib.hid (show wayAt X i = X[q1]'(by rw [HN.out]; exact l1) from wayAt_at HN.out hq1 _)
      have HQ2 := Lib.hid (show wayAt X (i + 1) = X[q2]'(by rw [HN.out]; exact l2) from wayAt_at HN.out hq2 _)
      generalize X[q1]'(by rw [HN.out]; exact l1) = ca at c1 x1 HQ1
      generalize X[q2]'(by rw [HN.out]; exact l2) = nb at c2 x2 HQ2
      obtain ⟨xa0, xa1⟩ := x1
      obtain ⟨xb0, xb1⟩ := x2
      obtain ⟨ca, rfl⟩ := Int.eq_ofNat_of_zero_le xa0
      obtain ⟨nb, rfl⟩ := Int.eq_ofNat_of_zero_le xb0
      have la : ca < n := by have := HWT.out; omega
      have lb : nb < n := by have := HWT.out; omega
      have I1 : (q1 : Int) < (n : Int) := by omega
      have I2 : (q2 : Int) < (n : Int) := by omega
      have n0 : ¬ (n = 0) := by omega
      have hc0 := layTo_len W T (coverK W T X L fr j) ca nb
      have XA := Lib.hid xa1
      have H2 := Lib.hid hr2
      clear xa1 xb1 hq1 hq2 xa0 xb0 hr2
      have hdec : decide ((i : Int) + 1 < (to : Int)) = true := by simp; omega
      go_wp2_with fail
      go_quiet (fail)
      clear t1 t2 e1 e2 e3 c1 c2 hdec
      go_wp2_with fail
      obtain ⟨wo, hwo⟩ : ∃ wo : World, wo = wr := ⟨_, rfl⟩
      subst hwo
      have hMl := coverK_len W T X L fr j
      rw [HL.out] at hMl
      have HK := Lib.hid (show coverK W T X L fr (j + 1) = layTo W T (coverK W T X L fr j) ca nb 4 by
        rw [coverK, ← HI.out, HQ1.out, HQ2.out])
      generalize coverK W T X L fr j = M at hw hMl HK hc0
      clear hc0
      have HM := Lib.hid hMl
      clear hMl
      go_loopw [11] (fun v wr => ∃ d : Nat, d ≤ 4 ∧ v = .int .i64 ((d : Int) + 1) ∧ Wr wr lo 3 (some ⟨g, 0, none⟩) ((layTo W T M ca nb d).map (.int .i64)) ∧ w.grownBy wr (some g)) (fun v _ => (5 - intOf v).toNat)
      case atStart => exact ⟨0, by omega, by go_num, hw, gb_drewN hg _⟩
      case round =>
        clear hw hg kw kn kl kr
        obtain ⟨d, hd, rfl, hw, hg⟩ := hrel
        have kl := gb_cell hg d4 cl
        have kr := cr.gb hg d3
        by_cases hd4 : d < 4
        · obtain ⟨x0, x1, x2⟩ := id kr
          have HN2 := Lib.hid ((layTo_len W T M ca nb d).trans HM.out)
          cases hs : (stepZ W T ca ((d : Int) + 1) == (nb : Int)) with
          | false =>
            have HS := Lib.hid (show layTo W T M ca nb (d + 1) = layTo W T M ca nb d by
              rw [layTo, layD, if_neg (by simpa using hs)])
            go_wp2_with fail
            refine (step_any W T S ca ((d : Int) + 1) _ h1 h2 h3 h4 (by omega) XA.out).mono ?_
            rintro e w2 ⟨rfl, b2⟩
            go_wp2
            go_roundw
            case rel => exact ⟨d + 1, by omega, by go_num, by rw [HS.out]; exact hw.belo b2, gb_below hg b2⟩
            case measure => simp [intOf]; omega
          | true =>
            have HS := Lib.hid (show layTo W T M ca nb (d + 1) = ((layTo W T M ca nb d).set ca ((d : Int) + 1)).set nb (backZ ((d : Int) + 1)) by
              rw [layTo, layD, if_pos (by simpa using hs)]; simp)
            generalize layTo W T M ca nb d = N at hw HS HN2
            go_wp2_with fail
            refine (step_any W T S ca ((d : Int) + 1) _ h1 h2 h3 h4 (by omega) XA.out).mono ?_
            rintro e w2 ⟨rfl, b2⟩
            have hw2 := hw.belo b2
            have hg2 := gb_below hg b2
            have kl2 := gb_cell hg2 d4 cl
            obtain ⟨g', hg0, _, _, hfz⟩ := hw2.form (by intro e; have := HN2.out; simp at e; rw [e] at this; simp at this; omega)
            have hgg : g = g' := by injection hg0 with h; injection h
            subst hgg
            have f1 := hfz ca
            have f2 := hfz nb
            have c1 := hw2.rd.cellEM (k := ca) (by rw [HN2.out]; exact la)
            have c2 := hw2.rd.cellEM (k := nb) (by rw [HN2.out]; exact lb)
            simp only [Nat.zero_add] at c1 c2
            have HC := Lib.hid hw2
            clear hw2 hw hg b2 kl kr x0 x1 x2 hfz hg0
            have hcn : ¬ (ca = nb) := by
              intro e; subst e
              exact step_neq (W := W) (T := T) (d := (d : Int) + 1) h1 (Int.natCast_nonneg ca) (by simpa using hs)
            have hnc : ¬ (nb = ca) := fun e => hcn e.symm
            have J1 : (ca : Int) < (n : Int) := by omega
            have J2 : (nb : Int) < (n : Int) := by omega
            go_wp2_with fail
            go_region_held3 (fun w' => w'.cell? ⟨bl, 0, none⟩ = some (.slice (some ⟨g, 0, none⟩) n n)) (first | exact kl2 | exact gb_far kl2 d4 | exact gb_far (gb_far kl2 d4) d4 | go_keep)
              ((go_at_call 83; refine (iback_any _ _ (by omega) (by omega)).mono ?_; rintro e w' ⟨rfl, rfl⟩))
            go_wp2
            go_roundw
            case rel =>
              refine ⟨d + 1, by omega, by go_num, ?_, gb_drew (gb_store (gb_store hg2))⟩
              rw [HS.out, List.map_set, List.map_set]
              exact (HC.out.store ca _).store nb _
            case measure => simp [intOf]; omega
        · obtain rfl : d = 4 := by omega
          go_wp2_with fail
          go_roundw
          case rel => exact ⟨j + 1, i + 2, Lib.hid (by have := HI.out; omega), by go_num, by omega, Lib.hid (by have := HI.out; omega), by rw [HK.out]; exact hw, hg⟩
          case measure => simp [intOf]; omega
    · go_wp2
      go_end0
      refine ⟨rfl, ?_, hg⟩
      have : coverK W T X L fr j = coverL W T X L fr to := by
        unfold coverL
        have h1 := HI.out
        have h2 := HJ.out
        rw [show (to - fr) / 2 = j by omega]
      rw [← this]; exact hw
end Go.Proofs.Ythkpiacanfajbaa
