/- FnBarsMany: joined from DrawBars, BarsI2, BarsS, BarsS2, CovN, BarsT, ColSum, BarsC, PerfN, DomN, TurnN, TurnI, PutI, RTurn, BarsL, LBarsMany. -/
import Derived.Test.YtnciemnlnijhfaaDrawFew
import Derived.Test.YtnciemnlnijhfaaBoxes
import Derived.Test.YtnciemnlnijhfaaBarsI
import Derived.Laws.EntriesVeiled
import Derived.Test.YtnciemnlnijhfaaLess
import Derived.Test.YtnciemnlnijhfaaBarsN
import Derived.Test.YtnciemnlnijhfaaColour
import Derived.Test.YtnciemnlnijhfaaLaidN
import Derived.Test.YtnciemnlnijhfaaMTilB
import Derived.Test.YtnciemnlnijhfaaGb
import Derived.Test.YtnciemnlnijhfaaAlive
import Derived.Test.YtnciemnlnijhfaaSet
import Derived.Test.YtnciemnlnijhfaaBw
/- Contract: the draw of FnBarsMany. -/
namespace Go.Proofs.Ytnciemnlnijhfaa
open Go.RowKit

theorem boxB_len (W T : Int) : (boxB W T).length ≤ 37 := by
  unfold boxB
  split
  · rename_i h
    unfold boxOk at h
    have := of_decide_eq_true h
    simp; omega
  · simp
set_option maxRecDepth 100000 in
set_option maxHeartbeats 4000000 in
theorem drawBarsMany_any (A : Option Addr) (c : Nat) (bs : List Int) (w : World) (hr : Rd w A (bs.map (.int .u8))) (hw : ∀ x ∈ bs, 0 ≤ x ∧ x ≤ 255) (hn : bs.length ≤ 1048576) (hcap : bs.length ≤ c) :
    Calls Try.prog 42 #[.slice A bs.length c] w (Drawn1 (fun n => -4 ≤ n ∧ n ≤ 8) w) := by
  have HW := Lib.hid hw
  clear hw
  have hr1 := hr.alloc (.cells #[.int .i64 0, .int .i64 0, .slice none 0 0] 25)
  have P0 : (w.alloc (.cells #[.int .i64 0, .int .i64 0, .slice none 0 0] 25)).heap[w.heap.size]? = some (.cells #[.int .i64 0, .int .i64 0, .slice none 0 0] 25 (0, 0)) := heap_alloc_new w _
  have Z0 := bl_alloc (Below.refl w.heap.size w) (.cells #[.int .i64 0, .int .i64 0, .slice none 0 0] 25)
  have hs0 : (w.alloc (.cells #[.int .i64 0, .int .i64 0, .slice none 0 0] 25)).heap.size = w.heap.size + 1 := by simp
  go_enter Try.func42, Try.ntmps42
  go_wp2_with fail
  generalize w.alloc (.cells #[.int .i64 0, .int .i64 0, .slice none 0 0] 25) = wa at *
  refine (open_any A c bs _ hr1 HW.out hn hcap).mono ?_
  rintro e w1 ⟨g, A1, c1, by1, rfl, O1⟩
  have hg1 := O1.lt
  clear hr1 HW hn hcap hr
  go_wp2_with fail
  refine (pick_any 4 _ g A1 c1 by1 0 O1.1 (by omega) (by omega)).mono ?_
  rintro e w3 ⟨r1, rfl, ⟨p1, q1⟩, S3, G3⟩
  have O3 := O1.pick S3 G3
  have q1' : r1 ≤ 3 := by omega
  have z3 := G3.size
  clear q1 S3 G3 O1
  go_wp2_with fail
  refine (pick_any 20 _ g A1 c1 by1 _ O3.1 (by omega) (by omega)).mono ?_
  rintro e w4 ⟨r2, rfl, ⟨p2', q2⟩, S4, G4⟩
  have O4 := O3.pick S4 G4
  have q2' : r2 ≤ 19 := by omega
  have z4 := G4.size
  clear q2 S4 G4 O3
  go_wp2_with fail
  refine (pick_any 20 _ g A1 c1 by1 _ O4.1 (by omega) (by omega)).mono ?_
  rintro e w5 ⟨r3, rfl, ⟨p3, q3⟩, S5, G5⟩
  have O5 := O4.pick S5 G5
  have q3' : r3 ≤ 19 := by omega
  have z5 := G5.size
  clear q3 S5 G5 O4
  go_wp2_with fail
  refine (pick_any 2 _ g A1 c1 by1 _ O5.1 (by omega) (by omega)).mono ?_
  rintro e w6 ⟨r4, rfl, ⟨p4, q4⟩, S6, G6⟩
  have O6 := O5.pick S6 G6
  have q4' : r4 = 0 ∨ r4 = 1 := by omega
  have z6 := G6.size
  clear q4 S6 G6 O5
  have hN : -4 ≤ 1 + r1 + r2 / 19 * 4 - r3 / 19 * 5 ∧ 1 + r1 + r2 / 19 * 4 - r3 / 19 * 5 ≤ 8 := by omega
  have HN := Lib.hid hN
  clear hN
  rcases q4' with rfl | rfl
  · go_wp2_with fail
    refine (pick_any 5 _ g A1 c1 by1 _ O6.1 (by omega) (by omega)).mono ?_
    rintro e w7 ⟨r5, rfl, ⟨p5, q5⟩, S7, G7⟩
    have O7 := O6.pick S7 G7
    have q5' : r5 ≤ 4 := by omega
    have z7 := G7.size
    clear q5 S7 G7 O6
    go_wp2_with fail
    refine (pick_any 5 _ g A1 c1 by1 _ O7.1 (by omega) (by omega)).mono ?_
    rintro e w8 ⟨r6, rfl, ⟨p6, q6⟩, S8, G8⟩
    have O8 := O7.pick S8 G8
    have q6' : r6 ≤ 4 := by omega
    have z8 := G8.size
    clear q6 S8 G8 O7
    go_wp2_with fail
    refine (sRegionBox_any _ _ _).mono ?_
    rintro e w9 ⟨B, k, rfl, R9, b9⟩
    have hl2 := boxB_len (1 + r5) (1 + r6)
    have f2 := R9.1
    have hB := O8.2.2.trans (b9.mono O8.2.2.size)
    generalize boxB (1 + r5) (1 + r6) = xs at *
    generalize boxW (1 + r5) (1 + r6) = W at *
    generalize boxT (1 + r5) (1 + r6) = T at *
    obtain ⟨s0, s1, s2, g0, g1, g2⟩ := blk3 ((hB.block w.heap.size (by omega)).trans P0)
    have hsz : w.heap.size < w8.heap.size := by have := O8.2.1; omega
    have K := fun (v : World) (i : Nat) (u : Value) (R : Rd v B (xs.map .bool)) => R.grownBelow (set_grownR v ⟨w.heap.size, i, none⟩ u) (fun _ ad ha e => by have := f2 ad ha; have e' : ad.block = w.heap.size := (by simpa using e); omega)
    have R8 := K _ 2 (.slice B xs.length k) (K _ 1 (.int .i64 T) (K _ 0 (.int .i64 W) R9.rd))
    have B8 := (((Z0.trans (hB.mono (show w.heap.size ≤ wa.heap.size by omega))).setCell (p := ⟨w.heap.size, 0, none⟩) (Nat.le_refl _) (.int .i64 W)).setCell (p := ⟨w.heap.size, 1, none⟩) (Nat.le_refl _) (.int .i64 T)).setCell (p := ⟨w.heap.size, 2, none⟩) (Nat.le_refl _) (.slice B xs.length k)
    clear K
    go_wp2
    refine bodyPost_ret (v := .tuple #[.agg #[.int .i64 W, .int .i64 T, .slice B xs.length k], .int .i64 (1 + r1 + r2 / 19 * 4 - r3 / 19 * 5)]) (by simp [results, Try.results42, go_sem, s0, s1, s2]) rfl ⟨W, T, xs, B, k, _, rfl, R8, hl2, HN.out, B8⟩
  · go_wp2_with fail
    refine (few_any 9 _ g A1 c1 by1 _ O6.1 (by omega) (by omega) (by omega)).mono ?_
    rintro e w2 ⟨W, T, xs, B, k, p2, rfl, R2, hl2, S2, hp2, G2, f2⟩
    have O2 := O6.pick S2 G2
    clear S2 G2 O6
    have hB := O2.2.2
    obtain ⟨s0, s1, s2, g0, g1, g2⟩ := blk3 ((hB.block w.heap.size (by omega)).trans P0)
    have hsz : w.heap.size < w6.heap.size := by have := O2.2.1; omega
    have K := fun (v : World) (i : Nat) (u : Value) (R : Rd v B (xs.map .bool)) => R.grownBelow (set_grownR v ⟨w.heap.size, i, none⟩ u) (fun _ ad ha e => by have := f2 ad ha; have e' : ad.block = w.heap.size := (by simpa using e); omega)
    have R8 := K _ 2 (.slice B xs.length k) (K _ 1 (.int .i64 T) (K _ 0 (.int .i64 W) R2))
    have B8 := (((Z0.trans (hB.mono (show w.heap.size ≤ wa.heap.size by omega))).setCell (p := ⟨w.heap.size, 0, none⟩) (Nat.le_refl _) (.int .i64 W)).setCell (p := ⟨w.heap.size, 1, none⟩) (Nat.le_refl _) (.int .i64 T)).setCell (p := ⟨w.heap.size, 2, none⟩) (Nat.le_refl _) (.slice B xs.length k)
    clear K
    go_wp2
    refine bodyPost_ret (v := .tuple #[.agg #[.int .i64 W, .int .i64 T, .slice B xs.length k], .int .i64 (1 + r1 + r2 / 19 * 4 - r3 / 19 * 5)]) (by simp [results, Try.results42, go_sem, s0, s1, s2]) rfl ⟨W, T, xs, B, k, _, rfl, R8, hl2, HN.out, B8⟩
end Go.Proofs.Ytnciemnlnijhfaa

/- Contract: the program's BarsMany. -/
namespace Go.Proofs.Ytnciemnlnijhfaa
open Go.RowKit

theorem bars_all (W T : Int) (long n c0 : Nat) (bs : List Bool) (A : Option Addr) (g bc br bl bk lo : Nat) (h1 : 1 ≤ W) (h2 : W ≤ 6) (h3 : 1 ≤ T) (h4 : T ≤ 6) (l1 : 2 ≤ long) (l2 : long ≤ 4)
    (hn : bs.length = n) (hWT : W * T = (n : Int)) (f : Nat) (hf : f ≤ 24) : BarsOk W T long n c0 bs A g bc br bl bk lo f := by
  induction f using Nat.strongRecOn with
  | _ f ih => exact bars_step W T long n c0 bs A g bc br bl bk lo h1 h2 h3 h4 l1 l2 hn hWT f hf (fun f' h => ih f' h (by omega))
theorem freeL_none (bs : List Bool) : freeL bs (List.replicate bs.length false) = bs := by
  apply List.ext_getElem
  · rw [freeL_len (by simp)]
  · intro k h1 h2
    rw [freeL_get h2 (by simpa using h2)]; simp
def barsOf (W T : Int) (bs : List Bool) (long : Int) : Int := if validB W T bs = true ∧ 1 ≤ long ∧ long ≤ 4 then barsN W T long.toNat 24 bs else -1
theorem barsOf_no {W T long : Int} {bs : List Bool} (h : ¬ (validB W T bs = true ∧ 1 ≤ long ∧ long ≤ 4)) : barsOf W T bs long = -1 := by unfold barsOf; rw [if_neg h]
theorem barsOf_ok {W T long : Int} {bs : List Bool} (h : validB W T bs = true) (h1 : 1 ≤ long) (h2 : long ≤ 4) : barsOf W T bs long = barsN W T long.toNat 24 bs := by unfold barsOf; rw [if_pos ⟨h, h1, h2⟩]

set_option maxRecDepth 100000 in
set_option maxHeartbeats 1000000 in
theorem iBarsMany_any (W T long : Int) (A : Option Addr) (c : Nat) (bs : List Bool) (w : World) (hr : Rd w A (bs.map .bool)) (hm : bs.length ≤ maxLen) :
    Calls Try.prog 43 #[.agg #[.int .i64 W, .int .i64 T, .slice A bs.length c], .int .i64 long] w fun e w' => e = .returned (.int .i64 (barsOf W T bs long)) ∧ Below w.heap.size w w' := by
  have X0 := (C3.new w (.int .i64 W) (.int .i64 T) (.slice A bs.length c) 25).alloc (.cells #[.int .i64 long] 3)
  have B0 := bl_alloc (bl_alloc (Below.refl w.heap.size w) (.cells #[.int .i64 W, .int .i64 T, .slice A bs.length c] 25)) (.cells #[.int .i64 long] 3)
  have L0 : ((w.alloc (.cells #[.int .i64 W, .int .i64 T, .slice A bs.length c] 25)).alloc (.cells #[.int .i64 long] 3)).cell? ⟨w.heap.size + 1, 0, none⟩ = some (.int .i64 long) := by simp
  have R0 := hr.belo B0
  cases hv : validB W T bs with
  | true =>
    obtain ⟨h1, h2, h3, h4, h5, h6⟩ := valid_len hv
    have hcnt : cnt bs ≤ 24 := (validB_iff.1 hv).2.2.2
    have HV := Lib.hid hv
    have H6 := Lib.hid h6
    have HCN := Lib.hid hcnt
    have hrv := fun z R => iRegionValid_any W T A c bs z R hm
    rw [hv] at hrv
    have HRV := Lib.hid hrv
    clear hv h6 hcnt hrv
    by_cases hl : 1 ≤ long ∧ long ≤ 4
    · obtain ⟨l1, l2⟩ := hl
      have HB := Lib.hid (barsOf_ok HV.out l1 l2)
      by_cases hone : long = 1
      · subst hone
        have HE := Lib.hid (show 1 = barsOf W T bs 1 by rw [HB.out]; exact (bars_one W T 24 bs HCN.out).symm)
        go_enter Try.func43, Try.ntmps43
        go_wp2_with fail
        refine (HRV.out _ R0).mono ?_
        rintro e w1 ⟨rfl, b1⟩
        have B1 := bl_go B0 b1
        have L1 := ((bcell b1).1 (w.heap.size + 1) 0 (by simp)).trans L0
        go_wp2_with (go_at_call 82; refine (in_t _ _ _ _ (by omega) (by omega)).mono ?_; rintro e w' ⟨rfl, rfl⟩)
        go_ret
        exact ⟨ret_i HE.out, B1⟩
      · obtain ⟨ln, rfl⟩ := Int.eq_ofNat_of_zero_le (show 0 ≤ long by omega)
        have l3 : 2 ≤ ln := by omega
        have l4 : ln ≤ 4 := by omega
        have hon : ((ln : Int) == 1) = false := by rw [beq_eq_false_iff_ne]; omega
        obtain ⟨i0, hi, hz0, hz1, hz2⟩ := info_parts Try.infoB
        have hb1 : i0.bytes * bs.length ≤ 281474976710656 := by rw [hz2]; omega
        have HZ := Lib.hid (And.intro hz0 (And.intro hz1 hz2))
        clear hz0 hz1 hz2 hone
        go_enter Try.func43, Try.ntmps43
        go_wp2_with fail
        refine (HRV.out _ R0).mono ?_
        rintro e w1 ⟨rfl, b1⟩
        have B1 := bl_go B0 b1
        have L1 := ((bcell b1).1 (w.heap.size + 1) 0 (by simp)).trans L0
        have X1 := X0.belo b1
        have R1 := R0.belo b1
        have s1 : w.heap.size + 2 ≤ w1.heap.size := by have := b1.size; simp at this; omega
        clear L0 X0 R0 B0 b1
        obtain ⟨x0, x1, x2⟩ := id X1
        go_wp2_with (first | (go_at_call 82; refine (in_t _ _ _ _ (by omega) (by omega)).mono ?_; rintro e w' ⟨rfl, rfl⟩) | (at_make; refine wpList_make_full _ rfl _ _ 23 rfl w1.heap.size 4 i0 (.bool false) 1 Try.underlying23 hi HZ.out.1 HZ.out.2.1 .i64 .i64 _ _ bs.length rfl rfl rfl rfl hb1 (by unfold maxLen; omega) (Nat.le_refl _) ?_; intro w2 hown2 hgrow2))
        have hg2 : w1.heap.size < w2.heap.size := own_lt hown2 _ rfl
        have hbb := bl_alloc (bl_alloc (Below.refl w2.heap.size w2) (.cells #[.slice (some ⟨w1.heap.size, 0, none⟩) bs.length bs.length] 23)) (.cells #[.func (.func 98) #[] #[.pointer (some ⟨w2.heap.size, 0, none⟩), .pointer (some ⟨w.heap.size, 0, none⟩), .pointer (some ⟨w.heap.size + 1, 0, none⟩), .pointer (some ⟨w2.heap.size + 1, 0, none⟩)]] 82)
        have cc : ((w2.alloc (.cells #[.slice (some ⟨w1.heap.size, 0, none⟩) bs.length bs.length] 23)).alloc (.cells #[.func (.func 98) #[] #[.pointer (some ⟨w2.heap.size, 0, none⟩), .pointer (some ⟨w.heap.size, 0, none⟩), .pointer (some ⟨w.heap.size + 1, 0, none⟩), .pointer (some ⟨w2.heap.size + 1, 0, none⟩)]] 82)).cell? ⟨w2.heap.size, 0, none⟩ = some (.slice (some ⟨w1.heap.size, 0, none⟩) bs.length bs.length) := by simp
        have ck : ((w2.alloc (.cells #[.slice (some ⟨w1.heap.size, 0, none⟩) bs.length bs.length] 23)).alloc (.cells #[.func (.func 98) #[] #[.pointer (some ⟨w2.heap.size, 0, none⟩), .pointer (some ⟨w.heap.size, 0, none⟩), .pointer (some ⟨w.heap.size + 1, 0, none⟩), .pointer (some ⟨w2.heap.size + 1, 0, none⟩)]] 82)).cell? ⟨w2.heap.size + 1, 0, none⟩ = some (.func (.func 98) #[] #[.pointer (some ⟨w2.heap.size, 0, none⟩), .pointer (some ⟨w.heap.size, 0, none⟩), .pointer (some ⟨w.heap.size + 1, 0, none⟩), .pointer (some ⟨w2.heap.size + 1, 0, none⟩)]) := by simp
        have X2 : C3 w2 w.heap.size (.int .i64 W) (.int .i64 T) (.slice A bs.length c) := ⟨(hgrow2.cell_far _ (by simp; omega) (by simp)).trans X1.1, (hgrow2.cell_far _ (by simp; omega) (by simp)).trans X1.2.1, (hgrow2.cell_far _ (by simp; omega) (by simp)).trans X1.2.2⟩
        have L2 := ((bcell hbb).1 (w.heap.size + 1) 0 (by omega)).trans ((hgrow2.cell_far ⟨w.heap.size + 1, 0, none⟩ (by simp; omega) (by simp)).trans L1)
        have X3 := X2.belo hbb
        have R3 := (R1.grown hgrow2 (fun k hk => by cases hk)).belo hbb
        have hw3 := (Wr.of_own hown2).belo hbb
        rw [show (Value.bool false).cells = #[.bool false] from rfl, toList_madeCells_one, show List.replicate (bs.length * 1) (Value.bool false) = (List.replicate bs.length false).map .bool by simp] at hw3
        have B3 := bl_go (B1.grown hgrow2 (by omega) (fun k hk => by cases hk)) hbb
        have hA : ∀ ad, A = some ad → ad.block ≠ w1.heap.size := fun ad e => by
          have h7 := H6.out
          have h8 := mul_bd h1 h2 h3 h4
          have := R1.lt e (by intro e2; have := congrArg List.length e2; simp at this; rw [this] at h7; simp at h7; omega)
          omega
        have S := (⟨cc, X3, L2, ck, R3, by omega, by omega, by omega, by omega, hA⟩ : Bst W T ln bs.length c bs A w1.heap.size w2.heap.size w.heap.size (w.heap.size + 1) (w2.heap.size + 1) _)
        have CB := bars_all W T ln bs.length c bs A w1.heap.size w2.heap.size w.heap.size (w.heap.size + 1) (w2.heap.size + 1) w1.heap.size h1 h2 h3 h4 l3 l4 rfl H6.out.symm 24 (Nat.le_refl _) _ (List.replicate bs.length false) 0 S hw3 (by simp) (Nat.zero_le _) (by rw [freeL_none]; exact HCN.out) (fun k _ h => absurd h (Nat.not_lt_zero k))
        rw [freeL_none] at CB
        refine CB.mono ?_
        rintro e w5 ⟨rfl, hw5, g5⟩
        go_wp2
        go_ret
        refine ⟨ret_i (by rw [HB.out]; rfl), B3.grown g5 B3.size (fun k hk => by injection hk with hk; omega)⟩
    · have HE := Lib.hid (barsOf_no (W := W) (T := T) (bs := bs) (fun h => hl h.2))
      have hl' : long < 1 ∨ 4 < long := by omega
      clear hl
      go_enter Try.func43, Try.ntmps43
      go_wp2_with fail
      refine (HRV.out _ R0).mono ?_
      rintro e w1 ⟨rfl, b1⟩
      have B1 := bl_go B0 b1
      have L1 := ((bcell b1).1 (w.heap.size + 1) 0 (by simp)).trans L0
      go_wp2_with (go_at_call 82; refine (in_f _ _ _ _ hl').mono ?_; rintro e w' ⟨rfl, rfl⟩)
      go_ret
      exact ⟨ret_i HE.out.symm, B1⟩
  | false =>
    have HE := Lib.hid (barsOf_no (W := W) (T := T) (bs := bs) (long := long) (fun h => by rw [hv] at h; exact absurd h.1 (by decide)))
    go_enter Try.func43, Try.ntmps43
    go_wp2_with fail
    refine (iRegionValid_any W T A c bs _ R0 hm).mono ?_
    rintro e w1 ⟨rfl, b1⟩
    rw [hv]
    have B1 := bl_go B0 b1
    go_wp2
    go_ret
    exact ⟨ret_i HE.out.symm, B1⟩
end Go.Proofs.Ytnciemnlnijhfaa

/- Contract: the reference's BarsMany. -/
namespace Go.Proofs.Ytnciemnlnijhfaa
open Go.RowKit

def BarsS (W T : Int) (long n : Nat) (f : Nat) : Prop :=
  ∀ (bs : List Bool) (b off c : Nat) (w : World), Rd w (some ⟨b, off, none⟩) (bs.map .bool) → bs.length = n → cnt bs ≤ f →
    Calls Try.prog 100 #[.agg #[.int .i64 W, .int .i64 T, .slice (some ⟨b, off, none⟩) n c], .int .i64 long] w fun e w' => e = .returned (.int .i64 (barsN W T long f bs)) ∧ Below w.heap.size w w'
set_option maxRecDepth 100000 in
set_option maxHeartbeats 2000000 in
theorem barsS_step (W T : Int) (long n : Nat) (h1 : 1 ≤ W) (h2 : W ≤ 6) (h3 : 1 ≤ T) (h4 : T ≤ 6) (l1 : 1 ≤ long) (l2 : long ≤ 4) (hWT : W * T = (n : Int)) (f : Nat) (hf : f ≤ 24) (ih : ∀ f', f' < f → BarsS W T long n f') : BarsS W T long n f := by
  intro bs b off c w hr hn hcnt
  have n36 : n ≤ 36 := by have := mul_bd h1 h2 h3 h4; omega
  have n1 : 1 ≤ n := by have := mul_bd h1 h2 h3 h4; omega
  have HN := Lib.hid hn
  have HWT := Lib.hid hWT
  have HIH := Lib.hid ih
  have HCNT := Lib.hid hcnt
  have HNE := Lib.hid (show bs ≠ [] by intro e; subst e; simp at hn; omega)
  have X0 := C3.new w (.int .i64 W) (.int .i64 T) (.slice (some ⟨b, off, none⟩) n c) 25
  have B0 := bl_alloc (Below.refl w.heap.size w) (.cells #[.int .i64 W, .int .i64 T, .slice (some ⟨b, off, none⟩) n c] 25)
  have r0 := hr.belo B0
  clear hn hWT ih hcnt
  go_enter Try.func100, Try.ntmps100
  go_wp2_with fail
  generalize w.alloc (.cells #[.int .i64 W, .int .i64 T, .slice (some ⟨b, off, none⟩) n c] 25) = wq at *
  obtain ⟨x0, x1, x2⟩ := id X0
  go_loop [5] (fun v => ∃ k : Nat, k ≤ n ∧ v = .int .i64 k ∧ Hid (∀ j (hj : j < bs.length), j < k → bs[j] = false)) (fun v => n - (intOf v).toNat)
  case atStart => exact ⟨0, Nat.zero_le _, rfl, fun j hj h => absurd h (Nat.not_lt_zero j)⟩
  case round =>
    obtain ⟨k, hk, rfl, HK⟩ := hrel
    by_cases hlt : k < n
    · have kb : k < bs.length := by have := HN.out; omega
      have cb := r0.cellEM kb
      have kI : (k : Int) < (n : Int) := by omega
      cases hb : bs[k] with
      | false =>
        rw [hb] at cb
        have HF := Lib.hid hb
        clear hb
        go_wp2_with fail
        go_round
        case rel =>
          refine ⟨k + 1, by omega, by go_num, fun j hj hj2 => ?_⟩
          rcases Nat.lt_or_ge j k with h | h
          · exact HK.out j hj h
          · obtain rfl : j = k := by omega
            exact HF.out
        case measure => simp [intOf]; omega
      | true =>
        rw [hb] at cb
        have HF := Lib.hid hb
        have hkn : ((k : Int) == (n : Int)) = false := by rw [beq_eq_false_iff_ne]; omega
        have hfp := cnt_pos kb hb
        obtain ⟨f', rfl⟩ : ∃ f', f = f' + 1 := ⟨f - 1, by have := HCNT.out; omega⟩
        have HFIRST := Lib.hid (firstB_eq (F := bs) (c := k) (by omega) HK.out (fun _ => hb))
        have HB := Lib.hid (show barsN W T long (f' + 1) bs = sumB W T long (barsN W T long f') bs k 2 by
          rw [barsN, if_neg (by rw [HFIRST.out, HN.out]; omega), HFIRST.out])
        have HPW := Lib.hid (show ((2 : Int) ^ f') ≤ 16777216 by
          have e : (2 : Int) ^ f' = ((2 ^ f' : Nat) : Int) := by simp
          have := Nat.pow_le_pow_right (show 1 ≤ 2 by omega) (show f' ≤ 24 by omega)
          rw [e]; omega)
        have HKW := Lib.hid (show (k : Int) < W * T by have := HWT.out; omega)
        clear hfp hb
        go_wp2_with fail
        clear cb x0 x1 x2 hkn
        go_loopw [6, 7] (fun v i wr => ∃ q : Nat, q ≤ 2 ∧ i = .int .i64 ((q : Int) + 1) ∧ v = .int .i64 (sumB W T long (barsN W T long f') bs k q) ∧ Below w.heap.size w wr ∧ C3 wr w.heap.size (.int .i64 W) (.int .i64 T) (.slice (some ⟨b, off, none⟩) n c)) (fun _ i _ => 4 - (intOf i).toNat)
        case atStart => exact ⟨0, by omega, by go_num, rfl, B0, X0⟩
        case round =>
          clear B0 X0 r0
          obtain ⟨q, hq, rfl, rfl, B1, X1⟩ := hrel
          by_cases hq2 : q < 2
          · obtain ⟨d, hd⟩ : ∃ d, (q : Int) + 1 = d := ⟨_, rfl⟩
            have HD := Lib.hid hd
            have hdl : d ≤ 2 := by omega
            have hdg : 1 ≤ d := by omega
            obtain ⟨S0, hS0⟩ : ∃ S0, sumB W T long (barsN W T long f') bs k q = S0 := ⟨_, rfl⟩
            have hSb := sumB_bd W T long f' bs k q hq
            rw [hS0] at hSb ⊢
            rw [hd]
            have HS0 := Lib.hid hS0
            clear hS0 hd
            obtain ⟨hSb1, hSb2⟩ := hSb
            have hSb3 : S0 ≤ 33554432 := by have := HPW.out; omega
            clear hSb2
            obtain ⟨wo, hwo⟩ : ∃ wo : World, wo = wr := ⟨_, rfl⟩
            subst hwo
            have B2 := bl_alloc B1 (.cells #[] 3)
            have X2 := X1.alloc (.cells #[] 3)
            have own2 := OwnI.empty wo
            have hs2 : wo.heap.size ≤ (wo.alloc (.cells #[] 3)).heap.size := by simp
            have hwo1 : w.heap.size < wo.heap.size := X1.lt
            go_wp2_with fail
            generalize wo.alloc (.cells #[] 3) = w2 at *
            go_loopw [8, 9] (fun v a wz => ∃ (L : List Int) (t : Int), a = .int .i64 t ∧ OwnI wz wo.heap.size v L ∧ Hid (L ++ barL W T bs d (long - L.length) t = barL W T bs d long k) ∧ L.length ≤ long ∧ (t = -1 ∨ (0 ≤ t ∧ t < (n : Int))) ∧ Below w.heap.size w wz ∧ C3 wz w.heap.size (.int .i64 W) (.int .i64 T) (.slice (some ⟨b, off, none⟩) n c) ∧ wo.heap.size ≤ wz.heap.size) (fun v _ _ => match v with | .slice _ m _ => long - m | _ => 0)
            case atStart => exact ⟨[], k, rfl, own2, rfl, Nat.zero_le _, .inr ⟨by omega, by omega⟩, B2, X2, hs2⟩
            case round =>
              clear own2 B2 X2 hs2 B1 X1
              obtain ⟨L, t, rfl, hown, HBAR, lL2, ht, B5, X5, hs5⟩ := hrel
              obtain ⟨A3, c3, rfl, hown'⟩ := id hown
              clear hown'
              have r5 := hr.belo B5
              obtain ⟨x0, x1, x2⟩ := id X5
              by_cases hgo2 : (0 ≤ t ∧ bs.getD t.toNat false = true) ∧ L.length < long
              · obtain ⟨⟨t0', hfree⟩, hll⟩ := hgo2
                obtain ⟨tn, rfl⟩ := Int.eq_ofNat_of_zero_le t0'
                have htn : tn < n := by omega
                have tb : tn < bs.length := by have := HN.out; omega
                rw [Int.toNat_natCast, getD_at _ false tb] at hfree
                have cb := r5.cellEM tb
                rw [hfree] at cb
                have HB2 := Lib.hid (show (L ++ [(tn : Int)]) ++ barL W T bs d (long - (L ++ [(tn : Int)]).length) (stepZ W T tn d) = barL W T bs d long k by
                  rw [← HBAR.out]
                  obtain ⟨m, hm⟩ : ∃ m, long - L.length = m + 1 := ⟨long - L.length - 1, by omega⟩
                  rw [hm, barL_head tb hfree, List.length_append, List.length_singleton, show long - (L.length + 1) = m by omega]
                  simp)
                have HTW := Lib.hid (show (tn : Int) < W * T by have := HWT.out; omega)
                have tI : (tn : Int) < (n : Int) := by omega
                have lI : (L.length : Int) < (long : Int) := by omega
                have HB5 := Lib.hid B5
                have HX5 := Lib.hid X5
                clear hfree ht t0' B5 X5 r5
                go_wp2_with (at_builtin; refine app_int _ rfl _ _ rfl wo.heap.size _ _ rfl hown _ rfl (by omega) hs5 ?_; intro A' c' w4 hown4 hg4; have b4 := app_below (Below.refl wo.heap.size wr) (Nat.le_refl _) hs5 hown hg4; have X6 := HX5.out.below b4 hwo1; obtain ⟨y0, y1, y2⟩ := id X6)
                refine (l2step_any W T _ tn d _ h1 h2 h3 h4 (by omega) HTW.out).mono ?_
                rintro e w5 ⟨rfl, b5⟩
                have hst := step_bd d h1 h2 h3 h4 (show 0 ≤ (tn : Int) by omega) HTW.out
                rw [HWT.out] at hst
                have HST := Lib.hid hst
                have hs6 : wo.heap.size ≤ w5.heap.size := by have := b4.size; have := b5.size; omega
                have B6 := bl_go (HB5.out.trans (b4.mono (by omega))) b5
                clear hst y0 y1 y2
                go_wp2_with fail
                go_roundw
                case rel => exact ⟨L ++ [(tn : Int)], _, rfl, by simpa using hown4.belo b5, HB2.out, by simp; omega, HST.out, B6, X6.belo b5, hs6⟩
                case measure => simp; omega
              · have HL := Lib.hid (show L = barL W T bs d long k by
                  rw [← HBAR.out]
                  have : barL W T bs d (long - L.length) t = [] := by
                    rcases Nat.lt_or_ge L.length long with h | h
                    · obtain ⟨m, hm⟩ : ∃ m, long - L.length = m + 1 := ⟨long - L.length - 1, by omega⟩
                      rw [hm, barL, if_neg (fun h2 => hgo2 ⟨h2, h⟩)]
                    · rw [show long - L.length = 0 by omega]; rfl
                  rw [this, List.append_nil])
                have HMEM := Lib.hid (show ∀ x ∈ L, 0 ≤ x ∧ x < (bs.length : Int) from fun x hx => by
                  rw [HL.out] at hx
                  obtain ⟨m1, m2, -⟩ := barL_mem x hx
                  omega)
                have HLN := Lib.hid ((clearL_len L bs).trans HN.out)
                have HC2 := Lib.hid (show cnt (clearL bs L) ≤ f' by
                  have := cnt_bar (W := W) (T := T) (d := d) (n := long) (by omega) kb HF.out
                  rw [← HL.out] at this
                  have := HCNT.out; omega)
                have l4 : L.length ≤ 100 := by omega
                have HL3 := Lib.hid (fun (z : World) (Az : Option Addr) (cz : Nat) (R : Rd z (some ⟨b, off, none⟩) (bs.map .bool)) (RL : Rd z Az (L.map (.int .i64))) => by
                  have := l3less_any W T ⟨b, off, none⟩ Az c cz bs L z R RL HNE.out (by have := HN.out; omega) HMEM.out l4
                  rw [HN.out] at this; exact this)
                clear HBAR
                by_cases hll : L.length < long
                · have HP := Lib.hid (show sumB W T long (barsN W T long f') bs k (q + 1) = S0 by
                    rw [sumB, HS0.out, HD.out, partB, if_neg (by rw [← HL.out]; omega)]; omega)
                  have he : ((L.length : Int) == (long : Int)) = false := by rw [beq_eq_false_iff_ne]; omega
                  have lI : (L.length : Int) < (long : Int) := by omega
                  have hex : (t = -1) ∨ (∃ tn : Nat, t = tn ∧ tn < n ∧ ∃ (h1 : tn < bs.length), bs[tn] = false) := by
                    rcases ht with ht | ⟨ht1, ht2⟩
                    · exact .inl ht
                    · right
                      obtain ⟨tn, rfl⟩ := Int.eq_ofNat_of_zero_le ht1
                      have tb : tn < bs.length := by have := HN.out; omega
                      refine ⟨tn, rfl, by omega, tb, ?_⟩
                      cases e1 : bs[tn] with
                      | false => rfl
                      | true => exact absurd ⟨⟨by omega, by rw [Int.toNat_natCast, getD_at _ false tb, e1]⟩, hll⟩ hgo2
                  clear hgo2 ht
                  rcases hex with rfl | ⟨tn, rfl, htn, tb, eb⟩
                  · have tT : True := trivial
                    go_wp2_with fail
                    go_roundw
                    case rel => exact ⟨q + 1, by omega, by rw [← HD.out]; go_num, by rw [HP.out], B5, X5⟩
                    case measure => have hd := HD.out; simp [intOf]; omega
                  · have cb := r5.cellEM tb
                    rw [eb] at cb
                    have tI : (tn : Int) < (n : Int) := by omega
                    clear eb
                    go_wp2_with fail
                    go_roundw
                    case rel => exact ⟨q + 1, by omega, by rw [← HD.out]; go_num, by rw [HP.out], B5, X5⟩
                    case measure => have hd := HD.out; simp [intOf]; omega
                · have he : ((L.length : Int) == (long : Int)) = true := by rw [beq_iff_eq]; omega
                  have HLE := Lib.hid (show L.length = long by omega)
                  have hge : long ≤ L.length := by omega
                  have hnl : decide ((L.length : Int) < (long : Int)) = false := by simp; omega
                  have hex : (t = -1) ∨ (∃ tn : Nat, t = tn ∧ tn < n) := by
                    rcases ht with ht | ⟨ht1, ht2⟩
                    · exact .inl ht
                    · right
                      obtain ⟨tn, rfl⟩ := Int.eq_ofNat_of_zero_le ht1
                      exact ⟨tn, rfl, by omega⟩
                  clear hgo2 ht hll
                  by_cases hl1 : 1 < long
                  · have hl1' : (1 : Int) < (long : Int) := by omega
                    have HSUM := Lib.hid (show sumB W T long (barsN W T long f') bs k (q + 1) = sumB W T long (barsN W T long f') bs k q + barsN W T long f' (clearL bs L) by
                      rw [sumB, HD.out, partB, if_pos ⟨by rw [← HL.out]; exact HLE.out, .inl hl1⟩, ← HL.out])
                    rcases hex with rfl | ⟨tn, rfl, htn⟩
                    · have tT : True := trivial
                      go_wp2_with fail
                      with_reducible refine (HL3.out _ _ _ r5 (hown.rd.2)).mono ?_
                      rintro e w6 ⟨A6, c6, rfl, q6, b6⟩
                      rw [HLN.out]
                      obtain ⟨b6', o6', rfl, -⟩ := q6.rd.atEM (k := 0) (by rw [HLN.out]; omega)
                      have CIH := HIH.out f' (by omega) (clearL bs L) b6' o6' c6 w6 q6.rd (by rw [HLN.out]) HC2.out
                      obtain ⟨B0, hB0⟩ : ∃ B0, barsN W T long f' (clearL bs L) = B0 := ⟨_, rfl⟩
                      have hBb := barsN_bd W T long f' (clearL bs L)
                      rw [hB0] at hBb CIH
                      have HB0 := Lib.hid hB0
                      have HCIH := Lib.hid CIH
                      clear hB0 CIH
                      obtain ⟨hBb1, hBb2⟩ := hBb
                      have hBb3 : B0 ≤ 16777216 := Int.le_trans hBb2 HPW.out
                      clear hBb2
                      go_wp2_with fail
                      refine HCIH.out.mono ?_
                      rintro e w7 ⟨rfl, b7⟩
                      have B7 := bl_go (bl_go B5 b6) b7
                      have X7 := (X5.belo b6).belo b7
                      clear HCIH q6 b6 b7 B5 X5 r5 hown
                      go_wp2_with fail
                      go_roundw
                      case rel => exact ⟨q + 1, by omega, by rw [← HD.out]; go_num, by rw [HSUM.out, HB0.out, HS0.out], B7, X7⟩
                      case measure => have hd := HD.out; simp [intOf]; omega
                    · have tI : (tn : Int) < (n : Int) := by omega
                      go_wp2_with fail
                      with_reducible refine (HL3.out _ _ _ r5 (hown.rd.2)).mono ?_
                      rintro e w6 ⟨A6, c6, rfl, q6, b6⟩
                      rw [HLN.out]
                      obtain ⟨b6', o6', rfl, -⟩ := q6.rd.atEM (k := 0) (by rw [HLN.out]; omega)
                      have CIH := HIH.out f' (by omega) (clearL bs L) b6' o6' c6 w6 q6.rd (by rw [HLN.out]) HC2.out
                      obtain ⟨B0, hB0⟩ : ∃ B0, barsN W T long f' (clearL bs L) = B0 := ⟨_, rfl⟩
                      have hBb := barsN_bd W T long f' (clearL bs L)
                      rw [hB0] at hBb CIH
                      have HB0 := Lib.hid hB0
                      have HCIH := Lib.hid CIH
                      clear hB0 CIH
                      obtain ⟨hBb1, hBb2⟩ := hBb
                      have hBb3 : B0 ≤ 16777216 := Int.le_trans hBb2 HPW.out
                      clear hBb2
                      go_wp2_with fail
                      refine HCIH.out.mono ?_
                      rintro e w7 ⟨rfl, b7⟩
                      have B7 := bl_go (bl_go B5 b6) b7
                      have X7 := (X5.belo b6).belo b7
                      clear HCIH q6 b6 b7 B5 X5 r5 hown
                      go_wp2_with fail
                      go_roundw
                      case rel => exact ⟨q + 1, by omega, by rw [← HD.out]; go_num, by rw [HSUM.out, HB0.out, HS0.out], B7, X7⟩
                      case measure => have hd := HD.out; simp [intOf]; omega
                  · have hl1' : decide ((1 : Int) < (long : Int)) = false := by simp; omega
                    by_cases hd1 : d = 1
                    · have hd1' : (d == 1) = true := by simpa using hd1
                      have HSUM := Lib.hid (show sumB W T long (barsN W T long f') bs k (q + 1) = sumB W T long (barsN W T long f') bs k q + barsN W T long f' (clearL bs L) by
                        rw [sumB, HD.out, partB, if_pos ⟨by rw [← HL.out]; exact HLE.out, .inr hd1⟩, ← HL.out])
                      clear hd1
                      rcases hex with rfl | ⟨tn, rfl, htn⟩
                      · have tT : True := trivial
                        go_wp2_with fail
                        with_reducible refine (HL3.out _ _ _ r5 (hown.rd.2)).mono ?_
                        rintro e w6 ⟨A6, c6, rfl, q6, b6⟩
                        rw [HLN.out]
                        obtain ⟨b6', o6', rfl, -⟩ := q6.rd.atEM (k := 0) (by rw [HLN.out]; omega)
                        have CIH := HIH.out f' (by omega) (clearL bs L) b6' o6' c6 w6 q6.rd (by rw [HLN.out]) HC2.out
                        obtain ⟨B0, hB0⟩ : ∃ B0, barsN W T long f' (clearL bs L) = B0 := ⟨_, rfl⟩
                        have hBb := barsN_bd W T long f' (clearL bs L)
                        rw [hB0] at hBb CIH
                        have HB0 := Lib.hid hB0
                        have HCIH := Lib.hid CIH
                        clear hB0 CIH
                        obtain ⟨hBb1, hBb2⟩ := hBb
                        have hBb3 : B0 ≤ 16777216 := Int.le_trans hBb2 HPW.out
                        clear hBb2
                        go_wp2_with fail
                        refine HCIH.out.mono ?_
                        rintro e w7 ⟨rfl, b7⟩
                        have B7 := bl_go (bl_go B5 b6) b7
                        have X7 := (X5.belo b6).belo b7
                        clear HCIH q6 b6 b7 B5 X5 r5 hown
                        go_wp2_with fail
                        go_roundw
                        case rel => exact ⟨q + 1, by omega, by rw [← HD.out]; go_num, by rw [HSUM.out, HB0.out, HS0.out], B7, X7⟩
                        case measure => have hd := HD.out; simp [intOf]; omega
                      · have tI : (tn : Int) < (n : Int) := by omega
                        go_wp2_with fail
                        with_reducible refine (HL3.out _ _ _ r5 (hown.rd.2)).mono ?_
                        rintro e w6 ⟨A6, c6, rfl, q6, b6⟩
                        rw [HLN.out]
                        obtain ⟨b6', o6', rfl, -⟩ := q6.rd.atEM (k := 0) (by rw [HLN.out]; omega)
                        have CIH := HIH.out f' (by omega) (clearL bs L) b6' o6' c6 w6 q6.rd (by rw [HLN.out]) HC2.out
                        obtain ⟨B0, hB0⟩ : ∃ B0, barsN W T long f' (clearL bs L) = B0 := ⟨_, rfl⟩
                        have hBb := barsN_bd W T long f' (clearL bs L)
                        rw [hB0] at hBb CIH
                        have HB0 := Lib.hid hB0
                        have HCIH := Lib.hid CIH
                        clear hB0 CIH
                        obtain ⟨hBb1, hBb2⟩ := hBb
                        have hBb3 : B0 ≤ 16777216 := Int.le_trans hBb2 HPW.out
                        clear hBb2
                        go_wp2_with fail
                        refine HCIH.out.mono ?_
                        rintro e w7 ⟨rfl, b7⟩
                        have B7 := bl_go (bl_go B5 b6) b7
                        have X7 := (X5.belo b6).belo b7
                        clear HCIH q6 b6 b7 B5 X5 r5 hown
                        go_wp2_with fail
                        go_roundw
                        case rel => exact ⟨q + 1, by omega, by rw [← HD.out]; go_num, by rw [HSUM.out, HB0.out, HS0.out], B7, X7⟩
                        case measure => have hd := HD.out; simp [intOf]; omega
                    · have hd1' : (d == 1) = false := by simpa using hd1
                      have HP := Lib.hid (show sumB W T long (barsN W T long f') bs k (q + 1) = S0 by
                        rw [sumB, HS0.out, HD.out, partB, if_neg (by intro h; rcases h.2 with h | h; exact hl1 h; exact hd1 h)]; omega)
                      clear hd1
                      rcases hex with rfl | ⟨tn, rfl, htn⟩
                      · have tT : True := trivial
                        go_wp2_with fail
                        go_roundw
                        case rel => exact ⟨q + 1, by omega, by rw [← HD.out]; go_num, by rw [HP.out], B5, X5⟩
                        case measure => have hd := HD.out; simp [intOf]; omega
                      · have tI : (tn : Int) < (n : Int) := by omega
                        go_wp2_with fail
                        go_roundw
                        case rel => exact ⟨q + 1, by omega, by rw [← HD.out]; go_num, by rw [HP.out], B5, X5⟩
                        case measure => have hd := HD.out; simp [intOf]; omega
          · obtain rfl : q = 2 := by omega
            go_wp2_with fail
            go_ret
            exact ⟨ret_i HB.out.symm, B1⟩
    · have hkn : ((k : Int) == (n : Int)) = true := by rw [beq_iff_eq]; omega
      have HE := Lib.hid (barsN_none (W := W) (T := T) (long := long) (f := f) (firstB_eq (F := bs) (c := k) (by have := HN.out; omega) HK.out (fun h => absurd h (by have := HN.out; omega)) |>.trans (show k = bs.length by have := HN.out; omega)))
      go_wp2
      go_ret
      exact ⟨ret_i HE.out.symm, B0⟩
theorem barsS_all (W T : Int) (long n : Nat) (h1 : 1 ≤ W) (h2 : W ≤ 6) (h3 : 1 ≤ T) (h4 : T ≤ 6) (l1 : 1 ≤ long) (l2 : long ≤ 4) (hWT : W * T = (n : Int)) (f : Nat) (hf : f ≤ 24) : BarsS W T long n f := by
  induction f using Nat.strongRecOn with
  | _ f ih => exact barsS_step W T long n h1 h2 h3 h4 l1 l2 hWT f hf (fun f' h => ih f' h (by omega))
end Go.Proofs.Ytnciemnlnijhfaa

/- Contract: the reference's BarsMany, for all arguments. -/
namespace Go.Proofs.Ytnciemnlnijhfaa
open Go.RowKit

set_option maxRecDepth 100000 in
set_option maxHeartbeats 1000000 in
theorem sBarsMany_any (W T long : Int) (A : Option Addr) (c : Nat) (bs : List Bool) (w : World) (hr : Rd w A (bs.map .bool)) (hm : bs.length ≤ maxLen) :
    Calls Try.prog 44 #[.agg #[.int .i64 W, .int .i64 T, .slice A bs.length c], .int .i64 long] w fun e w' => e = .returned (.int .i64 (barsOf W T bs long)) ∧ Below w.heap.size w w' := by
  have X0 := C3.new w (.int .i64 W) (.int .i64 T) (.slice A bs.length c) 25
  have B0 := bl_alloc (Below.refl w.heap.size w) (.cells #[.int .i64 W, .int .i64 T, .slice A bs.length c] 25)
  have R0 := hr.belo B0
  cases hv : validB W T bs with
  | true =>
    obtain ⟨h1, h2, h3, h4, h5, h6⟩ := valid_len hv
    have hcnt : cnt bs ≤ 24 := (validB_iff.1 hv).2.2.2
    have hpos := mul_bd h1 h2 h3 h4
    obtain ⟨b, off, rfl, -⟩ := hr.atEM (k := 0) (by omega)
    have HV := Lib.hid hv
    have H6 := Lib.hid h6
    have HCN := Lib.hid hcnt
    have hrv := fun z R => sRegionValid_any W T (some ⟨b, off, none⟩) c bs z R hm
    rw [hv] at hrv
    have HRV := Lib.hid hrv
    clear hv h6 hcnt hrv hpos
    by_cases hl : 1 ≤ long ∧ long ≤ 4
    · obtain ⟨l1, l2⟩ := hl
      have HB := Lib.hid (barsOf_ok HV.out l1 l2)
      obtain ⟨ln, rfl⟩ := Int.eq_ofNat_of_zero_le (show 0 ≤ long by omega)
      have CB := Lib.hid (fun (z : World) (R : Rd z (some ⟨b, off, none⟩) (bs.map .bool)) => barsS_all W T ln bs.length h1 h2 h3 h4 (by omega) (by omega) H6.out.symm 24 (Nat.le_refl _) bs b off c z R rfl HCN.out)
      go_enter Try.func44, Try.ntmps44
      go_wp2_with fail
      refine (HRV.out _ R0).mono ?_
      rintro e w1 ⟨rfl, b1⟩
      have B1 := bl_go B0 b1
      obtain ⟨x0, x1, x2⟩ := X0.belo b1
      have R1 := R0.belo b1
      go_wp2_with (go_at_call 73; refine (l1in_t _ _ _ _ (by omega) (by omega)).mono ?_; rintro e w' ⟨rfl, rfl⟩)
      refine (CB.out _ R1).mono ?_
      rintro e w2 ⟨rfl, b2⟩
      go_wp2
      go_ret
      exact ⟨ret_i (by rw [HB.out]; rfl), bl_go B1 b2⟩
    · have HE := Lib.hid (barsOf_no (W := W) (T := T) (bs := bs) (fun h => hl h.2))
      have hl' : long < 1 ∨ 4 < long := by omega
      clear hl
      go_enter Try.func44, Try.ntmps44
      go_wp2_with fail
      refine (HRV.out _ R0).mono ?_
      rintro e w1 ⟨rfl, b1⟩
      have B1 := bl_go B0 b1
      go_wp2_with (go_at_call 73; refine (l1in_f _ _ _ _ hl').mono ?_; rintro e w' ⟨rfl, rfl⟩)
      go_ret
      exact ⟨ret_i HE.out.symm, B1⟩
  | false =>
    have HE := Lib.hid (barsOf_no (W := W) (T := T) (bs := bs) (long := long) (fun h => by rw [hv] at h; exact absurd h.1 (by decide)))
    go_enter Try.func44, Try.ntmps44
    go_wp2_with fail
    refine (sRegionValid_any W T A c bs _ R0 hm).mono ?_
    rintro e w1 ⟨rfl, b1⟩
    rw [hv]
    have B1 := bl_go B0 b1
    go_wp2
    go_ret
    exact ⟨ret_i HE.out.symm, B1⟩
end Go.Proofs.Ytnciemnlnijhfaa

/- Coverings of a set by lists, counted plainly. -/
namespace Go.Proofs.Ytnciemnlnijhfaa
/-- a set without some places -/
def minusP (S : Nat → Bool) (P : List Nat) : Nat → Bool := fun k => S k && !(P.contains k)
/-- how many of the lists within a list cover a set below n, each place once -/
def covN (n : Nat) : List (List Nat) → (Nat → Bool) → Nat
  | [], S => if (List.range n).all (fun k => !S k) = true then 1 else 0
  | P :: Ps, S => covN n Ps S + if P.all S = true then covN n Ps (minusP S P) else 0
theorem minus_comm (S : Nat → Bool) (P Q : List Nat) : minusP (minusP S P) Q = minusP (minusP S Q) P := by
  funext k; unfold minusP; cases S k <;> cases P.contains k <;> cases Q.contains k <;> rfl
theorem minus_f {S : Nat → Bool} {P : List Nat} {c : Nat} (h : c ∈ P) : minusP S P c = false := by
  unfold minusP; simp [h]
theorem minus_t {S : Nat → Bool} {P : List Nat} {c : Nat} (h : c ∉ P) : minusP S P c = S c := by
  unfold minusP; simp [h]
theorem all_minus {S : Nat → Bool} {P Q : List Nat} : (P.all S = true ∧ Q.all (minusP S P) = true) ↔ (P.all S = true ∧ Q.all S = true ∧ ∀ k ∈ Q, k ∉ P) := by
  constructor
  · rintro ⟨h1, h2⟩
    rw [List.all_eq_true] at h2
    refine ⟨h1, ?_, fun k hk hp => ?_⟩
    · rw [List.all_eq_true]; intro k hk
      have := h2 k hk
      unfold minusP at this; simp at this; exact this.1
    · have := h2 k hk; rw [minus_f hp] at this; cases this
  · rintro ⟨h1, h2, h3⟩
    refine ⟨h1, ?_⟩
    rw [List.all_eq_true] at h2 ⊢
    intro k hk
    rw [minus_t (h3 k hk)]; exact h2 k hk
theorem all_swap {S : Nat → Bool} {P Q : List Nat} : (P.all S = true ∧ Q.all (minusP S P) = true) ↔ (Q.all S = true ∧ P.all (minusP S Q) = true) := by
  rw [all_minus, all_minus]
  constructor
  · rintro ⟨a, b, c⟩; exact ⟨b, a, fun k hk h => c k h hk⟩
  · rintro ⟨a, b, c⟩; exact ⟨b, a, fun k hk h => c k h hk⟩
theorem cov_swap (n : Nat) (P Q : List Nat) (Ps : List (List Nat)) (S : Nat → Bool) : covN n (P :: Q :: Ps) S = covN n (Q :: P :: Ps) S := by
  simp only [covN]
  by_cases hp : P.all S = true
  · by_cases hq : Q.all S = true
    · have e : Q.all (minusP S P) = true ↔ P.all (minusP S Q) = true := by
        have := all_swap (S := S) (P := P) (Q := Q); simp only [hp, hq, true_and] at this; exact this
      rw [minus_comm S P Q]
      by_cases h : Q.all (minusP S P) = true
      · simp only [hp, hq, h, e.1 h, if_true]; omega
      · have h' : ¬ P.all (minusP S Q) = true := fun x => h (e.2 x)
        simp [hp, hq, h, h']; omega
    · have h1 : ¬ Q.all (minusP S P) = true := fun h => hq (all_swap.1 ⟨hp, h⟩).1
      simp only [if_neg hq, if_neg h1, Nat.add_zero]
  · by_cases hq : Q.all S = true
    · have h1 : ¬ P.all (minusP S Q) = true := fun h => hp (all_swap.1 ⟨hq, h⟩).1
      simp only [if_neg hp, if_neg h1, Nat.add_zero]
    · simp only [if_neg hp, if_neg hq]
/-- the order of the lists is of no account -/
theorem cov_perm (n : Nat) {Ps Qs : List (List Nat)} (h : Ps.Perm Qs) : ∀ S, covN n Ps S = covN n Qs S := by
  induction h with
  | nil => intro S; rfl
  | cons P _ ih => intro S; simp only [covN]; rw [ih, ih]
  | swap P Q Ps => intro S; exact (cov_swap n P Q Ps S).symm
  | trans _ _ h1 h2 => intro S; rw [h1, h2]
/-- sums over lists -/
def sumP (f : List Nat → Nat) : List (List Nat) → Nat
  | [] => 0
  | P :: Ps => f P + sumP f Ps
theorem sumP_congr {f g : List Nat → Nat} {Ps : List (List Nat)} (h : ∀ P ∈ Ps, f P = g P) : sumP f Ps = sumP g Ps := by
  induction Ps with
  | nil => rfl
  | cons P Ps ih => simp only [sumP]; rw [h P List.mem_cons_self, ih (fun Q hQ => h Q (List.mem_cons_of_mem _ hQ))]
theorem sumP_add (f g : List Nat → Nat) (Ps : List (List Nat)) : sumP (fun P => f P + g P) Ps = sumP f Ps + sumP g Ps := by
  induction Ps with
  | nil => rfl
  | cons P Ps ih => simp only [sumP]; rw [ih]; omega
theorem sumP_zero {f : List Nat → Nat} {Ps : List (List Nat)} (h : ∀ P ∈ Ps, f P = 0) : sumP f Ps = 0 := by
  induction Ps with
  | nil => rfl
  | cons P Ps ih => simp only [sumP]; rw [h P List.mem_cons_self, ih (fun Q hQ => h Q (List.mem_cons_of_mem _ hQ))]
theorem sumP_append (f : List Nat → Nat) (Ps Qs : List (List Nat)) : sumP f (Ps ++ Qs) = sumP f Ps + sumP f Qs := by
  induction Ps with
  | nil => simp [sumP]
  | cons P Ps ih => simp only [List.cons_append, sumP]; rw [ih]; omega
theorem cov_cons_f {n : Nat} {P : List Nat} {Ps : List (List Nat)} {S : Nat → Bool} {c : Nat} (hc : c ∈ P) (h : S c = false) : covN n (P :: Ps) S = covN n Ps S := by
  simp only [covN]
  rw [if_neg]; · rfl
  intro h1; rw [List.all_eq_true] at h1; have := h1 c hc; rw [h] at this; cases this
/-- a place is covered by just one of them -/
theorem cov_at {n c : Nat} (hc : c < n) : ∀ (Ps : List (List Nat)) (S : Nat → Bool), S c = true →
    covN n Ps S = sumP (fun P => if c ∈ P ∧ P.all S = true then covN n Ps (minusP S P) else 0) Ps
  | [], S, h => by
    simp only [covN, sumP]
    rw [if_neg]
    intro h1; rw [List.all_eq_true] at h1
    have := h1 c (List.mem_range.2 hc); rw [h] at this; cases this
  | P :: Ps, S, h => by
    by_cases hp : c ∈ P
    · simp only [sumP]
      have e1 : (if c ∈ P ∧ P.all S = true then covN n (P :: Ps) (minusP S P) else 0) = if P.all S = true then covN n Ps (minusP S P) else 0 := by
        by_cases hs : P.all S = true
        · rw [if_pos ⟨hp, hs⟩, if_pos hs, cov_cons_f hp (minus_f hp)]
        · rw [if_neg (fun x => hs x.2), if_neg hs]
      have e2 : sumP (fun Q => if c ∈ Q ∧ Q.all S = true then covN n (P :: Ps) (minusP S Q) else 0) Ps = sumP (fun Q => if c ∈ Q ∧ Q.all S = true then covN n Ps (minusP S Q) else 0) Ps := by
        apply sumP_congr
        intro Q _
        by_cases hq : c ∈ Q ∧ Q.all S = true
        · rw [if_pos hq, if_pos hq, cov_cons_f hp (minus_f hq.1)]
        · rw [if_neg hq, if_neg hq]
      rw [e1, e2, ← cov_at hc Ps S h]
      simp only [covN]; omega
    · simp only [sumP]
      rw [if_neg (fun x => hp x.1)]
      have e2 : sumP (fun Q => if c ∈ Q ∧ Q.all S = true then covN n (P :: Ps) (minusP S Q) else 0) Ps =
          sumP (fun Q => (if c ∈ Q ∧ Q.all S = true then covN n Ps (minusP S Q) else 0) + (if P.all S = true then (if c ∈ Q ∧ Q.all (minusP S P) = true then covN n Ps (minusP (minusP S P) Q) else 0) else 0)) Ps := by
        apply sumP_congr
        intro Q _
        by_cases hq : c ∈ Q
        · by_cases hqs : Q.all S = true
          · rw [if_pos ⟨hq, hqs⟩, if_pos ⟨hq, hqs⟩]
            simp only [covN]
            by_cases h1 : P.all (minusP S Q) = true
            · obtain ⟨h2, h3⟩ := all_swap.1 ⟨hqs, h1⟩
              rw [if_pos h1, if_pos h2, if_pos ⟨hq, h3⟩, minus_comm]
            · rw [if_neg h1]
              by_cases h2 : P.all S = true
              · rw [if_pos h2, if_neg (fun x => h1 (all_swap.1 ⟨h2, x.2⟩).2)]
              · rw [if_neg h2]
          · rw [if_neg (fun x => hqs x.2), if_neg (fun x => hqs x.2)]
            by_cases h2 : P.all S = true
            · rw [if_pos h2, if_neg (fun x => hqs (all_swap.1 ⟨h2, x.2⟩).1)]
            · rw [if_neg h2]
        · simp [hq]
      rw [e2, sumP_add, ← cov_at hc Ps S h]
      simp only [covN]
      by_cases hs : P.all S = true
      · rw [if_pos hs]
        have := cov_at hc Ps (minusP S P) (by rw [minus_t hp]; exact h)
        rw [this, Nat.zero_add]
        congr 1
        apply sumP_congr; intro Q _; rw [if_pos hs]
      · rw [if_neg hs, Nat.zero_add]
        congr 1
        rw [sumP_zero]; intro Q _; rw [if_neg hs]
/-- carried elsewhere it is the same -/
theorem cov_map {n : Nat} {s : Nat → Nat} (hi : ∀ a b, s a = s b → a = b) (hlt : ∀ k, k < n → s k < n) (hon : ∀ j, j < n → ∃ k, k < n ∧ s k = j) :
    ∀ (Ps : List (List Nat)) (S : Nat → Bool), covN n (Ps.map (·.map s)) S = covN n Ps (fun k => S (s k))
  | [], S => by
    simp only [List.map_nil, covN]
    have e : ((List.range n).all (fun k => !S k) = true) ↔ ((List.range n).all (fun k => !S (s k)) = true) := by
      simp only [List.all_eq_true, List.mem_range, Bool.not_eq_true']
      constructor
      · intro h k hk; exact h _ (hlt k hk)
      · intro h j hj; obtain ⟨k, hk, rfl⟩ := hon j hj; exact h k hk
    by_cases h : (List.range n).all (fun k => !S k) = true
    · rw [if_pos h, if_pos (e.1 h)]
    · rw [if_neg h, if_neg (fun x => h (e.2 x))]
  | P :: Ps, S => by
    simp only [List.map_cons, covN]
    rw [cov_map hi hlt hon Ps S, cov_map hi hlt hon Ps (minusP S (P.map s))]
    have e1 : (P.map s).all S = P.all (fun k => S (s k)) := by rw [List.all_map]; rfl
    have e2 : (fun k => minusP S (P.map s) (s k)) = minusP (fun k => S (s k)) P := by
      funext k
      unfold minusP
      have : (P.map s).contains (s k) = P.contains k := by
        rw [Bool.eq_iff_iff]
        simp only [List.contains_iff_mem, List.mem_map]
        constructor
        · rintro ⟨a, ha, h⟩; rw [← hi _ _ h]; exact ha
        · intro h; exact ⟨k, h, rfl⟩
      rw [this]
    rw [e1, e2]
/-- only the places of a list count -/
theorem cov_same (n : Nat) {f : List Nat → List Nat} (hf : ∀ P k, k ∈ f P ↔ k ∈ P) : ∀ (Ps : List (List Nat)) (S : Nat → Bool), covN n (Ps.map f) S = covN n Ps S
  | [], S => rfl
  | P :: Ps, S => by
    simp only [List.map_cons, covN]
    rw [cov_same n hf Ps, cov_same n hf Ps]
    have e1 : (f P).all S = P.all S := by
      rw [Bool.eq_iff_iff]; simp only [List.all_eq_true]
      exact ⟨fun h k hk => h k ((hf P k).2 hk), fun h k hk => h k ((hf P k).1 hk)⟩
    have e2 : minusP S (f P) = minusP S P := by
      funext k; unfold minusP
      have : (f P).contains k = P.contains k := by rw [Bool.eq_iff_iff]; simp only [List.contains_iff_mem]; exact hf P k
      rw [this]
    rw [e1, e2]
end Go.Proofs.Ytnciemnlnijhfaa

/- A turned region is covered by bars in as many ways, plainly. -/
namespace Go.Proofs.Ytnciemnlnijhfaa
open Go.RowKit

/-- the places of a bar -/
def barR (s : Nat) : Nat → Nat → List Nat
  | 0, _ => []
  | L + 1, c => c :: barR s L (c + s)
/-- all bars of a field -/
def barE (W T L : Nat) : List (List Nat) := ((List.range (W * T)).filter fun c => decide (c % W + L ≤ W)).map fun c => barR 1 L c
def barU (W T L : Nat) : List (List Nat) := ((List.range (W * T)).filter fun c => decide (c / W + L ≤ T)).map fun c => barR W L c
def allB (W T L : Nat) : List (List Nat) := barE W T L ++ if L = 1 then [] else barU W T L
def sgB (W T : Nat) (k : Nat) : Nat := if k < W * T then k % W * T + T - 1 - k / W else k
def upP (P : List Nat) : List Nat := if P.headD 0 ≤ P.getLastD 0 then P else P.reverse
theorem perm_b : ∀ W ∈ [1,2,3,4,5,6], ∀ T ∈ [1,2,3,4,5,6], ∀ L ∈ [1,2,3,4], ((allB T W L).isPerm ((allB W T L).map fun P => upP (P.map (sgB W T)))) = true := by decide +kernel
theorem sg_ok : ∀ W ∈ [1,2,3,4,5,6], ∀ T ∈ [1,2,3,4,5,6], (∀ k ∈ List.range (W * T), sgB W T k < W * T) ∧ (∀ j ∈ List.range (W * T), ∃ k ∈ List.range (W * T), sgB W T k = j) ∧ (∀ a ∈ List.range (W * T), ∀ b ∈ List.range (W * T), sgB W T a = sgB W T b → a = b) := by decide +kernel

theorem barR_ge (s : Nat) : ∀ (L c k : Nat), k ∈ barR s L c → c ≤ k
  | 0, _, _, h => by simp [barR] at h
  | L + 1, c, k, h => by
    rw [barR] at h
    rcases List.mem_cons.1 h with rfl | h
    · exact Nat.le_refl _
    · have := barR_ge s L (c + s) k h; omega
theorem barR_len (s : Nat) : ∀ (L c : Nat), (barR s L c).length = L
  | 0, _ => rfl
  | L + 1, c => by rw [barR, List.length_cons, barR_len s L]
def fitB (W T : Nat) (d : Int) (L c : Nat) : Prop := if d = 1 then c % W + L ≤ W else c / W + L ≤ T
instance (W T : Nat) (d : Int) (L c : Nat) : Decidable (fitB W T d L c) := by unfold fitB; infer_instance
def offB (W : Nat) (d : Int) : Nat := if d = 1 then 1 else W
theorem fits_one {W T : Nat} {d : Int} {c : Nat} (h1 : 1 ≤ W) (hc : c < W * T) : fitB W T d 1 c := by
  unfold fitB
  have a := Nat.mod_lt c h1
  have b : c / W < T := by rw [Nat.div_lt_iff_lt_mul h1]; rw [Nat.mul_comm]; exact hc
  split <;> omega
/-- a step along a bar -/
theorem fits_step {W T : Nat} {d : Int} {c L : Nat} (h1 : 1 ≤ W) (h2 : W ≤ 6) (hd : d = 1 ∨ d = 2) (hc : c < W * T) :
    (stepZ W T c d = ((c + offB W d : Nat) : Int) ∧ c + offB W d < W * T ∧ (fitB W T d (L + 2) c ↔ fitB W T d (L + 1) (c + offB W d))) ∨ (stepZ W T c d = -1 ∧ ¬ fitB W T d (L + 2) c) := by
  have a := Nat.mod_lt c h1
  have b : c / W < T := by rw [Nat.div_lt_iff_lt_mul h1]; rw [Nat.mul_comm]; exact hc
  rcases hd with rfl | rfl
  · by_cases h : c % W + 1 < W
    · refine .inl ⟨?_, ?_, ?_⟩
      · rw [step1, if_pos (by omega)]; simp [offB]
      · show c + 1 < W * T
        rcases (show W = 1 ∨ W = 2 ∨ W = 3 ∨ W = 4 ∨ W = 5 ∨ W = 6 from by omega) with rfl | rfl | rfl | rfl | rfl | rfl <;> omega
      · show c % W + (L + 2) ≤ W ↔ (c + 1) % W + (L + 1) ≤ W
        have e1 : (c + 1) % W = c % W + 1 := by rcases (show W = 1 ∨ W = 2 ∨ W = 3 ∨ W = 4 ∨ W = 5 ∨ W = 6 from by omega) with rfl | rfl | rfl | rfl | rfl | rfl <;> omega
        omega
    · refine .inr ⟨?_, ?_⟩
      · rw [step1, if_neg (by omega)]
      · show ¬ (c % W + (L + 2) ≤ W); omega
  · have e0 : offB W 2 = W := by unfold offB; rw [if_neg (by decide)]
    rw [e0]
    by_cases h : c / W + 1 < T
    · refine .inl ⟨?_, ?_, ?_⟩
      · rw [step2, if_pos (by omega)]; simp
      · rcases (show W = 1 ∨ W = 2 ∨ W = 3 ∨ W = 4 ∨ W = 5 ∨ W = 6 from by omega) with rfl | rfl | rfl | rfl | rfl | rfl <;> omega
      · show c / W + (L + 2) ≤ T ↔ (c + W) / W + (L + 1) ≤ T
        have e1 : (c + W) / W = c / W + 1 := Nat.add_div_right c h1
        omega
    · refine .inr ⟨?_, ?_⟩
      · rw [step2, if_neg (by omega)]
      · show ¬ (c / W + (L + 2) ≤ T); omega
def allF (F : List Bool) (P : List Nat) : Bool := P.all fun k => F.getD k false
theorem bar_yes {W T : Nat} {d : Int} (h1 : 1 ≤ W) (h2 : W ≤ 6) (hd : d = 1 ∨ d = 2) (F : List Bool) : ∀ (L c : Nat), c < W * T → fitB W T d (L + 1) c → allF F (barR (offB W d) (L + 1) c) = true →
    barL W T F d (L + 1) c = (barR (offB W d) (L + 1) c).map (fun k : Nat => (k : Int))
  | 0, c, _, _, ha => by
    have hF : F.getD c false = true := by simpa [allF, barR] using ha
    rw [barL, if_pos ⟨by omega, by simpa using hF⟩]
    rfl
  | L + 1, c, hc, hf, ha => by
    have hF : F.getD c false = true ∧ allF F (barR (offB W d) (L + 1) (c + offB W d)) = true := by rw [barR] at ha; simpa [allF] using ha
    rw [barL, if_pos ⟨by omega, by simpa using hF.1⟩]
    rcases fits_step (L := L) h1 h2 hd hc with ⟨e, hlt, hi⟩ | ⟨_, hn⟩
    · rw [e, bar_yes h1 h2 hd F L _ hlt (hi.1 hf) hF.2]
      rfl
    · exact absurd hf hn
theorem bar_not {W T : Nat} {d : Int} (h1 : 1 ≤ W) (h2 : W ≤ 6) (hd : d = 1 ∨ d = 2) (F : List Bool) : ∀ (L c : Nat), c < W * T → ¬ (fitB W T d (L + 1) c ∧ allF F (barR (offB W d) (L + 1) c) = true) →
    (barL W T F d (L + 1) c).length ≠ L + 1
  | 0, c, hc, hn => by
    rw [barL, if_neg]
    · simp
    · rintro ⟨-, h⟩
      exact hn ⟨fits_one h1 hc, by simp [allF, barR]; simpa using h⟩
  | L + 1, c, hc, hn => by
    rw [barL]
    split
    · rename_i h
      rcases fits_step (L := L) h1 h2 hd hc with ⟨e, hlt, hi⟩ | ⟨e, _⟩
      · rw [e]
        have := bar_not h1 h2 hd F L (c + offB W d) hlt (by
          rintro ⟨a, b⟩
          refine hn ⟨hi.2 a, ?_⟩
          rw [barR]
          have hF : F.getD c false = true := by simpa using h.2
          unfold allF at b ⊢
          rw [List.all_cons, hF, b]; rfl)
        simp only [List.length_cons]; omega
      · rw [e]
        have : barL W T F d (L + 1) (-1) = [] := by rw [barL, if_neg (by omega)]
        rw [this]; simp
    · simp
theorem clear_fun (F : List Bool) (P : List Nat) : (fun k => (clearL F (P.map fun k : Nat => (k : Int))).getD k false) = minusP (fun k => F.getD k false) P := by
  funext k
  unfold minusP
  by_cases hk : k < F.length
  · have hl : k < (clearL F (P.map fun k : Nat => (k : Int))).length := by rw [clearL_len]; exact hk
    have e1 : F.getD k false = F[k] := by rw [List.getD_eq_getElem?_getD, List.getElem?_eq_getElem hk]; rfl
    rw [List.getD_eq_getElem?_getD, List.getElem?_eq_getElem hl, Option.getD_some, clearL_get]
    simp only [e1]
    by_cases h : k ∈ P
    · rw [if_pos ⟨(k : Int), List.mem_map.2 ⟨k, h, rfl⟩, by simp⟩]; simp [h]
    · rw [if_neg]
      · simp [h]
      · rintro ⟨c, hc, e⟩
        obtain ⟨j, hj, rfl⟩ := List.mem_map.1 hc
        simp at e; subst e; exact h hj
  · have e1 : F.getD k false = false := by rw [List.getD_eq_getElem?_getD, List.getElem?_eq_none (by omega)]; rfl
    rw [List.getD_eq_getElem?_getD, List.getElem?_eq_none (by rw [clearL_len]; omega)]
    simp only [e1]; rfl
theorem cov_none {n : Nat} {S : Nat → Bool} (h : ∀ k, S k = false) : ∀ {Ps : List (List Nat)}, (∀ P ∈ Ps, P ≠ []) → covN n Ps S = 1
  | [], _ => by rw [covN, if_pos]; rw [List.all_eq_true]; intro k _; rw [h k]; rfl
  | P :: Ps, hP => by
    rw [covN, cov_none h (fun Q hQ => hP Q (List.mem_cons_of_mem _ hQ)), if_neg]
    have := hP P List.mem_cons_self
    cases P with
    | nil => exact absurd rfl this
    | cons a P => rw [List.all_cons, h a]; simp
theorem sum_at {f : List Nat → Nat} {g : Nat → List Nat} {p : Nat → Bool} {c : Nat} : ∀ (l : List Nat), l.Nodup → (∀ k ∈ l, p k = true → k ≠ c → f (g k) = 0) → sumP f ((l.filter p).map g) = if c ∈ l ∧ p c = true then f (g c) else 0
  | [], _, _ => by simp [sumP]
  | a :: l, hn, h => by
    have ih := sum_at l (List.nodup_cons.1 hn).2 (fun k hk => h k (List.mem_cons_of_mem _ hk))
    have ha := (List.nodup_cons.1 hn).1
    by_cases hp : p a = true
    · rw [List.filter_cons_of_pos hp, List.map_cons, sumP, ih]
      by_cases e : a = c
      · subst e
        rw [if_neg (fun x => ha x.1), if_pos ⟨List.mem_cons_self, hp⟩]; rfl
      · rw [h a List.mem_cons_self hp e, Nat.zero_add]
        by_cases h1 : c ∈ l ∧ p c = true
        · rw [if_pos h1, if_pos ⟨List.mem_cons_of_mem _ h1.1, h1.2⟩]
        · rw [if_neg h1, if_neg]
          rintro ⟨x, y⟩
          rcases List.mem_cons.1 x with x | x
          · exact e x.symm
          · exact h1 ⟨x, y⟩
    · rw [List.filter_cons_of_neg hp, ih]
      by_cases h1 : c ∈ l ∧ p c = true
      · rw [if_pos h1, if_pos ⟨List.mem_cons_of_mem _ h1.1, h1.2⟩]
      · rw [if_neg h1, if_neg]
        rintro ⟨x, y⟩
        rcases List.mem_cons.1 x with x | x
        · subst x; exact hp y
        · exact h1 ⟨x, y⟩
theorem barR_ne {s L c : Nat} (hL : 1 ≤ L) : barR s L c ≠ [] ∧ c ∈ barR s L c := by
  obtain ⟨m, rfl⟩ : ∃ m, L = m + 1 := ⟨L - 1, by omega⟩
  rw [barR]; exact ⟨by simp, List.mem_cons_self⟩
theorem allB_ne {W T L : Nat} (hL : 1 ≤ L) : ∀ P ∈ allB W T L, P ≠ [] := by
  intro P hP
  unfold allB at hP
  rcases List.mem_append.1 hP with h | h
  · obtain ⟨c, -, rfl⟩ := List.mem_map.1 h; exact (barR_ne hL).1
  · split at h
    · simp at h
    · obtain ⟨c, -, rfl⟩ := List.mem_map.1 h; exact (barR_ne hL).1
/-- bars are counted as coverings are -/
theorem bars_cov {W T L : Nat} (h1 : 1 ≤ W) (h2 : W ≤ 6) (l1 : 1 ≤ L) : ∀ (f : Nat) (F : List Bool), F.length = W * T → cnt F ≤ f → barsN W T L f F = (covN (W * T) (allB W T L) (fun k => F.getD k false) : Nat)
  | f, F, hl, hc => by
    by_cases hfull : firstB F = F.length
    · have hz : ∀ k, F.getD k false = false := fun k => by
        rcases Nat.lt_or_ge k F.length with h | h
        · rw [List.getD_eq_getElem?_getD, List.getElem?_eq_getElem h]; exact firstB_f (by omega) h
        · rw [List.getD_eq_getElem?_getD, List.getElem?_eq_none h]; rfl
      rw [cov_none hz (allB_ne l1)]
      cases f with
      | zero => rfl
      | succ f => rw [barsN, if_pos hfull]; rfl
    · have hlt : firstB F < F.length := by have := firstB_le F; omega
      have ht := firstB_t hlt
      cases f with
      | zero =>
        have h2 := cnt_set_lt F (firstB F) hlt ht
        have h3 := (cnt_le (F.set (firstB F) false)).1
        omega
      | succ f =>
        obtain ⟨c, hcd⟩ : ∃ c, firstB F = c := ⟨_, rfl⟩
        have hpre : ∀ k, k < c → F.getD k false = false := fun k hk => by
          rw [List.getD_eq_getElem?_getD, List.getElem?_eq_getElem (show k < F.length by omega)]; exact firstB_f (by omega) _
        rw [hcd] at hlt hfull
        have htc : F.getD c false = true := by
          rw [List.getD_eq_getElem?_getD, List.getElem?_eq_getElem hlt, Option.getD_some]
          have := ht; simp only [hcd] at this; exact this
        have htc' : F[c] = true := by rw [List.getD_eq_getElem?_getD, List.getElem?_eq_getElem hlt, Option.getD_some] at htc; exact htc
        rw [barsN, if_neg (by omega), hcd, cov_at (c := c) (by omega) _ _ htc]
        obtain ⟨m, rfl⟩ : ∃ m, L = m + 1 := ⟨L - 1, by omega⟩
        -- one direction
        have hpart : ∀ d : Int, (d = 1 ∨ d = 2) → (1 < m + 1 ∨ d = 1) → partB W T (m + 1) (barsN W T (m + 1) f) F c d =
            ((if fitB W T d (m + 1) c then (if c ∈ barR (offB W d) (m + 1) c ∧ (barR (offB W d) (m + 1) c).all (fun k => F.getD k false) = true then covN (W * T) (allB W T (m + 1)) (minusP (fun k => F.getD k false) (barR (offB W d) (m + 1) c)) else 0) else 0 : Nat) : Int) := by
          intro d hd hdd
          unfold partB
          by_cases hy : fitB W T d (m + 1) c ∧ allF F (barR (offB W d) (m + 1) c) = true
          · have hy2 : c ∈ barR (offB W d) (m + 1) c ∧ (barR (offB W d) (m + 1) c).all (fun k => F.getD k false) = true := ⟨(barR_ne (by omega)).2, hy.2⟩
            rw [if_pos hy.1, if_pos hy2]
            have e := bar_yes h1 h2 hd F m c (by omega) hy.1 hy.2
            have hcb := cnt_bar (W := W) (T := T) (d := d) (n := m + 1) (by omega) hlt htc'
            rw [e] at hcb
            rw [e, if_pos ⟨by rw [List.length_map]; exact barR_len _ _ _, hdd⟩]
            rw [bars_cov h1 h2 l1 f _ (by rw [clearL_len]; exact hl) (by omega), clear_fun]
          · rw [if_neg (fun x => bar_not h1 h2 hd F m c (by omega) hy x.1)]
            by_cases hf : fitB W T d (m + 1) c
            · rw [if_pos hf, if_neg]; · rfl
              rintro ⟨-, x⟩; exact hy ⟨hf, x⟩
            · rw [if_neg hf]; rfl
        have huni : ∀ (s k : Nat), k ≠ c → (if c ∈ barR s (m + 1) k ∧ (barR s (m + 1) k).all (fun k => F.getD k false) = true then covN (W * T) (allB W T (m + 1)) (minusP (fun k => F.getD k false) (barR s (m + 1) k)) else 0) = 0 := by
          intro s k hk
          rw [if_neg]
          rintro ⟨a, b⟩
          have g1 := barR_ge _ _ _ _ a
          rw [List.all_eq_true] at b
          have g2 := b k (barR_ne (by omega)).2
          rw [hpre k (by omega)] at g2; cases g2
        have a1 : ((0 : Nat) : Int) + 1 = 1 := rfl
        have a2 : ((1 : Nat) : Int) + 1 = 2 := rfl
        simp only [sumB, a1, a2]
        unfold allB
        rw [sumP_append]
        have hE := sum_at (f := fun P => if c ∈ P ∧ P.all (fun k => F.getD k false) = true then covN (W * T) (allB W T (m + 1)) (minusP (fun k => F.getD k false) P) else 0) (g := fun c => barR 1 (m + 1) c) (p := fun c => decide (c % W + (m + 1) ≤ W)) (c := c) (List.range (W * T)) List.nodup_range (fun k _ _ hk => huni 1 k hk)
        have hU := sum_at (f := fun P => if c ∈ P ∧ P.all (fun k => F.getD k false) = true then covN (W * T) (allB W T (m + 1)) (minusP (fun k => F.getD k false) P) else 0) (g := fun c => barR W (m + 1) c) (p := fun c => decide (c / W + (m + 1) ≤ T)) (c := c) (List.range (W * T)) List.nodup_range (fun k _ _ hk => huni W k hk)
        have hE' : sumP (fun P => if c ∈ P ∧ P.all (fun k => F.getD k false) = true then covN (W * T) (allB W T (m + 1)) (minusP (fun k => F.getD k false) P) else 0) (barE W T (m + 1)) = _ := hE
        have hU' : sumP (fun P => if c ∈ P ∧ P.all (fun k => F.getD k false) = true then covN (W * T) (allB W T (m + 1)) (minusP (fun k => F.getD k false) P) else 0) (barU W T (m + 1)) = _ := hU
        have hcr : c ∈ List.range (W * T) := List.mem_range.2 (by omega)
        have p1 := hpart 1 (.inl rfl) (.inr rfl)
        have o1 : offB W 1 = 1 := rfl
        have o2 : offB W 2 = W := by unfold offB; rw [if_neg (by decide)]
        rw [o1] at p1
        have q1 : fitB W T 1 (m + 1) c ↔ (c ∈ List.range (W * T) ∧ decide (c % W + (m + 1) ≤ W) = true) := by
          show c % W + (m + 1) ≤ W ↔ _
          simp only [decide_eq_true_eq]; exact ⟨fun h => ⟨hcr, h⟩, fun h => h.2⟩
        have q2 : fitB W T 2 (m + 1) c ↔ (c ∈ List.range (W * T) ∧ decide (c / W + (m + 1) ≤ T) = true) := by
          show c / W + (m + 1) ≤ T ↔ _
          simp only [decide_eq_true_eq]; exact ⟨fun h => ⟨hcr, h⟩, fun h => h.2⟩
        unfold allB at hE' hU' p1
        by_cases hm1 : m + 1 = 1
        · have p2 : partB W T (m + 1) (barsN W T (m + 1) f) F c 2 = 0 := by
            unfold partB; rw [if_neg]; rintro ⟨-, h | h⟩ <;> omega
          rw [p1, p2, if_pos hm1]
          rw [if_pos hm1] at hE'
          rw [hE', sumP]
          by_cases g1 : fitB W T 1 (m + 1) c
          · rw [if_pos g1, if_pos (q1.1 g1)]; omega
          · rw [if_neg g1, if_neg (fun x => g1 (q1.2 x))]; omega
        · have p2 := hpart 2 (.inr rfl) (.inl (by omega))
          rw [o2] at p2
          unfold allB at p2
          rw [p1, p2, if_neg hm1]
          rw [if_neg hm1] at hE' hU'
          rw [hE', hU']
          by_cases g1 : fitB W T 1 (m + 1) c <;> by_cases g2 : fitB W T 2 (m + 1) c
          · rw [if_pos g1, if_pos g2, if_pos (q1.1 g1), if_pos (q2.1 g2)]; omega
          · rw [if_pos g1, if_neg g2, if_pos (q1.1 g1), if_neg (fun x => g2 (q2.2 x))]; omega
          · rw [if_neg g1, if_pos g2, if_neg (fun x => g1 (q1.2 x)), if_pos (q2.1 g2)]; omega
          · rw [if_neg g1, if_neg g2, if_neg (fun x => g1 (q1.2 x)), if_neg (fun x => g2 (q2.2 x))]; omega
end Go.Proofs.Ytnciemnlnijhfaa

/- All colours are all cells, plainly. -/
namespace Go.Proofs.Ytnciemnlnijhfaa
open Go.RowKit

/-- how many of the first n have one of the first m colours -/
def colSum (W nu : Int) (bs : List Bool) (n : Nat) : Nat → Int
  | 0 => 0
  | k + 1 => colSum W nu bs n k + cntTo (inCol W nu k bs) n
theorem colSum_next (W nu : Int) (bs : List Bool) (n : Nat) (hv : 0 ≤ ((n : Int) % W + (n : Int) / W) % nu) (m : Nat) :
    colSum W nu bs (n + 1) m = colSum W nu bs n m + if bs.getD n false = true ∧ ((n : Int) % W + (n : Int) / W) % nu < m then 1 else 0 := by
  induction m with
  | zero =>
    show (0 : Int) = 0 + _
    rw [if_neg (by rintro ⟨-, h⟩; omega)]; rfl
  | succ m ih =>
    show colSum W nu bs (n + 1) m + cntTo _ (n + 1) = colSum W nu bs n m + cntTo _ n + _
    rw [ih, cntTo_succ]
    have e : inCol W nu m bs n = (bs.getD n false && decide (((n : Int) % W + (n : Int) / W) % nu = m)) := rfl
    rw [e]
    generalize ((n : Int) % W + (n : Int) / W) % nu = v at *
    cases bs.getD n false with
    | false => simp
    | true =>
      rcases (show v < m ∨ v = m ∨ (m : Int) < v from by omega) with h | h | h
      · rw [if_pos ⟨rfl, h⟩, if_neg (by simp; omega), if_pos ⟨rfl, by omega⟩]; omega
      · rw [if_neg (by rintro ⟨-, h2⟩; omega), if_pos (by simp [h]), if_pos ⟨rfl, by omega⟩]; omega
      · rw [if_neg (by rintro ⟨-, h2⟩; omega), if_neg (by simp; omega), if_neg (by rintro ⟨-, h2⟩; omega)]; omega
theorem colSum_all (W nu : Int) (bs : List Bool) (n m : Nat) (hm : nu = m) (hn : 1 ≤ nu) : colSum W nu bs n m = cntTo (fun i => bs.getD i false) n := by
  induction n with
  | zero =>
    clear hm
    induction m with
    | zero => rfl
    | succ m ih => show colSum W nu bs 0 m + cntTo _ 0 = _; rw [ih]; rfl
  | succ n ih =>
    have hv := Int.emod_nonneg ((n : Int) % W + (n : Int) / W) (show nu ≠ 0 by omega)
    have hl := Int.emod_lt_of_pos ((n : Int) % W + (n : Int) / W) (show 0 < nu by omega)
    rw [colSum_next W nu bs n hv, ih, cntTo_succ]
    congr 1
    by_cases h : bs.getD n false = true
    · rw [if_pos ⟨h, by omega⟩, if_pos h]
    · rw [if_neg (fun hh => h hh.1), if_neg h]
theorem cntTo_cnt (bs : List Bool) : cntTo (fun i => bs.getD i false) bs.length = cnt bs := by
  have : ∀ k, k ≤ bs.length → cntTo (fun i => bs.getD i false) k = cnt (bs.take k) := by
    intro k
    induction k with
    | zero => intro _; simp [cntTo, cnt]
    | succ k ih =>
      intro hk
      rw [cntTo_succ, cnt_step bs k (by omega), ih (by omega)]
      have e : bs.getD k false = bs[k] := by simp [List.getD_eq_getElem?_getD, List.getElem?_eq_getElem (show k < bs.length by omega)]
      rw [e]
  have h := this bs.length (Nat.le_refl _)
  rwa [List.take_length] at h
theorem colSum_cells (W nu : Int) (bs : List Bool) (m : Nat) (hm : nu = m) (hn : 1 ≤ nu) : colSum W nu bs bs.length m = cnt bs := by
  rw [colSum_all W nu bs _ m hm hn, cntTo_cnt]
theorem colSum_bd (W nu : Int) (bs : List Bool) (n m : Nat) : 0 ≤ colSum W nu bs n m ∧ colSum W nu bs n m ≤ (m : Int) * n := by
  induction m with
  | zero => exact ⟨Int.le_refl _, by simp [colSum]⟩
  | succ m ih =>
    have := cntTo_bd (inCol W nu m bs) n
    have e : ((m + 1 : Nat) : Int) * n = (m : Int) * n + n := by rw [Int.natCast_add, Int.add_mul]; simp
    rw [e]
    show 0 ≤ colSum W nu bs n m + _ ∧ colSum W nu bs n m + _ ≤ _
    omega
end Go.Proofs.Ytnciemnlnijhfaa

/- Bars have every colour once, plainly. -/
namespace Go.Proofs.Ytnciemnlnijhfaa
open Go.RowKit

/-- how many cells of a colour -/
def colN (W nu r : Int) (F : List Bool) : Int := cntTo (inCol W nu r F) F.length
def hasC (W nu r c : Int) : Int := if (c % W + c / W) % nu = r then 1 else 0
theorem inCol_set {W nu r : Int} {F : List Bool} {c i : Nat} (h : i ≠ c) : inCol W nu r (F.set c false) i = inCol W nu r F i := by
  unfold inCol
  rw [List.getD_eq_getElem?_getD, List.getD_eq_getElem?_getD, List.getElem?_set, if_neg (Ne.symm h)]
theorem cnt_set_col {W nu r : Int} {F : List Bool} {c : Nat} (hc : c < F.length) (h : F[c] = true) (k : Nat) : cntTo (inCol W nu r F) k = cntTo (inCol W nu r (F.set c false)) k + (if c < k then hasC W nu r c else 0) := by
  induction k with
  | zero => rw [if_neg (by omega)]; rfl
  | succ k ih =>
    rw [cntTo_succ, cntTo_succ, ih]
    by_cases hk : k = c
    · subst hk
      have e1 : inCol W nu r (F.set k false) k = false := by
        unfold inCol
        rw [List.getD_eq_getElem?_getD, List.getElem?_set, if_pos rfl, if_pos hc]; rfl
      have e2 : inCol W nu r F k = decide (((k : Int) % W + (k : Int) / W) % nu = r) := inCol_t hc h
      rw [e1, e2, if_neg (Nat.lt_irrefl _), if_pos (Nat.lt_succ_self _)]
      unfold hasC
      by_cases hh : ((k : Int) % W + (k : Int) / W) % nu = r <;> simp [hh]
    · rw [inCol_set hk]
      rcases Nat.lt_or_ge c k with h1 | h1
      · rw [if_pos h1, if_pos (show c < k + 1 by omega)]; exact Int.add_right_comm _ _ _
      · rw [if_neg (show ¬ c < k by omega), if_neg (show ¬ c < k + 1 by omega)]; simp
theorem col_set {W nu r : Int} {F : List Bool} {c : Nat} (hc : c < F.length) (h : F[c] = true) : colN W nu r F = colN W nu r (F.set c false) + hasC W nu r c := by
  unfold colN
  rw [List.length_set, cnt_set_col hc h F.length, if_pos hc]
/-- how many of n numbers in a row leave a remainder -/
def runC (nu r s : Int) : Nat → Int
  | 0 => 0
  | n + 1 => (if s % nu = r then 1 else 0) + runC nu r (s + 1) n
theorem step_up {W T a d : Int} (h1 : 1 ≤ W) (h2 : W ≤ 6) (hd : d = 1 ∨ d = 2) (h : 0 ≤ stepZ W T a d) : a < stepZ W T a d ∧ stepZ W T a d % W + stepZ W T a d / W = a % W + a / W + 1 := by
  rcases hd with rfl | rfl
  · rw [step1] at *
    split at h
    · rename_i hc
      rw [if_pos hc]
      have e1 : (a + 1) % W = a % W + 1 := by rcases (show W = 1 ∨ W = 2 ∨ W = 3 ∨ W = 4 ∨ W = 5 ∨ W = 6 from by omega) with rfl | rfl | rfl | rfl | rfl | rfl <;> omega
      have e2 : (a + 1) / W = a / W := by rcases (show W = 1 ∨ W = 2 ∨ W = 3 ∨ W = 4 ∨ W = 5 ∨ W = 6 from by omega) with rfl | rfl | rfl | rfl | rfl | rfl <;> omega
      rw [e1, e2]
      omega
    · omega
  · rw [step2] at *
    split at h
    · rename_i hc
      rw [if_pos hc]
      have e1 : (a + W) % W = a % W := by rcases (show W = 1 ∨ W = 2 ∨ W = 3 ∨ W = 4 ∨ W = 5 ∨ W = 6 from by omega) with rfl | rfl | rfl | rfl | rfl | rfl <;> omega
      have e2 : (a + W) / W = a / W + 1 := by rcases (show W = 1 ∨ W = 2 ∨ W = 3 ∨ W = 4 ∨ W = 5 ∨ W = 6 from by omega) with rfl | rfl | rfl | rfl | rfl | rfl <;> omega
      rw [e1, e2]
      omega
    · omega
/-- a cell below the bar does not matter -/
theorem barL_set {W T d : Int} {F : List Bool} {c : Nat} (h1 : 1 ≤ W) (h2 : W ≤ 6) (hd : d = 1 ∨ d = 2) (n : Nat) : ∀ a : Int, (c : Int) < a → barL W T (F.set c false) d n a = barL W T F d n a := by
  induction n with
  | zero => intro a _; rfl
  | succ n ih =>
    intro a ha
    rw [barL, barL]
    have e : (F.set c false).getD a.toNat false = F.getD a.toNat false := by
      rw [List.getD_eq_getElem?_getD, List.getD_eq_getElem?_getD, List.getElem?_set, if_neg (by omega)]
    rw [e]
    by_cases hh : 0 ≤ a ∧ F.getD a.toNat false = true
    · rw [if_pos hh, if_pos hh]
      congr 1
      by_cases hs : 0 ≤ stepZ W T a d
      · exact ih _ (by have := (step_up h1 h2 hd hs).1; omega)
      · cases n with
        | zero => rfl
        | succ m => rw [barL, barL, if_neg (fun h => hs h.1), if_neg (fun h => hs h.1)]
    · rw [if_neg hh, if_neg hh]
theorem col_bar {W T nu r d : Int} (h1 : 1 ≤ W) (h2 : W ≤ 6) (hd : d = 1 ∨ d = 2) (n : Nat) : ∀ (F : List Bool) (a : Int), (barL W T F d n a).length = n → colN W nu r F = colN W nu r (clearL F (barL W T F d n a)) + runC nu r (a % W + a / W) n := by
  induction n with
  | zero => intro F a _; simp [barL, clearL, runC]
  | succ n ih =>
    intro F a hl
    rw [barL] at hl ⊢
    by_cases hh : 0 ≤ a ∧ F.getD a.toNat false = true
    · rw [if_pos hh] at hl ⊢
      obtain ⟨a0, hb⟩ := hh
      obtain ⟨c, rfl⟩ := Int.eq_ofNat_of_zero_le a0
      simp only [Int.toNat_natCast] at hb
      have hc : c < F.length := by
        rcases Nat.lt_or_ge c F.length with h | h
        · exact h
        · rw [List.getD_eq_getElem?_getD, List.getElem?_eq_none h] at hb; cases hb
      have hF : F[c] = true := by rw [List.getD_eq_getElem?_getD, List.getElem?_eq_getElem hc] at hb; exact hb
      rw [List.length_cons] at hl
      have hl' : (barL W T F d n (stepZ W T c d)).length = n := by omega
      rw [clearL, Int.toNat_natCast, col_set hc hF]
      cases n with
      | zero =>
        simp only [barL, clearL, runC, hasC]
        omega
      | succ m =>
        have hs : 0 ≤ stepZ W T c d := by
          rcases Int.lt_or_le (stepZ W T c d) 0 with h | h
          · rw [barL, if_neg (fun hh => by omega)] at hl'; simp at hl'
          · exact h
        obtain ⟨u1, u2⟩ := step_up h1 h2 hd hs
        have e := barL_set (T := T) (F := F) (c := c) h1 h2 hd (m + 1) (stepZ W T c d) u1
        rw [← e] at hl' ⊢
        rw [ih (F.set c false) (stepZ W T c d) hl', u2]
        show _ + hasC W nu r c = _ + ((if ((c : Int) % W + (c : Int) / W) % nu = r then 1 else 0) + runC nu r ((c : Int) % W + (c : Int) / W + 1) (m + 1))
        unfold hasC
        omega
    · rw [if_neg hh] at hl; simp at hl
/-- each remainder comes once -/
theorem run_one (nu : Nat) (h1 : 1 ≤ nu) (h2 : nu ≤ 4) (r s : Int) (r0 : 0 ≤ r) (r1 : r < nu) : runC nu r s nu = 1 := by
  rcases (show nu = 1 ∨ nu = 2 ∨ nu = 3 ∨ nu = 4 from by omega) with rfl | rfl | rfl | rfl
  · simp only [runC]; rw [if_pos (by omega)]; rfl
  · simp only [runC]; repeat' split
    all_goals omega
  · simp only [runC]; repeat' split
    all_goals omega
  · simp only [runC]; repeat' split
    all_goals omega
theorem col_none {W nu r : Int} {F : List Bool} (h : ∀ k (hk : k < F.length), F[k] = false) : colN W nu r F = 0 := by
  unfold colN
  have : ∀ k, k ≤ F.length → cntTo (inCol W nu r F) k = 0 := by
    intro k
    induction k with
    | zero => intro _; rfl
    | succ k ih =>
      intro hk
      rw [cntTo_succ, ih (by omega), inCol_f (by omega) (h k (by omega))]; rfl
  exact this _ (Nat.le_refl _)
theorem none_of_cnt {F : List Bool} (h : cnt F ≤ 0) : ∀ k (hk : k < F.length), F[k] = false := by
  intro k hk
  cases hb : F[k] with
  | false => rfl
  | true =>
    have := cnt_set_lt F k hk hb
    have := (cnt_le (F.set k false)).1
    omega
/-- what bars cover has all colours as often -/
theorem bars_col {W T : Int} {long : Nat} (h1 : 1 ≤ W) (h2 : W ≤ 6) (l1 : 1 ≤ long) (l2 : long ≤ 4) (f : Nat) : ∀ F : List Bool, cnt F ≤ f → 1 ≤ barsN W T long f F → ∀ r : Int, 0 ≤ r → r < long → colN W long r F = colN W long 0 F := by
  induction f with
  | zero =>
    intro F hF _ r _ _
    have hn := none_of_cnt (F := F) (by simpa using hF)
    rw [col_none hn, col_none hn]
  | succ f ih =>
    intro F hF hb r r0 r1
    by_cases hfb : firstB F = F.length
    · have hn : ∀ k (hk : k < F.length), F[k] = false := fun k hk => firstB_f (by omega) hk
      rw [col_none hn, col_none hn]
    · have hlt : firstB F < F.length := by have := firstB_le F; omega
      have hft := firstB_t hlt
      rw [barsN, if_neg hfb] at hb
      have hp : ∃ d : Int, (d = 1 ∨ d = 2) ∧ 1 ≤ partB W T long (barsN W T long f) F (firstB F) d := by
        have e : sumB W T long (barsN W T long f) F (firstB F) 2 = 0 + partB W T long (barsN W T long f) F (firstB F) (((0 : Nat) : Int) + 1) + partB W T long (barsN W T long f) F (firstB F) (((1 : Nat) : Int) + 1) := rfl
        rw [e] at hb
        rcases Int.lt_or_le (partB W T long (barsN W T long f) F (firstB F) (((0 : Nat) : Int) + 1)) 1 with h | h
        · exact ⟨2, .inr rfl, by have e2 : (((1 : Nat) : Int) + 1) = 2 := rfl
                                 rw [e2] at hb; omega⟩
        · exact ⟨1, .inl rfl, h⟩
      obtain ⟨d, hd, hpd⟩ := hp
      unfold partB at hpd
      split at hpd
      · rename_i hc
        have hl := hc.1
        have hcb := cnt_bar (W := W) (T := T) (d := d) l1 hlt hft
        have hih := ih (clearL F (barL W T F d long (firstB F))) (by rw [Int.natCast_add] at hF; simp at hF; omega) hpd r r0 r1
        rw [col_bar (W := W) (T := T) (nu := (long : Int)) (r := r) h1 h2 hd long F _ hl, col_bar (W := W) (T := T) (nu := (long : Int)) (r := 0) h1 h2 hd long F _ hl, hih, run_one long l1 l2 r _ r0 r1, run_one long l1 l2 0 _ (by omega) (by omega)]
      · omega
/-- if all colours are as often, they divide -/
theorem col_div {W : Int} {nu : Nat} {bs : List Bool} (h1 : 1 ≤ nu) (h : ∀ r : Nat, r < nu → colN W nu r bs = colN W nu 0 bs) : cnt bs % (nu : Int) = 0 := by
  have hs := colSum_cells W nu bs nu rfl (by omega)
  have : ∀ m, m ≤ nu → colSum W nu bs bs.length m = (m : Int) * colN W nu 0 bs := by
    intro m
    induction m with
    | zero => intro _; simp [colSum]
    | succ m ih =>
      intro hm
      show colSum W nu bs bs.length m + colN W nu m bs = _
      rw [ih (by omega), h m (by omega), Int.natCast_add, Int.add_mul]
      simp
  rw [← hs, this nu (Nat.le_refl _)]
  exact Int.mul_emod_right _ _
end Go.Proofs.Ytnciemnlnijhfaa

/- Tilings are there exactly if all cells can be laid, plainly. -/
namespace Go.Proofs.Ytnciemnlnijhfaa
open Go.RowKit

/-- cells in pairs -/
def PM (W T : Int) (F : List Bool) : Prop := ∃ g : Nat → Nat, ∀ k, k < F.length → F.getD k false = true → g k < F.length ∧ F.getD (g k) false = true ∧ g (g k) = k ∧ ∃ way : Int, 1 ≤ way ∧ way ≤ 4 ∧ stepZ W T k way = (g k : Int)
theorem cnt_none {F : List Bool} (h : cnt F ≤ 0) (k : Nat) : F.getD k false = false := by
  rcases Nat.lt_or_ge k F.length with hk | hk
  · cases e : F[k] with
    | false => rw [List.getD_eq_getElem?_getD, List.getElem?_eq_getElem hk]; exact e
    | true =>
      have h1 := cnt_set_lt F k hk e
      have h2 := (cnt_le (F.set k false)).1
      omega
  · rw [List.getD_eq_getElem?_getD, List.getElem?_eq_none hk]; rfl
theorem first_none {F : List Bool} (h : firstB F = F.length) (k : Nat) : F.getD k false = false := by
  rcases Nat.lt_or_ge k F.length with hk | hk
  · rw [List.getD_eq_getElem?_getD, List.getElem?_eq_getElem hk]; exact firstB_f (by omega) hk
  · rw [List.getD_eq_getElem?_getD, List.getElem?_eq_none hk]; rfl
theorem getD2 {F : List Bool} {c s k : Nat} (hc : c < F.length) (hs : s < F.length) : ((F.set c false).set s false).getD k false = if k = s then false else if k = c then false else F.getD k false := by
  rw [getD_set _ false false s k (by simpa using hs), getD_set _ false false c k hc]
theorem getD_lt {F : List Bool} {k : Nat} (h : F.getD k false = true) : k < F.length := by
  rcases Nat.lt_or_ge k F.length with hk | hk
  · exact hk
  · rw [List.getD_eq_getElem?_getD, List.getElem?_eq_none hk] at h; cases h
theorem getD_el {F : List Bool} {k : Nat} (hk : k < F.length) : F.getD k false = F[k] := by rw [List.getD_eq_getElem?_getD, List.getElem?_eq_getElem hk]; rfl
theorem pos_pm {W T : Int} (h1 : 1 ≤ W) (h2 : W ≤ 6) (h3 : 1 ≤ T) (h4 : T ≤ 6) : ∀ (f : Nat) (F : List Bool), (F.length : Int) = W * T → cnt F ≤ f → 0 < barsN W T 2 f F → PM W T F
  | 0, F, _, hc, _ => ⟨id, fun k _ h => by rw [cnt_none (by omega)] at h; cases h⟩
  | f + 1, F, hl, hc, hp => by
    by_cases hF : firstB F = F.length
    · exact ⟨id, fun k _ h => by rw [first_none hF] at h; cases h⟩
    · have hlt : firstB F < F.length := by have := firstB_le F; omega
      have ht := firstB_t hlt
      rw [barsN, if_neg hF] at hp
      generalize firstB F = c at *
      have hnn : ∀ G, 0 ≤ barsN W T 2 f G := fun G => (barsN_bd W T 2 f G).1
      have hpart : ∀ d : Int, 0 < partB W T 2 (barsN W T 2 f) F c d → ∃ s : Nat, stepZ W T c d = (s : Int) ∧ F.getD s false = true ∧ 0 < barsN W T 2 f ((F.set c false).set s false) := fun d hd => by
        by_cases hs : stepZ W T c d < 0 ∨ F.getD (stepZ W T c d).toNat false = false
        · rw [part_f hlt ht hs] at hd; omega
        · have hs0 : 0 ≤ stepZ W T c d := by
            rcases Int.lt_or_le (stepZ W T c d) 0 with h | h
            · exact absurd (.inl h) hs
            · exact h
          obtain ⟨s, e⟩ := Int.eq_ofNat_of_zero_le hs0
          have hFs : F.getD s false = true := by
            cases e2 : F.getD s false with
            | true => rfl
            | false => exact absurd (.inr (by rw [e, Int.toNat_natCast]; exact e2)) hs
          rw [part_t hlt ht e hFs] at hd
          exact ⟨s, e, hFs, hd⟩
      have hex : ∃ d : Int, 1 ≤ d ∧ d ≤ 4 ∧ 0 < partB W T 2 (barsN W T 2 f) F c d := by
        have e : sumB W T 2 (barsN W T 2 f) F c 2 = 0 + partB W T 2 (barsN W T 2 f) F c (((0 : Nat) : Int) + 1) + partB W T 2 (barsN W T 2 f) F c (((1 : Nat) : Int) + 1) := rfl
        rw [e] at hp
        rcases Int.lt_or_le 0 (partB W T 2 (barsN W T 2 f) F c (((0 : Nat) : Int) + 1)) with h | h
        · exact ⟨_, by omega, by omega, h⟩
        · exact ⟨((1 : Nat) : Int) + 1, by omega, by omega, by omega⟩
      obtain ⟨d, d1, d4, hd⟩ := hex
      obtain ⟨s, e, hFs, hps⟩ := hpart d hd
      have hs := getD_lt hFs
      have hsc : s ≠ c := fun x => by
        have := step_neq (W := W) (T := T) (c := (c : Int)) (d := d) h1 (by omega)
        rw [e, x] at this; exact this rfl
      have hc2 : cnt ((F.set c false).set s false) ≤ f := by
        have a := cnt_set_lt F c hlt ht
        have b := cnt_set_le (F.set c false) s
        omega
      obtain ⟨g, hg⟩ := pos_pm h1 h2 h3 h4 f ((F.set c false).set s false) (by simpa using hl) hc2 hps
      have hr := step_rev (W := W) (T := T) (c := (c : Int)) (d := d) h1 h2 h3 h4 (by omega) (by omega) d1 d4 (by omega)
      rw [e] at hr
      have hb := back_bd d
      refine ⟨fun k => if k = c then s else if k = s then c else g k, fun k hk hFk => ?_⟩
      by_cases hkc : k = c
      · subst hkc
        simp only [if_true, if_neg hsc]
        exact ⟨hs, hFs, trivial, d, d1, d4, e⟩
      · by_cases hks : k = s
        · subst hks
          simp only [if_true, if_neg hsc]
          exact ⟨hlt, by rw [getD_el hlt]; exact ht, trivial, backZ d, hb.1, hb.2, hr⟩
        · obtain ⟨g1, g2, g3, g4⟩ := hg k (by simpa using hk) (by rw [getD2 hlt hs, if_neg hks, if_neg hkc]; exact hFk)
          rw [getD2 hlt hs] at g2
          have n1 : g k ≠ s := fun x => by rw [if_pos x] at g2; cases g2
          have n2 : g k ≠ c := fun x => by rw [if_neg n1, if_pos x] at g2; cases g2
          rw [if_neg n1, if_neg n2] at g2
          simp only [if_neg hkc, if_neg hks, if_neg n1, if_neg n2]
          exact ⟨by simpa using g1, g2, g3, g4⟩
theorem pm_pos {W T : Int} (h1 : 1 ≤ W) : ∀ (f : Nat) (F : List Bool), cnt F ≤ f → PM W T F → 0 < barsN W T 2 f F
  | 0, F, hc, _ => by show (0 : Int) < 1; omega
  | f + 1, F, hc, hpm => by
    by_cases hF : firstB F = F.length
    · rw [barsN, if_pos hF]; omega
    · have hlt : firstB F < F.length := by have := firstB_le F; omega
      have ht := firstB_t hlt
      have hfirst := fun k (hk : k < F.length) (h : k < firstB F) => firstB_f h hk
      rw [barsN, if_neg hF]
      generalize firstB F = c at *
      obtain ⟨g, hg⟩ := hpm
      obtain ⟨g1, g2, g3, way, w1, w2, hw⟩ := hg c hlt (by rw [getD_el hlt]; exact ht)
      have hsc : g c ≠ c := fun x => by
        have := step_neq (W := W) (T := T) (c := (c : Int)) (d := way) h1 (by omega)
        rw [hw, x] at this; exact this rfl
      have hgt : c < g c := by
        rcases Nat.lt_or_ge (g c) c with h | h
        · have := hfirst (g c) g1 h
          rw [getD_el g1, this] at g2; cases g2
        · omega
      have hw12 : way = 1 ∨ way = 2 := by
        rcases (show way = 1 ∨ way = 2 ∨ way = 3 ∨ way = 4 from by omega) with rfl | rfl | rfl | rfl
        · exact .inl rfl
        · exact .inr rfl
        · rw [step3] at hw; split at hw <;> omega
        · rw [step4] at hw; split at hw <;> omega
      have hc2 : cnt ((F.set c false).set (g c) false) ≤ f := by
        have a := cnt_set_lt F c hlt ht
        have b := cnt_set_le (F.set c false) (g c)
        omega
      have hrec := pm_pos h1 f ((F.set c false).set (g c) false) hc2 ⟨g, fun k hk hFk => by
        rw [getD2 hlt g1] at hFk
        have n1 : k ≠ g c := fun x => by rw [if_pos x] at hFk; cases hFk
        have n2 : k ≠ c := fun x => by rw [if_neg n1, if_pos x] at hFk; cases hFk
        rw [if_neg n1, if_neg n2] at hFk
        obtain ⟨a1, a2, a3, a4⟩ := hg k (by simpa using hk) hFk
        refine ⟨by simpa using a1, ?_, a3, a4⟩
        rw [getD2 hlt g1, if_neg (fun x => n2 (by rw [← a3, x, g3])), if_neg (fun x => n1 (by rw [← a3, x]))]
        exact a2⟩
      have hp := part_t (W := W) (T := T) (rec := barsN W T 2 f) hlt ht hw g2
      have hnn : ∀ d, 0 ≤ partB W T 2 (barsN W T 2 f) F c d := fun d => by
        unfold partB; split
        · exact (barsN_bd W T 2 f _).1
        · omega
      have e : sumB W T 2 (barsN W T 2 f) F c 2 = 0 + partB W T 2 (barsN W T 2 f) F c (((0 : Nat) : Int) + 1) + partB W T 2 (barsN W T 2 f) F c (((1 : Nat) : Int) + 1) := rfl
      rw [e]
      have n1 := hnn (((0 : Nat) : Int) + 1)
      have n2 := hnn (((1 : Nat) : Int) + 1)
      rcases hw12 with rfl | rfl
      · rw [← hp] at hrec
        have : partB W T 2 (barsN W T 2 f) F c (((0 : Nat) : Int) + 1) = partB W T 2 (barsN W T 2 f) F c 1 := rfl
        omega
      · rw [← hp] at hrec
        have : partB W T 2 (barsN W T 2 f) F c (((1 : Nat) : Int) + 1) = partB W T 2 (barsN W T 2 f) F c 2 := rfl
        omega
/-! ### Pairs and dominoes -/
def lightC (W : Int) (bs : List Bool) (n : Nat) : Nat := (List.range n).countP fun k => bs.getD k false && !darkB W k
theorem cnt_split (W : Int) (bs : List Bool) : cnt bs = ((darkNn W bs).length : Int) + lightC W bs bs.length := by
  have key : ∀ m, m ≤ bs.length → cnt (bs.take m) = (((List.range m).countP fun k => bs.getD k false && darkB W k : Nat) : Int) + ((List.range m).countP fun k => bs.getD k false && !darkB W k : Nat) := by
    intro m
    induction m with
    | zero => intro _; rfl
    | succ m ih =>
      intro hm
      have ih := ih (by omega)
      have hg : bs.getD m false = bs[m] := getD_el (by omega)
      rw [cnt_step bs m (by omega), ih, List.range_succ, List.countP_append, List.countP_append]
      simp only [List.countP_cons, List.countP_nil, hg]
      cases bs[m] <;> cases darkB W m <;> simp <;> omega
  have h := key bs.length (Nat.le_refl _)
  rw [List.take_length] at h
  rw [h]
  unfold lightC darkNn
  rw [← List.countP_eq_length_filter]
  have e : (List.range bs.length).countP (isCol W bs true) = (List.range bs.length).countP fun k => bs.getD k false && darkB W k := by
    refine List.countP_congr (fun k _ => ?_)
    unfold isCol
    cases bs.getD k false <;> cases darkB W k <;> simp
  rw [e]
theorem pm_colour {W T : Int} {F : List Bool} {k g : Nat} (hf : Fld W T F) {way : Int} (hw : stepZ W T k way = (g : Int)) : darkB W g = !darkB W k := by
  have h := dark_step (W := W) (T := T) (c := (k : Int)) way hf.w1 hf.w6 (by omega)
  rw [hw] at h
  exact h
theorem laid_le_dark (W T : Int) (bs : List Bool) : laidN W T bs ≤ (darkNn W bs).length := by
  obtain ⟨M, hM, hs⟩ := laid_max W T bs
  rw [← hs]
  refine Nat.le_trans ?_ (inj_count bs.length hM.1.inj (darkNn W bs))
  unfold szM
  refine List.countP_mono_left (fun l _ hl => ?_)
  obtain ⟨d, hd⟩ := Option.isSome_iff_exists.1 hl
  exact List.any_eq_true.2 ⟨d, (hM.1.edge l d hd).2.1, by simp [hd]⟩
theorem mat_light {W T : Int} {bs : List Bool} (hf : Fld W T bs) {M : Nat → Option Nat} (h : IsM (adjL W T bs) bs.length (darkNn W bs) M) {l d : Nat} (e : M l = some d) : bs.getD l false = true ∧ darkB W l = false := by
  obtain ⟨-, e2, way, w1, w2, hs, hb⟩ := h.edge l d e
  refine ⟨hb, ?_⟩
  rw [pm_colour hf hs, (darkNn_mem.1 e2).2.2]; rfl
theorem laid_le_light {W T : Int} {bs : List Bool} (hf : Fld W T bs) : laidN W T bs ≤ lightC W bs bs.length := by
  obtain ⟨M, hM, hs⟩ := laid_max W T bs
  have hM' := hM.1.congr (adj' := adjL W T bs) (fun d hd l => nb_adj hf (darkNn_mem.1 hd).1 l)
  rw [← hs]
  unfold szM lightC
  refine List.countP_mono_left (fun l _ hl => ?_)
  obtain ⟨d, hd⟩ := Option.isSome_iff_exists.1 hl
  obtain ⟨a, b⟩ := mat_light hf hM' hd
  rw [a, b]; rfl
theorem pm_laid {W T : Int} {bs : List Bool} (hf : Fld W T bs) (h : PM W T bs) : (2 : Int) * laidN W T bs = cnt bs := by
  obtain ⟨g, hg⟩ := h
  have hM : IsM (adjL W T bs) bs.length (darkNn W bs) (fun l => if bs.getD l false = true ∧ darkB W l = false then some (g l) else none) := by
    have key : ∀ l d, (if bs.getD l false = true ∧ darkB W l = false then some (g l) else none) = some d → bs.getD l false = true ∧ darkB W l = false ∧ g l = d := fun l d e => by
      by_cases hc : bs.getD l false = true ∧ darkB W l = false
      · rw [if_pos hc] at e; injection e with e; exact ⟨hc.1, hc.2, e⟩
      · rw [if_neg hc] at e; cases e
    refine ⟨fun l d e => ?_, fun l l' d e e' => ?_⟩
    · obtain ⟨a, b, rfl⟩ := key l d e
      have hl := getD_lt a
      obtain ⟨g1, g2, g3, way, w1, w2, hw⟩ := hg l hl a
      have hn := hf.n
      have hr := step_rev (W := W) (T := T) (c := (l : Int)) (d := way) hf.w1 hf.w6 hf.t1 hf.t6 (by omega) (by omega) w1 w2 (by omega)
      rw [hw] at hr
      have hb := back_bd way
      exact ⟨hl, darkNn_mem.2 ⟨g1, g2, by rw [pm_colour hf hw, b]; rfl⟩, backZ way, hb.1, hb.2, hr, a⟩
    · obtain ⟨a, -, e1⟩ := key l d e
      obtain ⟨a', -, e2⟩ := key l' d e'
      have h1 := (hg l (getD_lt a) a).2.2.1
      have h2 := (hg l' (getD_lt a') a').2.2.1
      rw [e1] at h1; rw [e2] at h2; omega
  have hsz : szM (fun l => if bs.getD l false = true ∧ darkB W l = false then some (g l) else none) bs.length = lightC W bs bs.length := by
    unfold szM lightC
    refine List.countP_congr (fun l _ => ?_)
    have key : ∀ u v : Bool, ((if u = true ∧ v = false then some (g l) else none).isSome = true ↔ (u && !v) = true) := by
      intro u v; cases u <;> cases v <;> simp
    exact key _ _
  have hle : lightC W bs bs.length ≤ laidN W T bs := by
    obtain ⟨M, hMx, hs⟩ := laid_max W T bs
    rw [← hsz, ← hs]
    exact hMx.2 _ (hM.congr (fun d hd l => (nb_adj hf (darkNn_mem.1 hd).1 l).symm))
  have hdl : (darkNn W bs).length ≤ lightC W bs bs.length := by
    have hinj : ∀ l l' d, (if bs.getD l false = true ∧ darkB W l = true then some (g l) else none) = some d → (if bs.getD l' false = true ∧ darkB W l' = true then some (g l') else none) = some d → l = l' := fun l l' d e e' => by
      by_cases hc : bs.getD l false = true ∧ darkB W l = true
      · by_cases hc' : bs.getD l' false = true ∧ darkB W l' = true
        · rw [if_pos hc] at e; rw [if_pos hc'] at e'
          injection e with e; injection e' with e'
          have h1 := (hg l (getD_lt hc.1) hc.1).2.2.1
          have h2 := (hg l' (getD_lt hc'.1) hc'.1).2.2.1
          rw [e] at h1; rw [e'] at h2; omega
        · rw [if_neg hc'] at e'; cases e'
      · rw [if_neg hc] at e; cases e
    have h1 := inj_count (M := fun l => if bs.getD l false = true ∧ darkB W l = true then some (g l) else none) bs.length hinj ((List.range bs.length).filter fun k => bs.getD k false && !darkB W k)
    rw [← List.countP_eq_length_filter] at h1
    refine Nat.le_trans ?_ h1
    unfold darkNn
    rw [← List.countP_eq_length_filter]
    refine List.countP_mono_left (fun d hd hc => ?_)
    unfold isCol at hc
    have hc' : bs.getD d false = true ∧ darkB W d = true := by
      rw [Bool.and_eq_true] at hc
      exact ⟨hc.1, by simpa using hc.2⟩
    obtain ⟨g1, g2, g3, way, w1, w2, hw⟩ := hg d (getD_lt hc'.1) hc'.1
    refine List.any_eq_true.2 ⟨g d, List.mem_filter.2 ⟨List.mem_range.2 g1, by rw [g2, pm_colour hf hw, hc'.2]; rfl⟩, ?_⟩
    rw [if_pos hc']; simp
  have h1 := laid_le_dark W T bs
  have h2 := cnt_split W bs
  omega
theorem laid_pm {W T : Int} {bs : List Bool} (hf : Fld W T bs) (h : (2 : Int) * laidN W T bs = cnt bs) : PM W T bs := by
  have h1 := laid_le_dark W T bs
  have h2 := cnt_split W bs
  have h3 := laid_le_light hf
  obtain ⟨M, hMx, hs⟩ := laid_max W T bs
  have hM := hMx.1.congr (adj' := adjL W T bs) (fun d hd l => nb_adj hf (darkNn_mem.1 hd).1 l)
  have hn := hf.n
  -- every light cell has an owner
  have hlight : ∀ l, l < bs.length → bs.getD l false = true → darkB W l = false → ∃ d, M l = some d := by
    have key : ∀ m, m ≤ bs.length → (List.range m).countP (fun l => (M l).isSome) ≤ (List.range m).countP (fun k => bs.getD k false && !darkB W k) ∧ ((List.range m).countP (fun l => (M l).isSome) = (List.range m).countP (fun k => bs.getD k false && !darkB W k) → ∀ l, l < m → bs.getD l false = true → darkB W l = false → ∃ d, M l = some d) := by
      intro m
      induction m with
      | zero => intro _; exact ⟨by simp, fun _ l hl => by omega⟩
      | succ m ih =>
        intro hm
        obtain ⟨i1, i2⟩ := ih (by omega)
        rw [List.range_succ, List.countP_append, List.countP_append]
        simp only [List.countP_cons, List.countP_nil]
        generalize (List.range m).countP (fun l => (M l).isSome) = ca at *
        generalize (List.range m).countP (fun k => bs.getD k false && !darkB W k) = cb at *
        cases hMm : M m with
        | none =>
          cases hb : (bs.getD m false && !darkB W m) with
          | false =>
            refine ⟨by simp; exact i1, fun e l hl a b => ?_⟩
            simp at e
            rcases Nat.lt_or_ge l m with h4 | h4
            · exact i2 e l h4 a b
            · obtain rfl : l = m := by omega
              rw [a, b] at hb; cases hb
          | true => exact ⟨by simp; omega, fun e => by simp at e; omega⟩
        | some d =>
          obtain ⟨a', b'⟩ := mat_light hf hM hMm
          rw [a', b']
          refine ⟨by simp; exact i1, fun e l hl a b => ?_⟩
          simp at e
          rcases Nat.lt_or_ge l m with h4 | h4
          · exact i2 e l h4 a b
          · obtain rfl : l = m := by omega
            exact ⟨d, hMm⟩
    obtain ⟨k1, k2⟩ := key bs.length (Nat.le_refl _)
    exact k2 (by
      have e : (List.range bs.length).countP (fun l => (M l).isSome) = laidN W T bs := hs
      have e2 : (List.range bs.length).countP (fun k => bs.getD k false && !darkB W k) = lightC W bs bs.length := rfl
      omega)
  -- every dark cell owns one
  have hdark : ∀ d, d ∈ darkNn W bs → ∃ l, M l = some d := fun d hd => by
    by_cases hex : ∃ l, M l = some d
    · exact hex
    · exfalso
      have h5 := inj_count bs.length hM.inj ((darkNn W bs).erase d)
      have h6 : szM M bs.length ≤ ((List.range bs.length).countP fun l => ((darkNn W bs).erase d).any fun d => M l == some d) := by
        unfold szM
        refine List.countP_mono_left (fun l _ hl => ?_)
        obtain ⟨d', hd'⟩ := Option.isSome_iff_exists.1 hl
        have hne : d' ≠ d := fun x => hex ⟨l, by rw [hd', x]⟩
        exact List.any_eq_true.2 ⟨d', (List.mem_erase_of_ne hne).2 (hM.edge l d' hd').2.1, by simp [hd']⟩
      rw [List.length_erase_of_mem hd] at h5
      have h7 := List.length_pos_of_mem hd
      omega
  have hch : ∀ k, ∃ j, k < bs.length → bs.getD k false = true → (darkB W k = false → M k = some j) ∧ (darkB W k = true → M j = some k) := fun k => by
    by_cases hk : k < bs.length ∧ bs.getD k false = true
    · cases hc : darkB W k with
      | false =>
        obtain ⟨d, hd⟩ := hlight k hk.1 hk.2 hc
        exact ⟨d, fun _ _ => ⟨fun _ => hd, (fun x => by cases x)⟩⟩
      | true =>
        obtain ⟨l, hl⟩ := hdark k (darkNn_mem.2 ⟨hk.1, hk.2, hc⟩)
        exact ⟨l, fun _ _ => ⟨(fun x => by cases x), fun _ => hl⟩⟩
    · exact ⟨0, fun a b => absurd ⟨a, b⟩ hk⟩
  obtain ⟨g, hg⟩ := Classical.axiomOfChoice hch
  refine ⟨g, fun k hk hFk => ?_⟩
  obtain ⟨p1, p2⟩ := hg k hk hFk
  cases hc : darkB W k with
  | false =>
    have e := p1 hc
    obtain ⟨-, e2, way, w1, w2, hs2, hb⟩ := hM.edge k (g k) e
    obtain ⟨d1, d2, d3⟩ := darkNn_mem.1 e2
    have hr := step_rev (W := W) (T := T) (c := ((g k : Nat) : Int)) (d := way) hf.w1 hf.w6 hf.t1 hf.t6 (by omega) (by omega) w1 w2 (by omega)
    rw [hs2] at hr
    have hbb := back_bd way
    have q := (hg (g k) d1 d2).2 d3
    exact ⟨d1, d2, hM.inj _ _ _ q e, backZ way, hbb.1, hbb.2, hr⟩
  | true =>
    have e := p2 hc
    obtain ⟨e1, e2, way, w1, w2, hs2, hb⟩ := hM.edge (g k) k e
    obtain ⟨a, b⟩ := mat_light hf hM e
    have q := (hg (g k) e1 a).1 b
    rw [e] at q
    injection q with q
    exact ⟨e1, a, q.symm, way, w1, w2, hs2⟩
/-- there is a tiling exactly if all cells can be laid -/
theorem til_laid {W T : Int} {bs : List Bool} (hv : validB W T bs = true) : 0 < tilN W T bs ↔ (2 : Int) * laidN W T bs = cnt bs := by
  obtain ⟨h1, h2, h3, h4, h5, h6⟩ := valid_len hv
  have hf : Fld W T bs := ⟨h1, h2, h3, h4, h6⟩
  have hc : cnt bs ≤ 24 := (validB_iff.1 hv).2.2.2
  constructor
  · intro h; exact pm_laid hf (pos_pm h1 h2 h3 h4 24 bs h6 hc h)
  · intro h; exact pm_pos h1 24 bs hc (laid_pm hf h)
end Go.Proofs.Ytnciemnlnijhfaa

/- Dominoes in a region as a list of pairs, plainly: how many can be laid; one cell less. -/
namespace Go.Proofs.Ytnciemnlnijhfaa
open Go.RowKit

/-- two cells of a region, side by side -/
def Pr (W T : Int) (bs : List Bool) (p : Nat × Nat) : Prop := p.1 < bs.length ∧ p.2 < bs.length ∧ bs.getD p.1 false = true ∧ bs.getD p.2 false = true ∧ ∃ way : Int, 1 ≤ way ∧ way ≤ 4 ∧ stepZ W T p.1 way = (p.2 : Int)
def flatP (L : List (Nat × Nat)) : List Nat := L.flatMap fun p => [p.1, p.2]
theorem flatP_cons (p : Nat × Nat) (L : List (Nat × Nat)) : flatP (p :: L) = p.1 :: p.2 :: flatP L := by unfold flatP; simp
/-- dominoes that lie apart -/
def Doms (W T : Int) (bs : List Bool) (L : List (Nat × Nat)) : Prop := (∀ p ∈ L, Pr W T bs p) ∧ (flatP L).Nodup
theorem Pr.swap {W T : Int} {bs : List Bool} {a b : Nat} (hf : Fld W T bs) (h : Pr W T bs (a, b)) : Pr W T bs (b, a) := by
  obtain ⟨h1, h2, h3, h4, way, w1, w2, hs⟩ := h
  have hn := hf.n
  have hr := step_rev (W := W) (T := T) (c := (a : Int)) (d := way) hf.w1 hf.w6 hf.t1 hf.t6 (by omega) (by simp only at h1; omega) w1 w2 (by simp only at hs; omega)
  have hbb := back_bd way
  simp only at hs h1 h2 h3 h4
  rw [hs] at hr
  exact ⟨h2, h1, h4, h3, backZ way, hbb.1, hbb.2, hr⟩
theorem Pr.dark {W T : Int} {bs : List Bool} {a b : Nat} (hf : Fld W T bs) (h : Pr W T bs (a, b)) : darkB W b = !darkB W a := by
  obtain ⟨h1, h2, h3, h4, way, w1, w2, hs⟩ := h
  simp only at hs
  have := dark_step (W := W) (T := T) (c := (a : Int)) way hf.w1 hf.w6 (by omega)
  rw [hs] at this
  exact this
theorem szM_put {M : Nat → Option Nat} {l0 : Nat} (d : Nat) (h : M l0 = none) (n : Nat) : szM (fun l => if l = l0 then some d else M l) n = szM M n + (if l0 < n then 1 else 0) := by
  induction n with
  | zero => simp [szM]
  | succ n ih =>
    rw [szM_succ, szM_succ, ih]
    rcases Nat.decEq n l0 with hn | hn
    · rw [if_neg hn]
      have e : (if l0 < n + 1 then 1 else 0) = (if l0 < n then 1 else 0) := by split <;> split <;> omega
      rw [e]; omega
    · subst hn
      have e1 : (if n < n then 1 else 0) = 0 := if_neg (by omega)
      have e2 : (if n < n + 1 then 1 else 0) = 1 := if_pos (by omega)
      rw [if_pos rfl, h, e1, e2]; simp
/-- dominoes make a matching -/
theorem doms_mat {W T : Int} {bs : List Bool} (hf : Fld W T bs) : ∀ L : List (Nat × Nat), Doms W T bs L → ∃ M, IsM (adjL W T bs) bs.length (darkNn W bs) M ∧ szM M bs.length = L.length ∧ ∀ l d, M l = some d → l ∈ flatP L ∧ d ∈ flatP L
  | [], _ => ⟨fun _ => none, (IsMax.nil (adjL W T bs) bs.length).1.mono (by simp), szM_zero _, fun l d e => by cases e⟩
  | (a, b) :: L, h => by
    obtain ⟨h1, h2⟩ := h
    have h2' := h2
    rw [flatP_cons, List.nodup_cons, List.nodup_cons] at h2
    obtain ⟨n1, n2, n3⟩ := h2
    obtain ⟨M, m1, m2, m3⟩ := doms_mat hf L ⟨fun p hp => h1 p (List.mem_cons_of_mem _ hp), n3⟩
    have hp := h1 (a, b) (List.mem_cons_self ..)
    simp only [List.mem_cons, not_or] at n1
    -- the light one and the dark one
    have key : ∀ l d : Nat, Pr W T bs (d, l) → darkB W d = true → l ∉ flatP L → d ∉ flatP L → (∀ x, x ∈ flatP L → x ∈ flatP ((a, b) :: L)) → l ∈ flatP ((a, b) :: L) → d ∈ flatP ((a, b) :: L) →
        ∃ M, IsM (adjL W T bs) bs.length (darkNn W bs) M ∧ szM M bs.length = ((a, b) :: L).length ∧ ∀ l d, M l = some d → l ∈ flatP ((a, b) :: L) ∧ d ∈ flatP ((a, b) :: L) := by
      intro l0 d0 hpr hdk hl0 hd0 hsub hl1 hd1
      obtain ⟨p1, p2, p3, p4, way, w1, w2, hs⟩ := hpr
      have hno : M l0 = none := by
        cases e : M l0 with
        | none => rfl
        | some d => exact absurd (m3 l0 d e).1 hl0
      refine ⟨fun l => if l = l0 then some d0 else M l, ⟨fun l d e => ?_, fun l l' d e e' => ?_⟩, ?_, fun l d e => ?_⟩
      · by_cases hl : l = l0
        · simp only [if_pos hl, Option.some.injEq] at e
          subst hl e
          exact ⟨p2, darkNn_mem.2 ⟨p1, p3, hdk⟩, way, w1, w2, hs, p4⟩
        · simp only [if_neg hl] at e
          exact m1.edge l d e
      · by_cases hl : l = l0
        · by_cases hl' : l' = l0
          · rw [hl, hl']
          · simp only [if_pos hl, Option.some.injEq] at e
            simp only [if_neg hl'] at e'
            subst e
            exact absurd (m3 l' _ e').2 hd0
        · by_cases hl' : l' = l0
          · simp only [if_pos hl', Option.some.injEq] at e'
            simp only [if_neg hl] at e
            subst e'
            exact absurd (m3 l _ e).2 hd0
          · simp only [if_neg hl] at e
            simp only [if_neg hl'] at e'
            exact m1.inj l l' d e e'
      · rw [szM_put d0 hno, m2, if_pos p2]; rfl
      · by_cases hl : l = l0
        · simp only [if_pos hl, Option.some.injEq] at e
          subst hl e
          exact ⟨hl1, hd1⟩
        · simp only [if_neg hl] at e
          exact ⟨hsub _ (m3 l d e).1, hsub _ (m3 l d e).2⟩
    have hsub : ∀ x, x ∈ flatP L → x ∈ flatP ((a, b) :: L) := fun x hx => by rw [flatP_cons]; simp [hx]
    have ha : a ∈ flatP ((a, b) :: L) := by rw [flatP_cons]; simp
    have hb : b ∈ flatP ((a, b) :: L) := by rw [flatP_cons]; simp
    cases hd : darkB W a with
    | true => exact key b a hp hd n2 n1.2 hsub hb ha
    | false => exact key a b (hp.swap hf) (by rw [hp.dark hf, hd]; rfl) n1.2 n2 hsub ha hb
theorem doms_le {W T : Int} {bs : List Bool} (hf : Fld W T bs) {L : List (Nat × Nat)} (h : Doms W T bs L) : L.length ≤ laidN W T bs := by
  obtain ⟨M, m1, m2, -⟩ := doms_mat hf L h
  obtain ⟨M', a, b⟩ := laid_max W T bs
  rw [← m2, ← b]
  exact a.2 M (m1.congr (fun d hd l => (nb_adj hf (darkNn_mem.1 hd).1 l).symm))
/-- .. and a matching makes dominoes -/
theorem mat_doms {W T : Int} {bs : List Bool} (hf : Fld W T bs) {M : Nat → Option Nat} (hM : IsM (adjL W T bs) bs.length (darkNn W bs) M) : ∀ n, n ≤ bs.length → ∃ L, Doms W T bs L ∧ L.length = szM M n ∧ ∀ x ∈ flatP L, ∃ l, l < n ∧ ((M l).isSome = true ∧ x = l ∨ M l = some x)
  | 0, _ => ⟨[], ⟨by simp, by unfold flatP; simp⟩, by simp [szM], fun x hx => by unfold flatP at hx; simp at hx⟩
  | n + 1, hn => by
    obtain ⟨L, d1, d2, d3⟩ := mat_doms hf hM n (by omega)
    cases e : M n with
    | none => exact ⟨L, d1, by rw [szM_succ, e, d2]; simp, fun x hx => by obtain ⟨l, h1, h2⟩ := d3 x hx; exact ⟨l, by omega, h2⟩⟩
    | some d =>
      obtain ⟨e1, e2, way, w1, w2, hs, hb⟩ := hM.edge n d e
      obtain ⟨f1, f2, f3⟩ := darkNn_mem.1 e2
      have hl := mat_light hf hM e
      have hnl : n ∉ flatP L := fun hx => by
        obtain ⟨l, h1, h2 | h2⟩ := d3 n hx
        · omega
        · have := (darkNn_mem.1 (hM.edge l n h2).2.1).2.2
          rw [hl.2] at this; cases this
      have hnd : d ∉ flatP L := fun hx => by
        obtain ⟨l, h1, h2 | h2⟩ := d3 d hx
        · obtain ⟨d', hd'⟩ := Option.isSome_iff_exists.1 h2.1
          have := (mat_light hf hM hd').2
          rw [← h2.2, f3] at this; cases this
        · have := hM.inj l n d h2 e
          omega
      have hne : d ≠ n := fun x => by subst x; rw [hl.2] at f3; cases f3
      refine ⟨(d, n) :: L, ⟨fun p hp => ?_, ?_⟩, ?_, fun x hx => ?_⟩
      · rcases List.mem_cons.1 hp with rfl | hp
        · exact ⟨f1, e1, f2, hb, way, w1, w2, hs⟩
        · exact d1.1 p hp
      · rw [flatP_cons, List.nodup_cons, List.nodup_cons]
        exact ⟨by simp only [List.mem_cons, not_or]; exact ⟨hne, hnd⟩, hnl, d1.2⟩
      · rw [szM_succ, e, List.length_cons, d2]; simp
      · rw [flatP_cons] at hx
        simp only [List.mem_cons] at hx
        rcases hx with rfl | rfl | hx
        · exact ⟨n, by omega, .inr e⟩
        · exact ⟨x, by omega, .inl ⟨by rw [e]; rfl, rfl⟩⟩
        · obtain ⟨l, h1, h2⟩ := d3 x hx; exact ⟨l, by omega, h2⟩
theorem doms_ex {W T : Int} {bs : List Bool} (hf : Fld W T bs) : ∃ L, Doms W T bs L ∧ L.length = laidN W T bs := by
  obtain ⟨M, a, b⟩ := laid_max W T bs
  have hM := a.1.congr (adj' := adjL W T bs) (fun d hd l => nb_adj hf (darkNn_mem.1 hd).1 l)
  obtain ⟨L, h1, h2, -⟩ := mat_doms hf hM bs.length (Nat.le_refl _)
  exact ⟨L, h1, by rw [h2, b]⟩
theorem rem_len (k : Nat) : ∀ L : List (Nat × Nat), L.length ≤ (L.filter fun p => !(p.1 == k) && !(p.2 == k)).length + (flatP L).count k
  | [] => by simp
  | p :: L => by
    have := rem_len k L
    rw [flatP_cons, List.filter_cons, List.count_cons, List.count_cons]
    by_cases h1 : p.1 = k
    · simp [h1]; split <;> omega
    · by_cases h2 : p.2 = k
      · simp [h1, h2]; omega
      · simp [h1, h2]; omega
theorem flatP_filter {q : Nat × Nat → Bool} : ∀ L : List (Nat × Nat), ((flatP (L.filter q)).Sublist (flatP L))
  | [] => by simp
  | p :: L => by
    have := flatP_filter (q := q) L
    rw [List.filter_cons, flatP_cons]
    split
    · rw [flatP_cons]; exact (this.cons_cons _).cons_cons _
    · exact (this.cons _).cons _
theorem getD_set_ne {bs : List Bool} {k j : Nat} {v : Bool} (h : j ≠ k) : (bs.set k v).getD j false = bs.getD j false := by
  rw [List.getD_eq_getElem?_getD, List.getD_eq_getElem?_getD, List.getElem?_set_ne (by omega)]
theorem getD_off {bs : List Bool} {k j : Nat} (h : (bs.set k false).getD j false = true) : j ≠ k ∧ bs.getD j false = true := by
  have hne : j ≠ k := fun e => by
    subst e
    rw [List.getD_eq_getElem?_getD] at h
    rcases Nat.lt_or_ge j bs.length with hj | hj
    · rw [List.getElem?_set_self hj] at h; cases h
    · rw [List.getElem?_eq_none (by rw [List.length_set]; omega)] at h; cases h
  exact ⟨hne, by rwa [getD_set_ne hne] at h⟩
/-- one cell less: as many dominoes, or one less -/
theorem laid_off {W T : Int} {bs : List Bool} (hf : Fld W T bs) (k : Nat) : laidN W T (bs.set k false) ≤ laidN W T bs ∧ laidN W T bs ≤ laidN W T (bs.set k false) + 1 := by
  have hf' : Fld W T (bs.set k false) := ⟨hf.w1, hf.w6, hf.t1, hf.t6, by rw [List.length_set]; exact hf.n⟩
  constructor
  · obtain ⟨L, h1, h2⟩ := doms_ex hf'
    rw [← h2]
    refine doms_le hf ⟨fun p hp => ?_, h1.2⟩
    obtain ⟨a, b, c, d, e⟩ := h1.1 p hp
    rw [List.length_set] at a b
    exact ⟨a, b, (getD_off c).2, (getD_off d).2, e⟩
  · obtain ⟨L, h1, h2⟩ := doms_ex hf
    have h3 := rem_len k L
    have h4 : (flatP L).count k ≤ 1 := List.nodup_iff_count.1 h1.2 k
    have h5 : (L.filter fun p => !(p.1 == k) && !(p.2 == k)).length ≤ laidN W T (bs.set k false) := by
      refine doms_le hf' ⟨fun p hp => ?_, (flatP_filter L).nodup h1.2⟩
      rw [List.mem_filter] at hp
      obtain ⟨a, b, c, d, e⟩ := h1.1 p hp.1
      have hq := hp.2
      simp only [Bool.and_eq_true, Bool.not_eq_true', beq_eq_false_iff_ne, ne_eq] at hq
      exact ⟨by rw [List.length_set]; exact a, by rw [List.length_set]; exact b, by rw [getD_set_ne hq.1]; exact c, by rw [getD_set_ne hq.2]; exact d, e⟩
    omega
end Go.Proofs.Ytnciemnlnijhfaa

/- A turned region lays as many dominoes, plainly. -/
namespace Go.Proofs.Ytnciemnlnijhfaa
open Go.RowKit

theorem divmod {T x r : Int} (h0 : 0 ≤ r) (h1 : r < T) : (x * T + r) % T = r ∧ (x * T + r) / T = x := by
  have hT : T ≠ 0 := by omega
  constructor
  · rw [Int.add_comm, Int.add_mul_emod_self_right]; exact Int.emod_eq_of_lt h0 h1
  · rw [Int.add_comm, Int.add_mul_ediv_right _ _ hT, Int.ediv_eq_zero_of_lt h0 h1]; omega
theorem flatP_map (f : Nat → Nat) : ∀ L : List (Nat × Nat), flatP (L.map fun p => (f p.1, f p.2)) = (flatP L).map f
  | [] => rfl
  | p :: L => by rw [List.map_cons, flatP_cons, flatP_cons, flatP_map f L]; rfl
theorem nodup_on {f : Nat → Nat} : ∀ {l : List Nat}, l.Nodup → (∀ i ∈ l, ∀ j ∈ l, f i = f j → i = j) → (l.map f).Nodup
  | [], _, _ => by simp
  | a :: l, h, hf => by
    rw [List.nodup_cons] at h
    rw [List.map_cons, List.nodup_cons]
    refine ⟨fun hm => ?_, nodup_on h.2 (fun i hi j hj => hf i (List.mem_cons_of_mem _ hi) j (List.mem_cons_of_mem _ hj))⟩
    obtain ⟨b, hb, e⟩ := List.mem_map.1 hm
    have := hf b (List.mem_cons_of_mem _ hb) a (List.mem_cons_self ..) e
    subst this
    exact h.1 hb
theorem flatP_lt {W T : Int} {bs : List Bool} {L : List (Nat × Nat)} (h : ∀ p ∈ L, Pr W T bs p) : ∀ x ∈ flatP L, x < bs.length := fun x hx => by
  unfold flatP at hx
  obtain ⟨p, hp, h2⟩ := List.mem_flatMap.1 hx
  obtain ⟨a, b, -⟩ := h p hp
  simp only [List.mem_cons, List.not_mem_nil, or_false] at h2
  rcases h2 with rfl | rfl
  · exact a
  · exact b
/-- a map of the cells that keeps neighbours keeps dominoes -/
theorem laid_map {W T W' T' : Int} {bs bs' : List Bool} (f : Nat → Nat) (hf : Fld W T bs) (hf' : Fld W' T' bs')
    (h1 : ∀ k, k < bs.length → f k < bs'.length ∧ bs'.getD (f k) false = bs.getD k false)
    (h2 : ∀ i j, i < bs.length → j < bs.length → f i = f j → i = j)
    (h3 : ∀ (k j : Nat) (way : Int), k < bs.length → j < bs.length → 1 ≤ way → way ≤ 4 → stepZ W T k way = (j : Int) → ∃ way' : Int, 1 ≤ way' ∧ way' ≤ 4 ∧ stepZ W' T' (f k) way' = (f j : Int)) :
    laidN W T bs ≤ laidN W' T' bs' := by
  obtain ⟨L, d1, d2⟩ := doms_ex hf
  rw [← d2, ← List.length_map (fun p : Nat × Nat => (f p.1, f p.2))]
  refine doms_le hf' ⟨fun p hp => ?_, ?_⟩
  · obtain ⟨q, hq, rfl⟩ := List.mem_map.1 hp
    obtain ⟨a, b, c, d, way, w1, w2, hs⟩ := d1.1 q hq
    exact ⟨(h1 _ a).1, (h1 _ b).1, (h1 _ a).2.trans c, (h1 _ b).2.trans d, h3 _ _ way a b w1 w2 hs⟩
  · rw [flatP_map]
    exact nodup_on d1.2 (fun i hi j hj => h2 i j (flatP_lt d1.1 i hi) (flatP_lt d1.1 j hj))

/-- where a cell goes when the region is turned, and back -/
def tauZ (W T c : Int) : Int := c % W * T + (T - 1 - c / W)
def iotaZ (W T c : Int) : Int := (T - 1 - c % T) * W + c / T
theorem tau_xy {W T X Y : Int} (x0 : 0 ≤ X) (x1 : X ≤ W - 1) : tauZ W T (Y * W + X) = X * T + (T - 1 - Y) := by
  obtain ⟨a, b⟩ := divmod (T := W) (x := Y) x0 (by omega)
  unfold tauZ; rw [a, b]
theorem iota_xy {W T X Y : Int} (x0 : 0 ≤ X) (x1 : X ≤ T - 1) : iotaZ W T (Y * T + X) = (T - 1 - X) * W + Y := by
  obtain ⟨a, b⟩ := divmod (T := T) (x := Y) x0 (by omega)
  unfold iotaZ; rw [a, b]
theorem step_xy {W T X Y : Int} (d : Int) (x0 : 0 ≤ X) (x1 : X ≤ W - 1) : stepZ W T (Y * W + X) d = if d = 1 then (if X < W - 1 then Y * W + (X + 1) else -1) else if d = 2 then (if Y < T - 1 then (Y + 1) * W + X else -1)
  else if d = 3 then (if 0 < X then Y * W + (X - 1) else -1) else if d = 4 then (if 0 < Y then (Y - 1) * W + X else -1) else -1 := by
  obtain ⟨a, b⟩ := divmod (T := W) (x := Y) x0 (by omega)
  unfold stepZ; rw [a, b, show Y * W + X + 1 = Y * W + (X + 1) by omega, show Y * W + X - 1 = Y * W + (X - 1) by omega, Int.add_mul, Int.sub_mul, Int.one_mul, show Y * W + X + W = Y * W + W + X by omega, show Y * W + X - W = Y * W - W + X by omega]
theorem tau_step {W T c : Int} (h1 : 1 ≤ W) (h2 : W ≤ 6) (h3 : 1 ≤ T) (h4 : T ≤ 6) (c0 : 0 ≤ c) (c1 : c < W * T) {way : Int} (w1 : 1 ≤ way) (w2 : way ≤ 4) (h : 0 ≤ stepZ W T c way) :
    ∃ way' : Int, 1 ≤ way' ∧ way' ≤ 4 ∧ stepZ T W (tauZ W T c) way' = tauZ W T (stepZ W T c way) := by
  obtain ⟨X, Y, -, -, x0, x1, y0, y1, rfl, -⟩ := cell_xy h1 h2 h3 h4 c0 c1
  rw [step_xy way x0 x1] at h ⊢
  rw [tau_xy x0 x1]
  have q0 : 0 ≤ T - 1 - Y := by omega
  have q1 : T - 1 - Y ≤ T - 1 := by omega
  rcases (show way = 1 ∨ way = 2 ∨ way = 3 ∨ way = 4 from by omega) with rfl | rfl | rfl | rfl
  · simp only [if_true] at h ⊢
    by_cases hc : X < W - 1
    · rw [if_pos hc, tau_xy (by omega) (by omega)]
      exact ⟨2, by omega, by omega, by rw [step_xy 2 q0 q1]; simp [hc]⟩
    · rw [if_neg hc] at h; omega
  · simp only [show ¬ ((2 : Int) = 1) by decide, if_false, if_true] at h ⊢
    by_cases hc : Y < T - 1
    · rw [if_pos hc, tau_xy (by omega) (by omega)]
      exact ⟨3, by omega, by omega, by rw [step_xy 3 q0 q1]; simp only [show ¬ ((3 : Int) = 1) by decide, show ¬ ((3 : Int) = 2) by decide, if_false, if_true]; rw [if_pos (by omega)]; congr 1; omega⟩
    · rw [if_neg hc] at h; omega
  · simp only [show ¬ ((3 : Int) = 1) by decide, show ¬ ((3 : Int) = 2) by decide, if_false, if_true] at h ⊢
    by_cases hc : 0 < X
    · rw [if_pos hc, tau_xy (by omega) (by omega)]
      exact ⟨4, by omega, by omega, by rw [step_xy 4 q0 q1]; simp [hc]⟩
    · rw [if_neg hc] at h; omega
  · simp only [show ¬ ((4 : Int) = 1) by decide, show ¬ ((4 : Int) = 2) by decide, show ¬ ((4 : Int) = 3) by decide, if_false, if_true] at h ⊢
    by_cases hc : 0 < Y
    · rw [if_pos hc, tau_xy (by omega) (by omega)]
      exact ⟨1, by omega, by omega, by rw [step_xy 1 q0 q1]; simp only [if_true]; rw [if_pos (by omega)]; congr 1; omega⟩
    · rw [if_neg hc] at h; omega
theorem iota_step {W T c : Int} (h1 : 1 ≤ W) (h2 : W ≤ 6) (h3 : 1 ≤ T) (h4 : T ≤ 6) (c0 : 0 ≤ c) (c1 : c < T * W) {way : Int} (w1 : 1 ≤ way) (w2 : way ≤ 4) (h : 0 ≤ stepZ T W c way) :
    ∃ way' : Int, 1 ≤ way' ∧ way' ≤ 4 ∧ stepZ W T (iotaZ W T c) way' = iotaZ W T (stepZ T W c way) := by
  obtain ⟨X, Y, -, -, x0, x1, y0, y1, rfl, -⟩ := cell_xy h3 h4 h1 h2 c0 c1
  rw [step_xy way x0 x1] at h ⊢
  rw [iota_xy x0 x1]
  rcases (show way = 1 ∨ way = 2 ∨ way = 3 ∨ way = 4 from by omega) with rfl | rfl | rfl | rfl
  · simp only [if_true] at h ⊢
    by_cases hc : X < T - 1
    · rw [if_pos hc, iota_xy (by omega) (by omega)]
      exact ⟨4, by omega, by omega, by rw [step_xy 4 y0 y1]; simp only [show ¬ ((4 : Int) = 1) by decide, show ¬ ((4 : Int) = 2) by decide, show ¬ ((4 : Int) = 3) by decide, if_false, if_true]; rw [if_pos (by omega)]; congr 2; omega⟩
    · rw [if_neg hc] at h; omega
  · simp only [show ¬ ((2 : Int) = 1) by decide, if_false, if_true] at h ⊢
    by_cases hc : Y < W - 1
    · rw [if_pos hc, iota_xy (by omega) (by omega)]
      exact ⟨1, by omega, by omega, by rw [step_xy 1 y0 y1]; simp [hc]⟩
    · rw [if_neg hc] at h; omega
  · simp only [show ¬ ((3 : Int) = 1) by decide, show ¬ ((3 : Int) = 2) by decide, if_false, if_true] at h ⊢
    by_cases hc : 0 < X
    · rw [if_pos hc, iota_xy (by omega) (by omega)]
      exact ⟨2, by omega, by omega, by rw [step_xy 2 y0 y1]; simp only [show ¬ ((2 : Int) = 1) by decide, if_false, if_true]; rw [if_pos (by omega)]; congr 2; omega⟩
    · rw [if_neg hc] at h; omega
  · simp only [show ¬ ((4 : Int) = 1) by decide, show ¬ ((4 : Int) = 2) by decide, show ¬ ((4 : Int) = 3) by decide, if_false, if_true] at h ⊢
    by_cases hc : 0 < Y
    · rw [if_pos hc, iota_xy (by omega) (by omega)]
      exact ⟨3, by omega, by omega, by rw [step_xy 3 y0 y1]; simp [hc]⟩
    · rw [if_neg hc] at h; omega
theorem tau_in {W T c : Int} (h1 : 1 ≤ W) (h2 : W ≤ 6) (h3 : 1 ≤ T) (h4 : T ≤ 6) (c0 : 0 ≤ c) (c1 : c < W * T) : 0 ≤ tauZ W T c ∧ tauZ W T c < W * T ∧ iotaZ W T (tauZ W T c) = c := by
  obtain ⟨X, Y, -, -, x0, x1, y0, y1, rfl, -⟩ := cell_xy h1 h2 h3 h4 c0 c1
  rw [tau_xy x0 x1, iota_xy (by omega) (by omega)]
  have := xy_cell (X := T - 1 - Y) (Y := X) h3 h4 h1 h2 (by omega) (by omega) x0 x1
  rw [Int.mul_comm T W] at this
  exact ⟨this.1, this.2, by rw [show T - 1 - (T - 1 - Y) = Y by omega]⟩
theorem iota_in {W T c : Int} (h1 : 1 ≤ W) (h2 : W ≤ 6) (h3 : 1 ≤ T) (h4 : T ≤ 6) (c0 : 0 ≤ c) (c1 : c < T * W) : 0 ≤ iotaZ W T c ∧ iotaZ W T c < W * T ∧ tauZ W T (iotaZ W T c) = c := by
  obtain ⟨X, Y, -, -, x0, x1, y0, y1, rfl, -⟩ := cell_xy h3 h4 h1 h2 c0 c1
  rw [iota_xy x0 x1, tau_xy (by omega) (by omega)]
  have := xy_cell (X := Y) (Y := T - 1 - X) h1 h2 h3 h4 (by omega) (by omega) (by omega) (by omega)
  exact ⟨this.1, this.2, by rw [show T - 1 - (T - 1 - X) = X by omega]⟩
/-- a turned region -/
structure IsTurn (W T : Int) (bs bs' : List Bool) : Prop where
  len : bs'.length = bs.length
  at_ : ∀ k, k < bs.length → bs'.getD (tauZ W T k).toNat false = bs.getD k false
  cn : cnt bs' ≤ cnt bs
theorem IsTurn.fld {W T : Int} {bs bs' : List Bool} (h : IsTurn W T bs bs') (hf : Fld W T bs) : Fld T W bs' :=
  ⟨hf.t1, hf.t6, hf.w1, hf.w6, by rw [h.len, Int.mul_comm]; exact hf.n⟩
theorem laid_turn {W T : Int} {bs bs' : List Bool} (hf : Fld W T bs) (h : IsTurn W T bs bs') : laidN T W bs' = laidN W T bs := by
  have hf' := h.fld hf
  have hn := hf.n
  have hn' : (bs.length : Int) = T * W := by rw [Int.mul_comm]; exact hn
  have hl := h.len
  have tin := fun k (hk : k < bs.length) => tau_in (W := W) (T := T) (c := (k : Int)) hf.w1 hf.w6 hf.t1 hf.t6 (by omega) (by omega)
  have iin := fun k (hk : k < bs.length) => iota_in (W := W) (T := T) (c := (k : Int)) hf.w1 hf.w6 hf.t1 hf.t6 (by omega) (by omega)
  refine Nat.le_antisymm ?_ ?_
  · refine laid_map (fun k => (iotaZ W T k).toNat) hf' hf (fun k hk => ?_) (fun i j hi hj e => ?_) (fun k j way hk hj w1 w2 hs => ?_)
    · rw [hl] at hk
      obtain ⟨a, b, c⟩ := iin k hk
      have hlt : (iotaZ W T k).toNat < bs.length := by omega
      refine ⟨hlt, ?_⟩
      have := h.at_ _ hlt
      rw [show (((iotaZ W T k).toNat : Nat) : Int) = iotaZ W T k by omega, c] at this
      rw [← this]; simp
    · rw [hl] at hi hj
      obtain ⟨a, b, c⟩ := iin i hi
      obtain ⟨a', b', c'⟩ := iin j hj
      have e' : iotaZ W T i = iotaZ W T j := by omega
      rw [e', c'] at c; omega
    · rw [hl] at hk hj
      obtain ⟨a, b, c⟩ := iin k hk
      obtain ⟨a', b', c'⟩ := iin j hj
      obtain ⟨way', p1, p2, p3⟩ := iota_step (W := W) (T := T) (c := (k : Int)) hf.w1 hf.w6 hf.t1 hf.t6 (by omega) (by omega) w1 w2 (by omega)
      rw [hs] at p3
      exact ⟨way', p1, p2, by rw [show (((iotaZ W T k).toNat : Nat) : Int) = iotaZ W T k by omega, show (((iotaZ W T j).toNat : Nat) : Int) = iotaZ W T j by omega]; exact p3⟩
  · refine laid_map (fun k => (tauZ W T k).toNat) hf hf' (fun k hk => ?_) (fun i j hi hj e => ?_) (fun k j way hk hj w1 w2 hs => ?_)
    · obtain ⟨a, b, c⟩ := tin k hk
      exact ⟨by omega, h.at_ k hk⟩
    · obtain ⟨a, b, c⟩ := tin i hi
      obtain ⟨a', b', c'⟩ := tin j hj
      have e' : tauZ W T i = tauZ W T j := by omega
      rw [e', c'] at c; omega
    · obtain ⟨a, b, c⟩ := tin k hk
      obtain ⟨a', b', c'⟩ := tin j hj
      obtain ⟨way', p1, p2, p3⟩ := tau_step (W := W) (T := T) (c := (k : Int)) hf.w1 hf.w6 hf.t1 hf.t6 (by omega) (by omega) w1 w2 (by omega)
      rw [hs] at p3
      exact ⟨way', p1, p2, by rw [show (((tauZ W T k).toNat : Nat) : Int) = tauZ W T k by omega, show (((tauZ W T j).toNat : Nat) : Int) = tauZ W T j by omega]; exact p3⟩
end Go.Proofs.Ytnciemnlnijhfaa

/- Contract: where a cell goes when the region is turned. -/
namespace Go.Proofs.Ytnciemnlnijhfaa
open Go.RowKit

set_option maxHeartbeats 1000000 in
theorem turned_any (W T : Int) (S : Value) (c : Int) (w : World) (h1 : 1 ≤ W) (h2 : W ≤ 6) (h3 : 1 ≤ T) (h4 : T ≤ 6) (c0 : 0 ≤ c) (c1 : c < W * T) :
    Calls Try.prog 63 #[.agg #[.int .i64 W, .int .i64 T, S], .int .i64 c] w fun e w' => e = .returned (.int .i64 (tauZ W T c)) ∧ Below w.heap.size w w' := by
  obtain ⟨X, Y, eX, eY, x0, x1, y0, y1, -, -, -, hc⟩ := cell_xy h1 h2 h3 h4 c0 c1
  have HE := Lib.hid (show X * T + T - 1 - Y = tauZ W T c by unfold tauZ; rw [eX, eY]; omega)
  have XY := Lib.hid (fun w => by have := xy_any W T S c w h1 h2 c0 (by omega); rw [eX, eY] at this; exact this)
  have X0 := C3.new w (.int .i64 W) (.int .i64 T) S 25
  obtain ⟨m0, m1⟩ : 0 ≤ X * T ∧ X * T ≤ 36 := by
    rcases (show T = 1 ∨ T = 2 ∨ T = 3 ∨ T = 4 ∨ T = 5 ∨ T = 6 from by omega) with rfl | rfl | rfl | rfl | rfl | rfl <;> omega
  obtain ⟨x0', x1', x2'⟩ := id X0
  go_enter Try.func63, Try.ntmps63
  go_wp2_with fail
  refine (XY.out _).mono ?_
  rintro e w1 ⟨rfl, b1⟩
  have B1 := bl_go (bl_alloc (Below.refl w.heap.size w) _) b1
  obtain ⟨y0', y1', y2'⟩ := X0.belo b1
  have i1 : IntKind.i64.wrap (X * T) = X * T := IntWalk.i64_in _ (by omega)
  have i2 : IntKind.i64.wrap (X * T + T) = X * T + T := IntWalk.i64_in _ (by omega)
  have i3 : IntKind.i64.wrap (X * T + T - 1) = X * T + T - 1 := IntWalk.i64_in _ (by omega)
  have i4 : IntKind.i64.wrap (X * T + T - 1 - Y) = X * T + T - 1 - Y := IntWalk.i64_in _ (by omega)
  clear c1 eX eY
  go_wp2
  go_ret
  exact ⟨ret_i HE.out, B1⟩
end Go.Proofs.Ytnciemnlnijhfaa

/- Contracts: a region put at other places; the program's RegionTurn. -/
namespace Go.Proofs.Ytnciemnlnijhfaa
open Go.RowKit

/-- the first k cells are put -/
def PutT (W T : Int) (bs : List Bool) (k : Nat) (xs : List Bool) : Prop := xs.length = bs.length ∧ (∀ i, i < k → xs.getD (tauZ W T i).toNat false = bs.getD i false) ∧ cnt xs ≤ cnt (bs.take k)
theorem putT_zero (W T : Int) (bs : List Bool) : PutT W T bs 0 (List.replicate bs.length false) := ⟨by simp, fun i hi => by omega, by
    have : ∀ n, cnt (List.replicate n false) = 0 := fun n => by
      induction n with
      | zero => rfl
      | succ n ih => rw [List.replicate_succ', cnt_snoc, ih]; rfl
    rw [this]; exact (cnt_le _).1⟩
theorem cnt_set_up (l : List Bool) (k : Nat) : cnt (l.set k true) ≤ cnt l + 1 := by
  rcases Nat.lt_or_ge k l.length with hk | hk
  · have h1 := cnt_set_le (l.set k true) k
    have h2 := cnt_set_lt (l.set k true) k (by rw [List.length_set]; exact hk) (by simp)
    have h3 : ∀ (l : List Bool) (k : Nat), cnt (l.set k true) ≤ cnt (l.set k false) + 1 := by
      intro l
      induction l with
      | nil => intro k; simp [cnt]
      | cons b l ih => intro k; cases k with
        | zero => simp [cnt]
        | succ k => have := ih k; cases b <;> simp [cnt] at this ⊢ <;> omega
    have h4 := h3 l k
    have h5 := cnt_set_le l k
    omega
  · rw [List.set_eq_of_length_le hk]; omega
theorem putT_step {W T : Int} {bs xs : List Bool} {k : Nat} (hf : Fld W T bs) (h : PutT W T bs k xs) (hk : k < bs.length) : PutT W T bs (k + 1) (xs.set (tauZ W T k).toNat (bs.getD k false)) := by
  obtain ⟨h1, h2, h3⟩ := h
  have hn := hf.n
  have tin := fun i (hi : i < bs.length) => tau_in (W := W) (T := T) (c := (i : Int)) hf.w1 hf.w6 hf.t1 hf.t6 (by omega) (by omega)
  refine ⟨by rw [List.length_set]; exact h1, fun i hi => ?_, ?_⟩
  rotate_left
  · rw [cnt_step _ _ hk, List.getD_eq_getElem?_getD, List.getElem?_eq_getElem hk]
    cases e : bs[k] with
    | true => have := cnt_set_up xs (tauZ W T k).toNat; simp only [Option.getD_some, if_true]; omega
    | false => have := cnt_set_le xs (tauZ W T k).toNat; simp; omega
  obtain ⟨a, b, c⟩ := tin k hk
  rcases Nat.lt_or_ge i k with h | h
  · obtain ⟨a', b', c'⟩ := tin i (by omega)
    rw [getD_set_ne (fun e => by
      have e' : tauZ W T i = tauZ W T k := by omega
      rw [e', c] at c'; omega)]
    exact h2 i h
  · obtain rfl : i = k := by omega
    rw [List.getD_eq_getElem?_getD, List.getElem?_set_self (by omega)]; rfl
theorem putT_all {W T : Int} {bs xs : List Bool} (h : PutT W T bs bs.length xs) : IsTurn W T bs xs := ⟨h.1, h.2.1, by have := h.2.2; rwa [List.take_length] at this⟩
theorem keep1 {w : World} {b o g m : Nat} {u v : Value} (h : ¬ (b = g)) (e : w.cell? ⟨b, o, none⟩ = some v) : (w.setCell ⟨g, m, none⟩ u).cell? ⟨b, o, none⟩ = some v := by
  rw [World.cell?_setCell_other _ _ _ _ (by intro x; injection x with x; omega)]; exact e
set_option maxRecDepth 100000 in
set_option maxHeartbeats 2000000 in
theorem put_turn (W T : Int) (A : Option Addr) (c : Nat) (bs : List Bool) (w : World) (hr : Rd w A (bs.map .bool)) (hf : Fld W T bs) (h36 : bs.length ≤ 36) :
    Calls Try.prog 62 #[.agg #[.int .i64 W, .int .i64 T, .slice A bs.length c], .int .i64 T, .int .i64 W, .func (.func 63) #[.agg #[.int .i64 W, .int .i64 T, .slice A bs.length c]] #[]] w
      fun e w' => ∃ xs, IsTurn W T bs xs ∧ NewRW T W xs w e w' := by
  have hw1 := hf.w1
  have hw6 := hf.w6
  have ht1 := hf.t1
  have ht6 := hf.t6
  have hn := hf.n
  have FD := Lib.hid (fun w => field_any T W bs.length w (by omega) ht6 (by omega) hw6 (by rw [Int.mul_comm]; exact hn.symm))
  have HF := Lib.hid hf
  have CT := Lib.hid (fun (k : Nat) (hk : k < bs.length) (z : World) => turned_any W T (.slice A bs.length c) k z hw1 hw6 ht1 ht6 (by omega) (by omega))
  have TI := Lib.hid (fun (k : Nat) (hk : k < bs.length) => tau_in (W := W) (T := T) (c := (k : Int)) hw1 hw6 ht1 ht6 (by omega) (by omega))
  have HN := Lib.hid hn
  have Z := C3.new w (.int .i64 W) (.int .i64 T) (.slice A bs.length c) 25
  have Z0 := Z.alloc (.cells #[.int .i64 0, .int .i64 0, .slice none 0 0] 25)
  have B0 := bl_alloc (bl_alloc (Below.refl w.heap.size w) (.cells #[.int .i64 W, .int .i64 T, .slice A bs.length c] 25)) (.cells #[.int .i64 0, .int .i64 0, .slice none 0 0] 25)
  have P0 : ((w.alloc (.cells #[.int .i64 W, .int .i64 T, .slice A bs.length c] 25)).alloc (.cells #[.int .i64 0, .int .i64 0, .slice none 0 0] 25)).heap[w.heap.size + 1]? = some (.cells #[.int .i64 0, .int .i64 0, .slice none 0 0] 25 (0, 0)) := by
    have := heap_alloc_new (w.alloc (.cells #[.int .i64 W, .int .i64 T, .slice A bs.length c] 25)) (.cells #[.int .i64 0, .int .i64 0, .slice none 0 0] 25)
    simpa using this
  have hs0 : ((w.alloc (.cells #[.int .i64 W, .int .i64 T, .slice A bs.length c] 25)).alloc (.cells #[.int .i64 0, .int .i64 0, .slice none 0 0] 25)).heap.size = w.heap.size + 2 := by simp
  clear hf hn Z
  go_enter Try.func62, Try.ntmps62
  go_wp2_with fail
  generalize (w.alloc (.cells #[.int .i64 W, .int .i64 T, .slice A bs.length c] 25)).alloc (.cells #[.int .i64 0, .int .i64 0, .slice none 0 0] 25) = wa at *
  refine (FD.out _).mono ?_
  rintro e w1 ⟨B, d, rfl, hw, hb⟩
  simp only [List.length_replicate]
  have Z1 := (Z0.belo hb).alloc (.cells #[.int .i64 T, .int .i64 W, .slice B bs.length d] 25)
  have Y1 := C3.new w1 (.int .i64 T) (.int .i64 W) (.slice B bs.length d) 25
  have Q1 := hw.belo (bl_alloc (Below.refl _ _) (.cells #[.int .i64 T, .int .i64 W, .slice B bs.length d] 25))
  have hsz := hb.size
  have B1 := bl_alloc (bl_go B0 hb) (.cells #[.int .i64 T, .int .i64 W, .slice B bs.length d] 25)
  have P1 := ((bl_alloc (Below.refl w1.heap.size w1) (.cells #[.int .i64 T, .int .i64 W, .slice B bs.length d] 25)).block (w.heap.size + 1) (by omega)).trans ((hb.block (w.heap.size + 1) (by omega)).trans P0)
  have hB : ∀ ad, B = some ad → bs ≠ [] → ad.block < w1.heap.size := fun ad ha hne => hw.rd.lt ha (by simpa using hne)
  obtain ⟨z0, z1, z2⟩ := id Z1
  go_wp2_with fail
  obtain ⟨b9, hb9⟩ : ∃ b9, w1.heap.size = b9 := ⟨_, rfl⟩
  generalize hwb : w1.alloc (.cells #[.int .i64 T, .int .i64 W, .slice B bs.length d] 25) = wb at *
  rw [hb9] at Y1 hsz hB
  simp only [hb9] at *
  clear hwb hw hb z0 z1 z2 B0 Z0
  go_loopw [18] (fun i wr => ∃ (k : Nat) (xs : List Bool), k ≤ bs.length ∧ i = .int .i64 k ∧ PutT W T bs k xs ∧ Wr wr wa.heap.size 4 B (xs.map .bool) ∧ Below w.heap.size w wr ∧ C3 wr w.heap.size (.int .i64 W) (.int .i64 T) (.slice A bs.length c) ∧ C3 wr b9 (.int .i64 T) (.int .i64 W) (.slice B bs.length d) ∧ wr.heap[w.heap.size + 1]? = some (.cells #[.int .i64 0, .int .i64 0, .slice none 0 0] 25 (0, 0))) (fun i _ => bs.length - (intOf i).toNat)
  case atStart => exact ⟨0, List.replicate bs.length false, Nat.zero_le _, rfl, putT_zero W T bs, Q1, B1, Z1, Y1, P1⟩
  case round =>
    clear Q1 B1 Z1 Y1 P1
    obtain ⟨k, xs, hk, rfl, HP, Q1, B1, Z1, Y1, P1⟩ := hrel
    obtain ⟨z0, z1, z2⟩ := id Z1
    obtain ⟨y0, y1, y2⟩ := id Y1
    by_cases hlt : k < bs.length
    · obtain ⟨ad, rfl, hc⟩ := (hr.belo B1).atM hlt
      obtain ⟨t0, t1, t2⟩ := TI.out k hlt
      have hxl := HP.1
      have hne : xs.map Value.bool ≠ [] := by intro e; simp at e; rw [e] at hxl; simp at hxl; omega
      obtain ⟨g, rfl, hlo, hgs, hfr⟩ := Q1.form hne
      have hgb : g < b9 := hB _ rfl (by intro e; rw [e] at hlt; simp at hlt)
      obtain ⟨m, hm⟩ := Int.eq_ofNat_of_zero_le t0
      have hml : m < bs.length := by have := HN.out; omega
      have CT' := Lib.hid (fun z => by have := CT.out k hlt z; rw [hm] at this; exact this)
      have HST := putT_step HF.out HP hlt
      rw [hm, List.getD_eq_getElem?_getD, List.getElem?_eq_getElem hlt] at HST
      obtain ⟨v, hv⟩ : ∃ v, bs[k] = v := ⟨_, rfl⟩
      rw [hv] at hc HST
      simp only [Int.toNat_natCast, Option.getD_some] at HST
      have HST := Lib.hid HST
      obtain ⟨ov, hco⟩ : ∃ ov, wr.cell? ⟨g, m, none⟩ = some ov := ⟨_, by simpa using Q1.rd.cellEM (k := m) (by omega)⟩
      clear hne hv t2 hm CT
      go_wp2_with fail
      have hgn : ¬ (b9 = g) := by omega
      have hf := hfr m
      have mI : (m : Int) < (bs.length : Int) := by omega
      go_region_held3 (fun w' => w'.cell? ⟨b9, 2, none⟩ = some (.slice (some ⟨g, 0, none⟩) bs.length d))
        (first | (with_reducible exact y2) | (with_reducible exact dr_cell y2) | (with_reducible exact y5) | (with_reducible exact keep1 hgn y5) | go_keep)
        ((go_at_call 63; refine (CT'.out _).mono ?_; rintro e w5 ⟨rfl, b5⟩; have y5 := kb1 b5 y2; have q5 := (Q1.belo (Below.refl wr.heap.size wr).drew).belo b5; have c5 := kb1 b5 hco; have fr5 : w5.frozen? ⟨g, m, none⟩ = false := by (obtain ⟨g', e', -, -, h'⟩ := q5.form (by intro e; simp at e; rw [e] at hxl; simp at hxl; omega); injection e' with e'; injection e' with e' _ _; rw [e']; exact h' m)))
      have X0' := Lib.hid (And.intro ((Z1.belo (Below.refl wr.heap.size wr).drew).belo b5) ((Y1.belo (Below.refl wr.heap.size wr).drew).belo b5))
      go_wp2_with fail
      refine ⟨⟨k + 1, xs.set m v, by omega, by go_num, HST.out, ?_, ?_, ?_, ?_, ?_⟩, by simp [intOf]; omega⟩
      · rw [List.map_set]; exact q5.store m (.bool v)
      · exact (bl_go B1 (bl_go (Below.refl wr.heap.size wr).drew b5)).setCell (by show w.heap.size ≤ g; omega) _
      · exact X0'.out.1.set (by show ¬ (g = w.heap.size); omega) _
      · exact X0'.out.2.set (by show ¬ (g = b9); omega) _
      · rw [Below.heap_setCell _ _ _ _ (by show ¬ (w.heap.size + 1 = g); omega)]
        exact ((bl_go (Below.refl wr.heap.size wr).drew b5).block _ (by omega)).trans P1
    · obtain rfl : k = bs.length := by omega
      have HT := Lib.hid (putT_all HP)
      have hl := HP.1
      obtain ⟨g0, g1, g2, f0, f1, f2⟩ := blk3 P1
      go_wp2_with fail
      refine bodyPost_ret (v := .agg #[.int .i64 T, .int .i64 W, .slice B bs.length d]) (by simp [results, Try.results62, go_sem, g0, g1, g2]) rfl ?_
      refine ⟨xs, HT.out, B, d, by rw [hl], ?_, ?_⟩
      · refine (Q1.lower (lo' := w.heap.size) (by omega)).keep fun g hg hg2 => ?_
        have hlo := Q1.1 _ hg
        simp only at hlo
        rw [Below.heap_setCell _ _ _ _ (by simp; omega), Below.heap_setCell _ _ _ _ (by simp; omega), Below.heap_setCell _ _ _ _ (by simp; omega)]
      · exact ((B1.setCell (p := ⟨w.heap.size + 1, 0, none⟩) (by show w.heap.size ≤ w.heap.size + 1; omega) _).setCell (p := ⟨w.heap.size + 1, 1, none⟩) (by show w.heap.size ≤ w.heap.size + 1; omega) _).setCell (p := ⟨w.heap.size + 1, 2, none⟩) (by show w.heap.size ≤ w.heap.size + 1; omega) _
end Go.Proofs.Ytnciemnlnijhfaa

/- Contract: the program's RegionTurn, of a valid region. -/
namespace Go.Proofs.Ytnciemnlnijhfaa
open Go.RowKit

set_option maxRecDepth 100000 in
set_option maxHeartbeats 2000000 in
theorem iRegionTurn_ok (W T : Int) (A : Option Addr) (c : Nat) (bs : List Bool) (w : World) (hr : Rd w A (bs.map .bool)) (hv : validB W T bs = true) :
    Calls Try.prog 15 #[.agg #[.int .i64 W, .int .i64 T, .slice A bs.length c]] w fun e w' => ∃ xs, IsTurn W T bs xs ∧ NewRW T W xs w e w' := by
  obtain ⟨h1, h2, h3, h4, h5, h6⟩ := valid_len hv
  have CP := Lib.hid (fun (z : World) (R : Rd z A (bs.map .bool)) => put_turn W T A c bs z R ⟨h1, h2, h3, h4, h6⟩ h5)
  have HV := Lib.hid hv
  have Z := C3.new w (.int .i64 W) (.int .i64 T) (.slice A bs.length c) 25
  have Z0 := Z.alloc (.cells #[.int .i64 0, .int .i64 0, .slice none 0 0] 25)
  have R0 := (hr.alloc (.cells #[.int .i64 W, .int .i64 T, .slice A bs.length c] 25)).alloc (.cells #[.int .i64 0, .int .i64 0, .slice none 0 0] 25)
  have B0 := bl_alloc (bl_alloc (Below.refl w.heap.size w) (.cells #[.int .i64 W, .int .i64 T, .slice A bs.length c] 25)) (.cells #[.int .i64 0, .int .i64 0, .slice none 0 0] 25)
  have P0 : ((w.alloc (.cells #[.int .i64 W, .int .i64 T, .slice A bs.length c] 25)).alloc (.cells #[.int .i64 0, .int .i64 0, .slice none 0 0] 25)).heap[w.heap.size + 1]? = some (.cells #[.int .i64 0, .int .i64 0, .slice none 0 0] 25 (0, 0)) := by
    have := heap_alloc_new (w.alloc (.cells #[.int .i64 W, .int .i64 T, .slice A bs.length c] 25)) (.cells #[.int .i64 0, .int .i64 0, .slice none 0 0] 25)
    simpa using this
  have hs0 : ((w.alloc (.cells #[.int .i64 W, .int .i64 T, .slice A bs.length c] 25)).alloc (.cells #[.int .i64 0, .int .i64 0, .slice none 0 0] 25)).heap.size = w.heap.size + 2 := by simp
  have hm : bs.length ≤ maxLen := by unfold maxLen; omega
  clear hv h6 Z
  go_enter Try.func15, Try.ntmps15
  go_wp2_with fail
  generalize (w.alloc (.cells #[.int .i64 W, .int .i64 T, .slice A bs.length c] 25)).alloc (.cells #[.int .i64 0, .int .i64 0, .slice none 0 0] 25) = wa at *
  refine (iRegionValid_any _ _ _ _ _ _ R0 hm).mono ?_
  rintro e w1 ⟨rfl, b1⟩
  rw [HV.out]
  have R1 := R0.belo b1
  have Z1 := Z0.belo b1
  have B1 := bl_go B0 b1
  have P1 := (b1.block (w.heap.size + 1) (by omega)).trans P0
  have hs1 := b1.size
  obtain ⟨z0, z1, z2⟩ := id Z1
  go_wp2_with fail
  refine (CP.out _ R1).mono ?_
  rintro e w2 ⟨xs, HT, B, d, rfl, q2, b2⟩
  have P2 := (b2.block (w.heap.size + 1) (by omega)).trans P1
  obtain ⟨g0, g1, g2, f0, f1, f2⟩ := blk3 P2
  have B2 := bl_go B1 b2
  go_wp2_with fail
  refine bodyPost_ret (v := .agg #[.int .i64 T, .int .i64 W, .slice B xs.length d]) (by simp [results, Try.results15, go_sem, g0, g1, g2]) rfl ?_
  refine ⟨xs, HT, B, d, rfl, ?_, ?_⟩
  · refine (q2.lower (lo' := w.heap.size) (by omega)).keep fun g hg hg2 => ?_
    have hlo := q2.1 _ hg
    simp only at hlo
    rw [Below.heap_setCell _ _ _ _ (by simp; omega), Below.heap_setCell _ _ _ _ (by simp; omega), Below.heap_setCell _ _ _ _ (by simp; omega)]
  · exact ((B2.setCell (p := ⟨w.heap.size + 1, 0, none⟩) (by show w.heap.size ≤ w.heap.size + 1; omega) _).setCell (p := ⟨w.heap.size + 1, 1, none⟩) (by show w.heap.size ≤ w.heap.size + 1; omega) _).setCell (p := ⟨w.heap.size + 1, 2, none⟩) (by show w.heap.size ≤ w.heap.size + 1; omega) _
end Go.Proofs.Ytnciemnlnijhfaa

/- What the law FnBarsMany asks, plainly. -/
namespace Go.Proofs.Ytnciemnlnijhfaa
open Go.RowKit

theorem box_some : ∀ W ∈ [1,2,3,4,5,6], ∀ T ∈ [1,2,3,4,5,6], W * T ≤ 24 → ∀ L ∈ [1,2,3,4], (W % L = 0 ∨ T % L = 0) → 0 < barsN (W : Nat) (T : Nat) L 24 (List.replicate (W * T) true) := by decide +kernel
theorem box_none : ∀ W ∈ [1,2,3,4,5,6], ∀ T ∈ [1,2,3,4,5,6], W * T ≤ 24 → ∀ L ∈ [1,2,3,4], ¬ (W % L = 0 ∨ T % L = 0) → ∃ r ∈ List.range L, colN (W : Nat) (L : Nat) (r : Nat) (List.replicate (W * T) true) ≠ colN (W : Nat) (L : Nat) 0 (List.replicate (W * T) true) := by decide +kernel
theorem cnt_full {bs : List Bool} {n : Nat} (h : cnt bs = bs.length) (hl : bs.length = n) : bs = List.replicate n true := by
  rw [List.eq_replicate_iff]
  refine ⟨hl, fun b hb => ?_⟩
  unfold cnt at h
  have := (List.length_filter_eq_length_iff (p := id) (l := bs)).1 (by omega) b hb
  simpa using this
theorem box_law {W T : Nat} {L : Nat} (hW : W ∈ [1,2,3,4,5,6]) (hT : T ∈ [1,2,3,4,5,6]) (hL : L ∈ [1,2,3,4]) {bs : List Bool} (hl : bs.length = W * T) (hc : cnt bs = bs.length) (h24 : cnt bs ≤ 24) :
    0 < barsN W T L 24 bs ↔ (W % L = 0 ∨ T % L = 0) := by
  have e := cnt_full hc hl
  have h24' : W * T ≤ 24 := by omega
  constructor
  · intro hp
    apply Decidable.byContradiction
    intro hn
    obtain ⟨r, hr, hne⟩ := box_none W hW T hT h24' L hL hn
    have b := bars_col (W := W) (T := T) (long := L) (by simp at hW; omega) (by simp at hW; omega) (by simp at hL; omega) (by simp at hL; omega) 24 bs (by omega) (by omega) r (by omega) (by have := List.mem_range.1 hr; omega)
    rw [e] at b
    exact hne b
  · intro h
    rw [e]
    exact box_some W hW T hT h24' L hL h
theorem sg_tau {W T k : Nat} (hk : k < W * T) (hW : 1 ≤ W) : (tauZ W T k).toNat = sgB W T k := by
  unfold tauZ sgB
  rw [if_pos hk]
  have b : k / W < T := by rw [Nat.div_lt_iff_lt_mul hW]; rw [Nat.mul_comm]; exact hk
  have e1 : ((k : Int) % (W : Int)) = ((k % W : Nat) : Int) := by simp
  have e2 : ((k : Int) / (W : Int)) = ((k / W : Nat) : Int) := by simp
  rw [e1, e2]
  generalize k % W = a at *
  generalize k / W = b at *
  have e3 : ((a : Int) * (T : Int)) = ((a * T : Nat) : Int) := by simp
  rw [e3]
  omega
theorem cov_ext (n : Nat) (Ps : List (List Nat)) {S S' : Nat → Bool} (h : ∀ k, S k = S' k) : covN n Ps S = covN n Ps S' := by rw [show S = S' from funext h]
theorem bars_turn {W T L : Nat} (hW : W ∈ [1,2,3,4,5,6]) (hT : T ∈ [1,2,3,4,5,6]) (hL : L ∈ [1,2,3,4]) {bs xs : List Bool} (hl : bs.length = W * T) (h24 : cnt bs ≤ 24) (h : IsTurn (W : Int) (T : Int) bs xs) :
    barsN T W L 24 xs = barsN W T L 24 bs := by
  have w1 : 1 ≤ W := by simp at hW; omega
  have w6 : W ≤ 6 := by simp at hW; omega
  have t1 : 1 ≤ T := by simp at hT; omega
  have t6 : T ≤ 6 := by simp at hT; omega
  have l1 : 1 ≤ L := by simp at hL; omega
  have hn : T * W = W * T := Nat.mul_comm _ _
  have hxl : xs.length = W * T := h.len.trans hl
  rw [bars_cov t1 t6 l1 24 xs (by rw [hn]; exact hxl) (by have := h.cn; omega), bars_cov w1 w6 l1 24 bs hl (by omega), hn]
  congr 1
  obtain ⟨s1, s2, s3⟩ := sg_ok W hW T hT
  have slt : ∀ k, k < W * T → sgB W T k < W * T := fun k hk => s1 k (List.mem_range.2 hk)
  have sge : ∀ k, ¬ k < W * T → sgB W T k = k := fun k hk => by unfold sgB; rw [if_neg hk]
  have inj : ∀ a b, sgB W T a = sgB W T b → a = b := by
    intro a b e
    by_cases ha : a < W * T <;> by_cases hb : b < W * T
    · exact s3 a (List.mem_range.2 ha) b (List.mem_range.2 hb) e
    · have := slt a ha; rw [e, sge b hb] at this; exact absurd this hb
    · have := slt b hb; rw [← e, sge a ha] at this; exact absurd this ha
    · rw [sge a ha, sge b hb] at e; exact e
  have on : ∀ j, j < W * T → ∃ k, k < W * T ∧ sgB W T k = j := fun j hj => by
    obtain ⟨k, hk, e⟩ := s2 j (List.mem_range.2 hj)
    exact ⟨k, List.mem_range.1 hk, e⟩
  have hS : ∀ k, bs.getD k false = xs.getD (sgB W T k) false := fun k => by
    by_cases hk : k < W * T
    · rw [← h.at_ k (by omega), sg_tau hk w1]
    · rw [sge k hk, List.getD_eq_getElem?_getD, List.getElem?_eq_none (by omega), List.getD_eq_getElem?_getD, List.getElem?_eq_none (by omega)]
  have hmem : ∀ (P : List Nat) (k : Nat), k ∈ upP P ↔ k ∈ P := fun P k => by unfold upP; split <;> simp
  have e1 := cov_same (W * T) hmem ((allB W T L).map fun P => P.map (sgB W T)) (fun k => xs.getD k false)
  rw [cov_ext _ _ hS, ← cov_map inj slt on (allB W T L) (fun k => xs.getD k false), ← e1, List.map_map]
  exact cov_perm _ (List.isPerm_iff.1 (perm_b W hW T hT L hL)) _
theorem mem6 {n : Nat} (h1 : 1 ≤ n) (h2 : n ≤ 6) : n ∈ [1,2,3,4,5,6] := by simp; omega
theorem mem4 {n : Nat} (h1 : 1 ≤ n) (h2 : n ≤ 4) : n ∈ [1,2,3,4] := by simp; omega
/-- what the law asks -/
theorem bars_law {W T long : Int} {bs : List Bool} (hv : validB W T bs = true) (l1 : 1 ≤ long) (l4 : long ≤ 4) : ∃ n : Int, barsOf W T bs long = n ∧ 0 ≤ n ∧ n ≤ 16777216 ∧ cellsMany W T bs = cnt bs ∧
    (cnt bs = W * T → (0 < n ↔ W.tmod long = 0 ∨ T.tmod long = 0)) ∧ (long = 2 → tilZ W T bs = n) ∧ (long = 1 → n = 1) ∧ ∀ xs, IsTurn W T bs xs → barsOf T W xs long = n := by
  obtain ⟨h1, h2, h3, h4, h5, h6⟩ := valid_len hv
  have h24 := (validB_iff.1 hv).2.2.2
  obtain ⟨w, rfl⟩ := Int.eq_ofNat_of_zero_le (show 0 ≤ W by omega)
  obtain ⟨t, rfl⟩ := Int.eq_ofNat_of_zero_le (show 0 ≤ T by omega)
  obtain ⟨l, rfl⟩ := Int.eq_ofNat_of_zero_le (show 0 ≤ long by omega)
  have hl : bs.length = w * t := by
    have : ((w * t : Nat) : Int) = (w : Int) * (t : Int) := by simp
    omega
  have bd := barsN_bd w t l 24 bs
  have e24 : (2 : Int) ^ 24 = 16777216 := by decide
  refine ⟨barsN w t l 24 bs, barsOf_ok hv l1 l4, bd.1, by omega, by unfold cellsMany; rw [if_pos hv], fun hc => ?_, fun e => ?_, fun e => ?_, fun xs h => ?_⟩
  · rw [box_law (mem6 (by omega) (by omega)) (mem6 (by omega) (by omega)) (mem4 (by omega) (by omega)) hl (by omega) h24]
    have e1 : ((w : Int).tmod (l : Int)) = ((w % l : Nat) : Int) := by rw [Int.tmod_eq_emod_of_nonneg (by omega)]; simp
    have e2 : ((t : Int).tmod (l : Int)) = ((t % l : Nat) : Int) := by rw [Int.tmod_eq_emod_of_nonneg (by omega)]; simp
    rw [e1, e2]; omega
  · obtain rfl : l = 2 := by omega
    unfold tilZ; rw [if_pos hv]; rfl
  · obtain rfl : l = 1 := by omega
    exact bars_one _ _ _ _ (by omega)
  · have e4 : validB t w xs = true := by
      rw [validB_iff] at hv ⊢
      have := h.cn
      exact ⟨hv.2.1, hv.1, by rw [h.len, Int.mul_comm]; exact hv.2.2.1, by omega⟩
    rw [barsOf_ok e4 l1 l4]
    exact bars_turn (mem6 (by omega) (by omega)) (mem6 (by omega) (by omega)) (mem4 (by omega) (by omega)) hl h24 h
end Go.Proofs.Ytnciemnlnijhfaa

/- The walk of the law FnBarsMany. -/
namespace Go.Proofs.Ytnciemnlnijhfaa
open Go.RowKit

theorem c3sB {w : World} {b : Nat} {x y z : Value} (h : C3 w b x y z) : w.cell? ⟨b, 0, none⟩ = some x ∧ w.cell? ⟨b, 1, none⟩ = some y ∧ w.cell? ⟨b, 2, none⟩ = some z := h
theorem bl_drewB {B : Nat} {a w : World} (h : Below B a w) : Below B a w.drew := ⟨h.os, h.tape, h.output, h.size, h.block⟩
set_option maxRecDepth 100000 in
set_option maxHeartbeats 4000000 in
theorem fnBarsMany_walk {w0 : World} (A : Option Addr) (c : Nat) (bs : List Int) (hcap : bs.length ≤ c) (hm : bs.length ≤ maxLen) (hr : Rd w0 A (bs.map (.int .u8))) (hw : ∀ n ∈ bs, 0 ≤ n ∧ n ≤ 255) :
    Calls Try.prog 8 #[.slice A bs.length c] w0 fun e w' => e = .returned (.bool true) ∧ Below w0.heap.size w0 w' := by
  have HW := Lib.hid hw
  clear hw
  unfold maxLen at hm
  by_cases hn : bs.length ≤ 1048576
  · have hg : decide ((1048576 : Int) < (bs.length : Int)) = false := by simp; omega
    go_enter Try.func8, Try.ntmps8
    go_wp2_with fail
    refine (drawBarsMany_any A c bs _ hr HW.out hn hcap).mono ?_
    rintro e w1 ⟨W, T, xs, B, k, long, rfl, R1, hl1, ⟨q1, q2⟩, B1⟩
    clear hg hn hm hr HW hcap
    have hmx : xs.length ≤ maxLen := by unfold maxLen; omega
    have cI := fun (z : World) (R : Rd z B (xs.map .bool)) => iBarsMany_any W T long B k xs z R hmx
    have cS := fun (z : World) (R : Rd z B (xs.map .bool)) => sBarsMany_any W T long B k xs z R hmx
    have R2 := R1.alloc (.cells #[.int .i64 W, .int .i64 T, .slice B xs.length k] 25)
    have B2 := bl_alloc B1 (.cells #[.int .i64 W, .int .i64 T, .slice B xs.length k] 25)
    have X2 := C3.new w1 (.int .i64 W) (.int .i64 T) (.slice B xs.length k) 25
    clear R1 B1
    go_wp2_with fail
    generalize w1.alloc (.cells #[.int .i64 W, .int .i64 T, .slice B xs.length k] 25) = w2 at *
    generalize w1.heap.size = bx at *
    by_cases hv : validB W T xs = true ∧ 1 ≤ long ∧ long ≤ 4
    · obtain ⟨hv, l1, l4⟩ := hv
      obtain ⟨n, hne, n0, n1, hce, hbox, h2, h1, htu⟩ := bars_law hv l1 l4
      have hwt := valid_len hv
      rw [hne] at cI cS
      have CI := Lib.hid cI
      have CS := Lib.hid cS
      have CT := Lib.hid (fun (z : World) (R : Rd z B (xs.map .bool)) => iTilingsMany_any W T B k xs z R hmx)
      have CC := Lib.hid (fun (z : World) (R : Rd z B (xs.map .bool)) => iCellsMany_any W T B k xs z R hmx)
      rw [hce] at CC
      have CR := Lib.hid (fun (z : World) (R : Rd z B (xs.map .bool)) => iRegionTurn_ok W T B k xs z R hv)
      have HT := Lib.hid htu
      obtain ⟨m1, m2⟩ := mul_bd hwt.1 hwt.2.1 hwt.2.2.1 hwt.2.2.2.1
      have hsl := hwt.2.2.2.2.1
      have w1' := hwt.1
      have t1' := hwt.2.2.1
      clear cI cS hce htu hv hne hwt
      generalize tilZ W T xs = t at *
      generalize cnt xs = cc at *
      obtain ⟨x0, x1, x2⟩ := id X2
      have hnn : (n != n) = false := by simp
      have hlt : decide (n < 0) = false := by simp; omega
      refine (CI.out _ R2).mono ?_
      rintro e w3 ⟨rfl, b3⟩
      have R3 := R2.belo b3
      have B3 := bl_go B2 b3
      have X3 := X2.belo b3
      clear R2 B2 X2 b3 x0 x1 x2
      obtain ⟨x0, x1, x2⟩ := id X3
      go_wp2_with fail
      refine (CS.out _ R3).mono ?_
      rintro e w4 ⟨rfl, b4⟩
      have R4 := R3.belo b4
      have B4 := bl_go B3 b4
      have X4 := X3.belo b4
      clear R3 B3 X3 b4 x0 x1 x2 CI CS
      obtain ⟨x0, x1, x2⟩ := id X4
      have Y4 := c3sB X4.drew
      have B4d : Below w0.heap.size w0 w4.drew := bl_drewB B4
      have key : ∀ b : Bool, (cc == W * T) = b → (b = true → decide (0 < n) = ((W.tmod long == 0) || (T.tmod long == 0))) := by
        intro b hb hbt
        subst hbt
        have hc : cc = W * T := by simpa using hb
        have := hbox hc
        by_cases h0 : 0 < n
        · rcases this.1 h0 with h | h <;> simp [h0, h]
        · have hx : ¬ (W.tmod long = 0 ∨ T.tmod long = 0) := fun e => h0 (this.2 e)
          simp [h0]; omega
      have e1W : W.tmod long = W % long := Int.tmod_eq_emod_of_nonneg (by omega)
      have e1T : T.tmod long = T % long := Int.tmod_eq_emod_of_nonneg (by omega)
      rw [e1W, e1T] at key
      have KEY := Lib.hid key
      clear key hbox
      have hl0 : ¬ long = 0 := by omega
      have hwrap : IntKind.i64.wrap (W * T) = W * T := IntWalk.i64_in _ (by omega)
      clear hwrap Y4 B4d
      have L0 : ∀ z : BW w4, z.wo.cell? ⟨bx, 0, none⟩ = some (.int .i64 W) := fun z => (X4.belo z.ok).1
      have L1 : ∀ z : BW w4, z.wo.cell? ⟨bx, 1, none⟩ = some (.int .i64 T) := fun z => (X4.belo z.ok).2.1
      have L2 : ∀ z : BW w4, z.wo.cell? ⟨bx, 2, none⟩ = some (.slice B xs.length k) := fun z => (X4.belo z.ok).2.2
      have hwrap : IntKind.i64.wrap (W * T) = W * T := IntWalk.i64_in _ (by omega)
      cases hb : (cc == W * T) with
      | true =>
        have k0 := KEY.out true hb rfl
        clear KEY
        cases hw1 : (W % long == 0) with
        | true =>
          rw [hw1, Bool.true_or] at k0
          go_wp2_with fail
          (refine region_bw (by kernel_rfl) (by kernel_rfl) ?_; (repeat (first | go_big_quiet_skip | (go_big_quiet_want; go_big_quiet_op; first | go_big_quiet_on | (refine ⟨.int .i64 cc, fun zz => ?_, ?_⟩; (go_at_call 17; with_reducible exact zz.on (CC.out _ (R4.belo zz.ok))); go_big_quiet_on)))); refine wpQuiet_nil ?_; intro wz hw'; obtain ⟨zw, hw''⟩ := hw'; subst hw'')
          have R5 := R4.belo zw.ok
          have X5 := X4.belo zw.ok
          have B5 := bl_go B4 zw.ok
          clear L0 L1 L2 x0 x1 x2 R4 X4 B4
          obtain ⟨x0, x1, x2⟩ := id X5
          generalize zw.wo = w5 at *
          clear zw hwrap
          by_cases h2' : long = 2
          · have ht := h2 h2'
            subst h2'
            have htn : (n == t) = true := by rw [ht]; simp
            clear ht h1 h2
            go_wp2_with fail
            refine (CT.out _ R5).mono ?_
            rintro e w6 ⟨rfl, b6⟩
            have R6 := R5.belo b6
            have X6 := X5.belo b6
            have B6 := bl_go B5 b6
            clear x0 x1 x2
            obtain ⟨x0, x1, x2⟩ := id X6
            go_wp2_with fail
            refine (CR.out _ R6).mono ?_
            rintro e w7 ⟨zs, hz, A7, c7, rfl, q7, b7⟩
            have hzv := HT.out zs hz
            have CL := Lib.hid (fun (z : World) (R : Rd z A7 (zs.map .bool)) => iBarsMany_any T W 2 A7 c7 zs z R (by have := hz.len; omega))
            rw [hzv] at CL
            have B7 := bl_go B6 b7
            clear hz hzv
            go_wp2_with fail
            refine (CL.out _ q7.rd).mono ?_
            rintro e w8 ⟨rfl, b8⟩
            have hnn : (n == n) = true := by simp
            go_wp2
            go_ret
            exact ⟨rfl, bl_go B7 b8⟩
          · have hne2 : (long != 2) = true := by simpa using h2'
            by_cases h1' : long = 1
            · have ht := h1 h1'
              subst h1'
              have hn1 : (n == 1) = true := by rw [ht]; rfl
              have HT1 := Lib.hid ht
              clear ht h1 h2
              go_wp2_with fail
              refine (CR.out _ R5).mono ?_
              rintro e w7 ⟨zs, hz, A7, c7, rfl, q7, b7⟩
              have hzv := HT.out zs hz
              have CL := Lib.hid (fun (z : World) (R : Rd z A7 (zs.map .bool)) => iBarsMany_any T W 1 A7 c7 zs z R (by have := hz.len; omega))
              rw [hzv] at CL
              have B7 := bl_go B5 b7
              clear hz hzv
              go_wp2_with fail
              refine (CL.out _ q7.rd).mono ?_
              rintro e w8 ⟨rfl, b8⟩
              have hnn : (n == n) = true := by simp
              go_wp2
              go_ret
              exact ⟨rfl, bl_go B7 b8⟩
            · have hne1 : (long != 1) = true := by simpa using h1'
              clear h1 h2
              go_wp2_with fail
              refine (CR.out _ R5).mono ?_
              rintro e w7 ⟨zs, hz, A7, c7, rfl, q7, b7⟩
              have hzv := HT.out zs hz
              have CL := Lib.hid (fun (z : World) (R : Rd z A7 (zs.map .bool)) => iBarsMany_any T W long A7 c7 zs z R (by have := hz.len; omega))
              rw [hzv] at CL
              have B7 := bl_go B5 b7
              clear hz hzv
              go_wp2_with fail
              refine (CL.out _ q7.rd).mono ?_
              rintro e w8 ⟨rfl, b8⟩
              have hnn : (n == n) = true := by simp
              go_wp2
              go_ret
              exact ⟨rfl, bl_go B7 b8⟩
        | false =>
          rw [hw1, Bool.false_or] at k0
          go_wp2_with fail
          (refine region_bw (by kernel_rfl) (by kernel_rfl) ?_; (repeat (first | go_big_quiet_skip | (go_big_quiet_want; go_big_quiet_op; first | go_big_quiet_on | (refine ⟨.int .i64 cc, fun zz => ?_, ?_⟩; (go_at_call 17; with_reducible exact zz.on (CC.out _ (R4.belo zz.ok))); go_big_quiet_on)))); refine wpQuiet_nil ?_; intro wz hw'; obtain ⟨zw, hw''⟩ := hw'; subst hw'')
          have R5 := R4.belo zw.ok
          have X5 := X4.belo zw.ok
          have B5 := bl_go B4 zw.ok
          clear L0 L1 L2 x0 x1 x2 R4 X4 B4
          obtain ⟨x0, x1, x2⟩ := id X5
          generalize zw.wo = w5 at *
          clear zw hwrap
          by_cases h2' : long = 2
          · have ht := h2 h2'
            subst h2'
            have htn : (n == t) = true := by rw [ht]; simp
            clear ht h1 h2
            go_wp2_with fail
            refine (CT.out _ R5).mono ?_
            rintro e w6 ⟨rfl, b6⟩
            have R6 := R5.belo b6
            have X6 := X5.belo b6
            have B6 := bl_go B5 b6
            clear x0 x1 x2
            obtain ⟨x0, x1, x2⟩ := id X6
            go_wp2_with fail
            refine (CR.out _ R6).mono ?_
            rintro e w7 ⟨zs, hz, A7, c7, rfl, q7, b7⟩
            have hzv := HT.out zs hz
            have CL := Lib.hid (fun (z : World) (R : Rd z A7 (zs.map .bool)) => iBarsMany_any T W 2 A7 c7 zs z R (by have := hz.len; omega))
            rw [hzv] at CL
            have B7 := bl_go B6 b7
            clear hz hzv
            go_wp2_with fail
            refine (CL.out _ q7.rd).mono ?_
            rintro e w8 ⟨rfl, b8⟩
            have hnn : (n == n) = true := by simp
            go_wp2
            go_ret
            exact ⟨rfl, bl_go B7 b8⟩
          · have hne2 : (long != 2) = true := by simpa using h2'
            by_cases h1' : long = 1
            · have ht := h1 h1'
              subst h1'
              have hn1 : (n == 1) = true := by rw [ht]; rfl
              have HT1 := Lib.hid ht
              clear ht h1 h2
              go_wp2_with fail
              refine (CR.out _ R5).mono ?_
              rintro e w7 ⟨zs, hz, A7, c7, rfl, q7, b7⟩
              have hzv := HT.out zs hz
              have CL := Lib.hid (fun (z : World) (R : Rd z A7 (zs.map .bool)) => iBarsMany_any T W 1 A7 c7 zs z R (by have := hz.len; omega))
              rw [hzv] at CL
              have B7 := bl_go B5 b7
              clear hz hzv
              go_wp2_with fail
              refine (CL.out _ q7.rd).mono ?_
              rintro e w8 ⟨rfl, b8⟩
              have hnn : (n == n) = true := by simp
              go_wp2
              go_ret
              exact ⟨rfl, bl_go B7 b8⟩
            · have hne1 : (long != 1) = true := by simpa using h1'
              clear h1 h2
              go_wp2_with fail
              refine (CR.out _ R5).mono ?_
              rintro e w7 ⟨zs, hz, A7, c7, rfl, q7, b7⟩
              have hzv := HT.out zs hz
              have CL := Lib.hid (fun (z : World) (R : Rd z A7 (zs.map .bool)) => iBarsMany_any T W long A7 c7 zs z R (by have := hz.len; omega))
              rw [hzv] at CL
              have B7 := bl_go B5 b7
              clear hz hzv
              go_wp2_with fail
              refine (CL.out _ q7.rd).mono ?_
              rintro e w8 ⟨rfl, b8⟩
              have hnn : (n == n) = true := by simp
              go_wp2
              go_ret
              exact ⟨rfl, bl_go B7 b8⟩
      | false =>
        clear KEY
        go_wp2_with fail
        (refine region_bw (by kernel_rfl) (by kernel_rfl) ?_; (repeat (first | go_big_quiet_skip | (go_big_quiet_want; go_big_quiet_op; first | go_big_quiet_on | (refine ⟨.int .i64 cc, fun zz => ?_, ?_⟩; (go_at_call 17; with_reducible exact zz.on (CC.out _ (R4.belo zz.ok))); go_big_quiet_on)))); refine wpQuiet_nil ?_; intro wz hw'; obtain ⟨zw, hw''⟩ := hw'; subst hw'')
        have R5 := R4.belo zw.ok
        have X5 := X4.belo zw.ok
        have B5 := bl_go B4 zw.ok
        clear L0 L1 L2 x0 x1 x2 R4 X4 B4
        obtain ⟨x0, x1, x2⟩ := id X5
        generalize zw.wo = w5 at *
        clear zw hwrap
        by_cases h2' : long = 2
        · have ht := h2 h2'
          subst h2'
          have htn : (n == t) = true := by rw [ht]; simp
          clear ht h1 h2
          go_wp2_with fail
          refine (CT.out _ R5).mono ?_
          rintro e w6 ⟨rfl, b6⟩
          have R6 := R5.belo b6
          have X6 := X5.belo b6
          have B6 := bl_go B5 b6
          clear x0 x1 x2
          obtain ⟨x0, x1, x2⟩ := id X6
          go_wp2_with fail
          refine (CR.out _ R6).mono ?_
          rintro e w7 ⟨zs, hz, A7, c7, rfl, q7, b7⟩
          have hzv := HT.out zs hz
          have CL := Lib.hid (fun (z : World) (R : Rd z A7 (zs.map .bool)) => iBarsMany_any T W 2 A7 c7 zs z R (by have := hz.len; omega))
          rw [hzv] at CL
          have B7 := bl_go B6 b7
          clear hz hzv
          go_wp2_with fail
          refine (CL.out _ q7.rd).mono ?_
          rintro e w8 ⟨rfl, b8⟩
          have hnn : (n == n) = true := by simp
          go_wp2
          go_ret
          exact ⟨rfl, bl_go B7 b8⟩
        · have hne2 : (long != 2) = true := by simpa using h2'
          by_cases h1' : long = 1
          · have ht := h1 h1'
            subst h1'
            have hn1 : (n == 1) = true := by rw [ht]; rfl
            have HT1 := Lib.hid ht
            clear ht h1 h2
            go_wp2_with fail
            refine (CR.out _ R5).mono ?_
            rintro e w7 ⟨zs, hz, A7, c7, rfl, q7, b7⟩
            have hzv := HT.out zs hz
            have CL := Lib.hid (fun (z : World) (R : Rd z A7 (zs.map .bool)) => iBarsMany_any T W 1 A7 c7 zs z R (by have := hz.len; omega))
            rw [hzv] at CL
            have B7 := bl_go B5 b7
            clear hz hzv
            go_wp2_with fail
            refine (CL.out _ q7.rd).mono ?_
            rintro e w8 ⟨rfl, b8⟩
            have hnn : (n == n) = true := by simp
            go_wp2
            go_ret
            exact ⟨rfl, bl_go B7 b8⟩
          · have hne1 : (long != 1) = true := by simpa using h1'
            clear h1 h2
            go_wp2_with fail
            refine (CR.out _ R5).mono ?_
            rintro e w7 ⟨zs, hz, A7, c7, rfl, q7, b7⟩
            have hzv := HT.out zs hz
            have CL := Lib.hid (fun (z : World) (R : Rd z A7 (zs.map .bool)) => iBarsMany_any T W long A7 c7 zs z R (by have := hz.len; omega))
            rw [hzv] at CL
            have B7 := bl_go B5 b7
            clear hz hzv
            go_wp2_with fail
            refine (CL.out _ q7.rd).mono ?_
            rintro e w8 ⟨rfl, b8⟩
            have hnn : (n == n) = true := by simp
            go_wp2
            go_ret
            exact ⟨rfl, bl_go B7 b8⟩
    · have hMe := barsOf_no hv
      rw [hMe] at cI cS
      clear hMe hv
      have CI := Lib.hid cI
      have CS := Lib.hid cS
      clear cI cS
      obtain ⟨x0, x1, x2⟩ := id X2
      refine (CI.out _ R2).mono ?_
      rintro e w3 ⟨rfl, b3⟩
      have R3 := R2.belo b3
      have B3 := bl_go B2 b3
      have X3 := X2.belo b3
      clear R2 B2 X2 b3 x0 x1 x2
      obtain ⟨x0, x1, x2⟩ := id X3
      go_wp2_with fail
      refine (CS.out _ R3).mono ?_
      rintro e w4 ⟨rfl, b4⟩
      have B4 := bl_go B3 b4
      clear x0 x1 x2
      go_wp2_with (go_at_call 13; refine (alive_any _).mono ?_; rintro e w7 ⟨rfl, b7⟩)
      go_ret
      exact ⟨rfl, bl_go B4 b7⟩
  · have hg : decide ((1048576 : Int) < (bs.length : Int)) = true := by simp; omega
    go_enter Try.func8, Try.ntmps8
    go_wp2
    go_ret
    exact ⟨rfl, Below.refl _ _⟩
end Go.Proofs.Ytnciemnlnijhfaa
