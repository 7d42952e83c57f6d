/- Contract: the program's BarsMany. -/
import Derived.Test.YthkpiacanfajbaaBarsI
import Derived.Laws.EntriesVeiled
namespace Go.Proofs.Ythkpiacanfajbaa
open Go.RowKit

theorem bars_all (W T : Int) (long n c0 : Nat) (bs : List Bool) (A : Option Addr) (g bc br bl bk lo : Nat) (h1 : 1 ≤ W) (h2 : W ≤ 6) (h3 : 1 ≤ T) (h4 : T ≤ 6) (l1 : 2 ≤ long) (l2 : long ≤ 4)
    (hn : bs.length = n) (hWT : W * T = (n : Int)) (f : Nat) (hf : f ≤ 24) : BarsOk W T long n c0 bs A g bc br bl bk lo f := by
  induction f using Nat.strongRecOn with
  | _ f ih => exact bars_step W T long n c0 bs A g bc br bl bk lo h1 h2 h3 h4 l1 l2 hn hWT f hf (fun f' h => ih f' h (by omega))
theorem freeL_none (bs : List Bool) : freeL bs (List.replicate bs.length false) = bs := by
  apply List.ext_getElem
  · rw [freeL_len (by simp)]
  · intro k h1 h2
    rw [freeL_get h2 (by simpa using h2)]; simp
def barsOf (W T : Int) (bs : List Bool) (long : Int) : Int := if validB W T bs = true ∧ 1 ≤ long ∧ long ≤ 4 then barsN W T long.toNat 24 bs else -1
theorem barsOf_no {W T long : Int} {bs : List Bool} (h : ¬ (validB W T bs = true ∧ 1 ≤ long ∧ long ≤ 4)) : barsOf W T bs long = -1 := by unfold barsOf; rw [if_neg h]
theorem barsOf_ok {W T long : Int} {bs : List Bool} (h : validB W T bs = true) (h1 : 1 ≤ long) (h2 : long ≤ 4) : barsOf W T bs long = barsN W T long.toNat 24 bs := by unfold barsOf; rw [if_pos ⟨h, h1, h2⟩]

set_option maxRecDepth 100000 in
set_option maxHeartbeats 1000000 in
theorem iBarsMany_any (W T long : Int) (A : Option Addr) (c : Nat) (bs : List Bool) (w : World) (hr : Rd w A (bs.map .bool)) (hm : bs.length ≤ maxLen) :
    Calls Try.prog 45 #[.agg #[.int .i64 W, .int .i64 T, .slice A bs.length c], .int .i64 long] w fun e w' => e = .returned (.int .i64 (barsOf W T bs long)) ∧ Below w.heap.size w w' := by
  have X0 := (C3.new w (.int .i64 W) (.int .i64 T) (.slice A bs.length c) 31).alloc (.cells #[.int .i64 long] 3)
  have B0 := bl_alloc (bl_alloc (Below.refl w.heap.size w) (.cells #[.int .i64 W, .int .i64 T, .slice A bs.length c] 31)) (.cells #[.int .i64 long] 3)
  have L0 : ((w.alloc (.cells #[.int .i64 W, .int .i64 T, .slice A bs.length c] 31)).alloc (.cells #[.int .i64 long] 3)).cell? ⟨w.heap.size + 1, 0, none⟩ = some (.int .i64 long) := by simp
  have R0 := hr.belo B0
  cases hv : validB W T bs with
  | true =>
    obtain ⟨h1, h2, h3, h4, h5, h6⟩ := valid_len hv
    have hcnt : cnt bs ≤ 24 := (validB_iff.1 hv).2.2.2
    have HV := Lib.hid hv
    have H6 := Lib.hid h6
    have HCN := Lib.hid hcnt
    have hrv := fun z R => iRegionValid_any W T A c bs z R hm
    rw [hv] at hrv
    have HRV := Lib.hid hrv
    clear hv h6 hcnt hrv
    by_cases hl : 1 ≤ long ∧ long ≤ 4
    · obtain ⟨l1, l2⟩ := hl
      have HB := Lib.hid (barsOf_ok HV.out l1 l2)
      by_cases hone : long = 1
      · subst hone
        have HE := Lib.hid (show 1 = barsOf W T bs 1 by rw [HB.out]; exact (bars_one W T 24 bs HCN.out).symm)
        go_enter Try.func45, Try.ntmps45
        go_wp2_with fail
        refine (HRV.out _ R0).mono ?_
        rintro e w1 ⟨rfl, b1⟩
        have B1 := bl_go B0 b1
        have L1 := ((bcell b1).1 (w.heap.size + 1) 0 (by simp)).trans L0
        go_wp2_with (go_at_call 52; refine (in_t _ _ _ _ (by omega) (by omega)).mono ?_; rintro e w' ⟨rfl, rfl⟩)
        go_ret
        exact ⟨ret_i HE.out, B1⟩
      · obtain ⟨ln, rfl⟩ := Int.eq_ofNat_of_zero_le (show 0 ≤ long by omega)
        have l3 : 2 ≤ ln := by omega
        have l4 : ln ≤ 4 := by omega
        have hon : ((ln : Int) == 1) = false := by rw [beq_eq_false_iff_ne]; omega
        obtain ⟨i0, hi, hz0, hz1, hz2⟩ := info_parts Try.infoB
        have hb1 : i0.bytes * bs.length ≤ 281474976710656 := by rw [hz2]; omega
        have HZ := Lib.hid (And.intro hz0 (And.intro hz1 hz2))
        clear hz0 hz1 hz2 hone
        go_enter Try.func45, Try.ntmps45
        go_wp2_with fail
        refine (HRV.out _ R0).mono ?_
        rintro e w1 ⟨rfl, b1⟩
        have B1 := bl_go B0 b1
        have L1 := ((bcell b1).1 (w.heap.size + 1) 0 (by simp)).trans L0
        have X1 := X0.belo b1
        have R1 := R0.belo b1
        have s1 : w.heap.size + 2 ≤ w1.heap.size := by have := b1.size; simp at this; omega
        clear L0 X0 R0 B0 b1
        obtain ⟨x0, x1, x2⟩ := id X1
        go_wp2_with (first | (go_at_call 52; refine (in_t _ _ _ _ (by omega) (by omega)).mono ?_; rintro e w' ⟨rfl, rfl⟩) | (at_make; refine wpList_make_full _ rfl _ _ 29 rfl w1.heap.size 4 i0 (.bool false) 1 Try.underlying29 hi HZ.out.1 HZ.out.2.1 .i64 .i64 _ _ bs.length rfl rfl rfl rfl hb1 (by unfold maxLen; omega) (Nat.le_refl _) ?_; intro w2 hown2 hgrow2))
        have hg2 : w1.heap.size < w2.heap.size := own_lt hown2 _ rfl
        have hbb := bl_alloc (bl_alloc (Below.refl w2.heap.size w2) (.cells #[.slice (some ⟨w1.heap.size, 0, none⟩) bs.length bs.length] 29)) (.cells #[.func (.func 90) #[] #[.pointer (some ⟨w2.heap.size, 0, none⟩), .pointer (some ⟨w.heap.size, 0, none⟩), .pointer (some ⟨w.heap.size + 1, 0, none⟩), .pointer (some ⟨w2.heap.size + 1, 0, none⟩)]] 68)
        have cc : ((w2.alloc (.cells #[.slice (some ⟨w1.heap.size, 0, none⟩) bs.length bs.length] 29)).alloc (.cells #[.func (.func 90) #[] #[.pointer (some ⟨w2.heap.size, 0, none⟩), .pointer (some ⟨w.heap.size, 0, none⟩), .pointer (some ⟨w.heap.size + 1, 0, none⟩), .pointer (some ⟨w2.heap.size + 1, 0, none⟩)]] 68)).cell? ⟨w2.heap.size, 0, none⟩ = some (.slice (some ⟨w1.heap.size, 0, none⟩) bs.length bs.length) := by simp
        have ck : ((w2.alloc (.cells #[.slice (some ⟨w1.heap.size, 0, none⟩) bs.length bs.length] 29)).alloc (.cells #[.func (.func 90) #[] #[.pointer (some ⟨w2.heap.size, 0, none⟩), .pointer (some ⟨w.heap.size, 0, none⟩), .pointer (some ⟨w.heap.size + 1, 0, none⟩), .pointer (some ⟨w2.heap.size + 1, 0, none⟩)]] 68)).cell? ⟨w2.heap.size + 1, 0, none⟩ = some (.func (.func 90) #[] #[.pointer (some ⟨w2.heap.size, 0, none⟩), .pointer (some ⟨w.heap.size, 0, none⟩), .pointer (some ⟨w.heap.size + 1, 0, none⟩), .pointer (some ⟨w2.heap.size + 1, 0, none⟩)]) := by simp
        have X2 : C3 w2 w.heap.size (.int .i64 W) (.int .i64 T) (.slice A bs.length c) := ⟨(hgrow2.cell_far _ (by simp; omega) (by simp)).trans X1.1, (hgrow2.cell_far _ (by simp; omega) (by simp)).trans X1.2.1, (hgrow2.cell_far _ (by simp; omega) (by simp)).trans X1.2.2⟩
        have L2 := ((bcell hbb).1 (w.heap.size + 1) 0 (by omega)).trans ((hgrow2.cell_far ⟨w.heap.size + 1, 0, none⟩ (by simp; omega) (by simp)).trans L1)
        have X3 := X2.belo hbb
        have R3 := (R1.grown hgrow2 (fun k hk => by cases hk)).belo hbb
        have hw3 := (Wr.of_own hown2).belo hbb
        rw [show (Value.bool false).cells = #[.bool false] from rfl, toList_madeCells_one, show List.replicate (bs.length * 1) (Value.bool false) = (List.replicate bs.length false).map .bool by simp] at hw3
        have B3 := bl_go (B1.grown hgrow2 (by omega) (fun k hk => by cases hk)) hbb
        have hA : ∀ ad, A = some ad → ad.block ≠ w1.heap.size := fun ad e => by
          have h7 := H6.out
          have h8 := mul_bd h1 h2 h3 h4
          have := R1.lt e (by intro e2; have := congrArg List.length e2; simp at this; rw [this] at h7; simp at h7; omega)
          omega
        have S := (⟨cc, X3, L2, ck, R3, by omega, by omega, by omega, by omega, hA⟩ : Bst W T ln bs.length c bs A w1.heap.size w2.heap.size w.heap.size (w.heap.size + 1) (w2.heap.size + 1) _)
        have CB := bars_all W T ln bs.length c bs A w1.heap.size w2.heap.size w.heap.size (w.heap.size + 1) (w2.heap.size + 1) w1.heap.size h1 h2 h3 h4 l3 l4 rfl H6.out.symm 24 (Nat.le_refl _) _ (List.replicate bs.length false) 0 S hw3 (by simp) (Nat.zero_le _) (by rw [freeL_none]; exact HCN.out) (fun k _ h => absurd h (Nat.not_lt_zero k))
        rw [freeL_none] at CB
        refine CB.mono ?_
        rintro e w5 ⟨rfl, hw5, g5⟩
        go_wp2
        go_ret
        refine ⟨ret_i (by rw [HB.out]; rfl), B3.grown g5 B3.size (fun k hk => by injection hk with hk; omega)⟩
    · have HE := Lib.hid (barsOf_no (W := W) (T := T) (bs := bs) (fun h => hl h.2))
      have hl' : long < 1 ∨ 4 < long := by omega
      clear hl
      go_enter Try.func45, Try.ntmps45
      go_wp2_with fail
      refine (HRV.out _ R0).mono ?_
      rintro e w1 ⟨rfl, b1⟩
      have B1 := bl_go B0 b1
      have L1 := ((bcell b1).1 (w.heap.size + 1) 0 (by simp)).trans L0
      go_wp2_with (go_at_call 52; refine (in_f _ _ _ _ hl').mono ?_; rintro e w' ⟨rfl, rfl⟩)
      go_ret
      exact ⟨ret_i HE.out.symm, B1⟩
  | false =>
    have HE := Lib.hid (barsOf_no (W := W) (T := T) (bs := bs) (long := long) (fun h => by rw [hv] at h; exact absurd h.1 (by decide)))
    go_enter Try.func45, Try.ntmps45
    go_wp2_with fail
    refine (iRegionValid_any W T A c bs _ R0 hm).mono ?_
    rintro e w1 ⟨rfl, b1⟩
    rw [hv]
    have B1 := bl_go B0 b1
    go_wp2
    go_ret
    exact ⟨ret_i HE.out.symm, B1⟩
end Go.Proofs.Ythkpiacanfajbaa
