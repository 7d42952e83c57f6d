/- Contract: the program's CutTwo. -/
import Derived.Test.YthkpiacanfajbaaCut
import Derived.Test.YthkpiacanfajbaaBoxes
import Derived.Test.YthkpiacanfajbaaDark
import Derived.Test.YthkpiacanfajbaaBw
namespace Go.Proofs.Ythkpiacanfajbaa
open Go.RowKit

def cutOk (W T a b : Int) : Bool := roundOk W T && (inB a 0 (W * T - 1) && (inB b 0 (W * T - 1) && oddPair W a b))
def cutOf (W T a b : Int) : List Int := if cutOk W T a b = true then cutI W T (roundL W.toNat T.toNat) a b else []
/-- a list and whether there is one -/
def CutRet (X : List Int) (ok : Bool) (w : World) (e : Ending) (w' : World) : Prop :=
  ∃ A : Option Addr, e = .returned (.tuple #[.slice A X.length X.length, .bool ok]) ∧ Wr w' w.heap.size 3 A (X.map (.int .i64)) ∧ Below w.heap.size w w'
theorem odd_dark {W a b : Int} : (darkB W a == darkB W b) = !oddPair W a b := by
  unfold darkB oddPair
  generalize a % W + a / W = x
  rw [show x + b % W + b / W = x + (b % W + b / W) by omega]
  generalize b % W + b / W = y
  rcases Int.emod_two_eq x with h | h <;> rcases Int.emod_two_eq y with h2 | h2 <;> rw [h, h2, show (x + y) % 2 = (x % 2 + y % 2) % 2 by omega, h, h2] <;> rfl
theorem cut_facts {W T : Int} (h : roundOk W T = true) : 2 ≤ W ∧ W ≤ 6 ∧ 2 ≤ T ∧ T ≤ 6 ∧ W * T ≤ 24 ∧ ∃ Wn Tn n : Nat, W = Wn ∧ T = Tn ∧ W * T = (n : Int) ∧ roundOf W T = roundL Wn Tn ∧ (roundL Wn Tn).length = n ∧ (∀ x ∈ roundL Wn Tn, 0 ≤ x ∧ x < W * T) ∧ (∀ c : Int, 0 ≤ c → c < W * T → c ∈ roundL Wn Tn) ∧ 4 ≤ n ∧ n ≤ 24 := by
  have h' := h
  unfold roundOk at h'
  simp at h'
  obtain ⟨⟨a1, a2⟩, ⟨b1, b2⟩, hab, -⟩ := h'
  obtain ⟨Wn, rfl⟩ := Int.eq_ofNat_of_zero_le (show 0 ≤ W by omega)
  obtain ⟨Tn, rfl⟩ := Int.eq_ofNat_of_zero_le (show 0 ≤ T by omega)
  have hg := way_all Wn (by omega) Tn (by omega) h
  obtain ⟨g1, g2⟩ := way_bd hg
  have hm := Int.mul_le_mul a1 b1 (by omega) (by omega)
  have hn : ((Wn : Int)) * Tn = ((Wn * Tn : Nat) : Int) := (Int.natCast_mul Wn Tn).symm
  refine ⟨a1, a2, b1, b2, hab, Wn, Tn, Wn * Tn, rfl, rfl, hn, ?_, g1, g2, fun c c0 c1 => way_in hg c0 c1, by omega, by omega⟩
  unfold roundOf; rw [if_pos h]; simp

set_option maxRecDepth 100000 in
set_option maxHeartbeats 1000000 in
theorem iCutTwo_ok (W T a b : Int) (w : World) (hr : roundOk W T = true) (a0 : 0 ≤ a) (a1 : a < W * T) (b0 : 0 ≤ b) (b1 : b < W * T) (ho : oddPair W a b = true) :
    Calls Try.prog 38 #[.int .i64 W, .int .i64 T, .int .i64 a, .int .i64 b] w (CutRet (cutI W T (roundL W.toNat T.toNat) a b) true w) := by
  obtain ⟨w2, w6, t2, t6, hwt, Wn, Tn, n, rfl, rfl, hn, hX, hXl, hXb, hXi, n4, n24⟩ := cut_facts hr
  have hv : validB Wn Tn (List.replicate n true) = true := validB_iff.2 ⟨⟨by omega, w6⟩, ⟨by omega, t6⟩, by simp [hn], by unfold cnt; simp; omega⟩
  have cI := fun w => iRoundOf_nil Wn Tn w
  have cB := fun w => iRegionBox_ok Wn Tn n w (by omega) w6 (by omega) t6 hn hwt
  simp only [hX] at cI
  simp only [Int.toNat_natCast]
  have ha := hXi a a0 a1
  have hb := hXi b b0 b1
  have hCl := cutI_len Wn Tn (roundL Wn Tn) a b
  have HC := Lib.hid (show cutI Wn Tn (roundL Wn Tn) a b = coverL Wn Tn (roundL Wn Tn) (coverL Wn Tn (roundL Wn Tn) (List.replicate (roundL Wn Tn).length 0) (min (idx (roundL Wn Tn) a) (idx (roundL Wn Tn) b) + 1) (max (idx (roundL Wn Tn) a) (idx (roundL Wn Tn) b))) (max (idx (roundL Wn Tn) a) (idx (roundL Wn Tn) b) + 1) (min (idx (roundL Wn Tn) a) (idx (roundL Wn Tn) b) + (roundL Wn Tn).length) from rfl)
  generalize roundL Wn Tn = X at cI hXl hXb ha hb hCl HC
  subst hXl
  have CI := Lib.hid cI
  have CB := Lib.hid cB
  have HXB := Lib.hid hXb
  have HAB := Lib.hid (And.intro ha hb)
  have HN := Lib.hid hn
  have A1 := Lib.hid a1
  have B1 := Lib.hid b1
  have ia := inB_t (n := a) (lo := 0) (hi := (X.length : Int) - 1) a0 (by omega)
  have ib := inB_t (n := b) (lo := 0) (hi := (X.length : Int) - 1) b0 (by omega)
  have dk := odd_dark (W := (Wn : Int)) (a := a) (b := b)
  rw [ho] at dk
  have HDK := Lib.hid dk
  have IAB := Lib.hid (And.intro ia ib)
  have HCL := Lib.hid hCl
  have a36 : a ≤ 36 := by omega
  have b36 : b ≤ 36 := by omega
  have W1 : (1 : Int) ≤ Wn := by omega
  have T1 : (1 : Int) ≤ Tn := by omega
  clear cI cB hXb ha hb hn a1 b1 ia ib dk ho hX hr hv hCl hXi
  go_enter Try.func38, Try.ntmps38
  go_wp2_with fail
  refine (CI.out _).mono ?_
  rintro e v1 ⟨A, rfl, g1, b1, -⟩
  go_wp2_with fail
  refine (CB.out _).mono ?_
  rintro e v2 ⟨A2, c2, rfl, g2, b2⟩
  simp only [List.length_replicate]
  go_wp2_with fail
  have k1 := ((bcell b2).1 v1.heap.size 0 (by simp)).trans (cell_of_row _ _ _ _ _ _ (heap_alloc_new v1 (.cells #[.slice A X.length X.length] 25)))
  simp at k1
  have gA := (g1.belo (bl_alloc (Below.refl _ _) (.cells #[.slice A X.length X.length] 25))).belo b2
  have X2 := C3.new v2 (.int .i64 Wn) (.int .i64 Tn) (.slice A2 X.length c2) 31
  have q1 := k1
  have BQ := bl_go (bl_go (bl_alloc b1 (.cells #[.slice A X.length X.length] 25)) b2) (bl_alloc (Below.refl _ _) (.cells #[.int .i64 Wn, .int .i64 Tn, .slice A2 X.length c2] 31))
  have gB := gA.rd.alloc (.cells #[.int .i64 Wn, .int .i64 Tn, .slice A2 X.length c2] 31)
  have k2 : (v2.alloc (.cells #[.int .i64 Wn, .int .i64 Tn, .slice A2 X.length c2] 31)).cell? ⟨v1.heap.size, 0, none⟩ = some (.slice A X.length X.length) :=
    ((bcell ((Below.refl v2.heap.size v2).alloc (Nat.le_refl _) _)).1 v1.heap.size 0 (by have := World.block_lt_of_cell? v2 _ k1; simpa using this)).trans k1
  have pp : v1.heap.size < v2.heap.size := by have := World.block_lt_of_cell? v2 _ k1; simpa using this
  have pq : w.heap.size ≤ v1.heap.size := b1.size
  have hlo := g1.1
  clear k1 q1 gA g1 b1 g2 b2
  generalize v2.alloc (.cells #[.int .i64 Wn, .int .i64 Tn, .slice A2 X.length c2] 31) = wq at *
  generalize v1.heap.size = p1 at *
  generalize v2.heap.size = p2 at *
  obtain ⟨x0, x1, x2⟩ := id X2
  have s1 := World.block_lt_of_cell? wq _ k2
  have s2 := World.block_lt_of_cell? wq _ x0
  simp only at s1 s2
  obtain ⟨bA, oA, rfl, -⟩ := gB.atEM (k := 0) (by omega)
  have hnil : ∀ w, (binOp .eql 25 (.slice (some ⟨bA, oA, none⟩) X.length X.length) (.slice none 0 0)).run Try.prog w = .ok (.bool false) w := fun w => Lib.run_eql_slice_nil w 25 3 _ _ _ _ _ Try.underlying25
  have L0 : ∀ z : BW wq, z.wo.cell? ⟨p1, 0, none⟩ = some (.slice (some ⟨bA, oA, none⟩) X.length X.length) := fun z => z.cell s1 k2
  have L1 : ∀ z : BW wq, z.wo.cell? ⟨p2, 0, none⟩ = some (.int .i64 Wn) := fun z => z.cell s2 x0
  have L2 : ∀ z : BW wq, z.wo.cell? ⟨p2, 1, none⟩ = some (.int .i64 Tn) := fun z => z.cell s2 x1
  have L3 : ∀ z : BW wq, z.wo.cell? ⟨p2, 2, none⟩ = some (.slice A2 X.length c2) := fun z => z.cell s2 x2
  have HIA := Lib.hid (fun z => by have := has_any Wn Tn A2 X.length c2 a z (by omega); rw [IAB.out.1] at this; exact this)
  have HIB := Lib.hid (fun z => by have := has_any Wn Tn A2 X.length c2 b z (by omega); rw [IAB.out.2] at this; exact this)
  have HDA := Lib.hid (fun z => dark_any Wn Tn (.slice A2 X.length c2) a z W1 w6 a0 a36)
  have HDB := Lib.hid (fun z => dark_any Wn Tn (.slice A2 X.length c2) b z W1 w6 b0 b36)
  have dk := HDK.out
  (refine region_bw (by kernel_rfl) (by kernel_rfl) ?_; (repeat (first | go_big_quiet_skip | (go_big_quiet_want; go_big_quiet_op; first | go_big_quiet_on | (refine ⟨.bool true, fun zz => ?_, ?_⟩; (go_at_call 59; first | (with_reducible exact zz.on (HIA.out zz.wo)) | (with_reducible exact zz.on (HIB.out zz.wo))); go_big_quiet_on) | (refine ⟨.bool (darkB Wn a), fun zz => ?_, ?_⟩; (go_at_call 80; with_reducible exact zz.on (HDA.out zz.wo)); go_big_quiet_on) | (refine ⟨.bool (darkB Wn b), fun zz => ?_, ?_⟩; (go_at_call 80; with_reducible exact zz.on (HDB.out zz.wo)); go_big_quiet_on)))); refine wpQuiet_nil ?_; intro wz hw'; obtain ⟨zw, hw''⟩ := hw'; subst hw'')
  have k3 := L0 zw
  have X3 := X2.belo zw.ok
  have g3 := gB.belo zw.ok
  have B3 := bl_go BQ zw.ok
  have s3 := zw.ok.size
  clear L0 L1 L2 L3 HIA HIB HDA HDB hnil dk x0 x1 x2 X2 gB BQ k2
  generalize zw.wo = z1 at *
  clear zw
  obtain ⟨i0, hi, hz0, hz1, hz2⟩ := info_parts Try.infoI
  have hb1 : i0.bytes * X.length ≤ 281474976710656 := by rw [hz2]; omega
  have HZ := Lib.hid (And.intro hz0 (And.intro hz1 hz2))
  clear hz0 hz1 hz2
  go_wp2_with (at_make; refine wpList_make_full _ rfl _ _ 25 rfl z1.heap.size 3 i0 (.int .i64 0) 1 Try.underlying25 hi HZ.out.1 HZ.out.2.1 .i64 .i64 _ _ X.length rfl rfl rfl rfl hb1 (by unfold maxLen; omega) (Nat.le_refl _) ?_; intro v3 hown3 hgrow3; have k4 := (hgrow3.cell_far ⟨p1, 0, none⟩ (by simp; omega) (by simp)).trans k3; have p3 : p1 < v3.heap.size := (by have := hgrow3.size; omega))
  have k5 : ((v3.alloc (.cells #[.slice (some ⟨z1.heap.size, 0, none⟩) X.length X.length] 25)).alloc (.cells #[.int .i64 X.length] 3)).cell? ⟨v3.heap.size, 0, none⟩ = some (.slice (some ⟨z1.heap.size, 0, none⟩) X.length X.length) :=
    ((bcell ((Below.refl _ _).alloc (Nat.le_refl _) _)).1 v3.heap.size 0 (by simp)).trans (cell_of_row _ _ _ _ _ _ (heap_alloc_new v3 _))
  have k6 : ((v3.alloc (.cells #[.slice (some ⟨z1.heap.size, 0, none⟩) X.length X.length] 25)).alloc (.cells #[.int .i64 X.length] 3)).cell? ⟨v3.heap.size + 1, 0, none⟩ = some (.int .i64 X.length) := by
    simp
  have b4 := bl_alloc (bl_alloc (Below.refl v3.heap.size v3) (.cells #[.slice (some ⟨z1.heap.size, 0, none⟩) X.length X.length] 25)) (.cells #[.int .i64 X.length] 3)
  have k7 := ((bcell b4).1 p1 0 p3).trans k4
  have hX3 := X3
  have s4 : z1.heap.size < v3.heap.size := own_lt hown3 _ rfl
  have X4 : C3 v3 p2 (.int .i64 Wn) (.int .i64 Tn) (.slice A2 X.length c2) := ⟨(hgrow3.cell_far _ (by simp; omega) (by simp)).trans X3.1, (hgrow3.cell_far _ (by simp; omega) (by simp)).trans X3.2.1, (hgrow3.cell_far _ (by simp; omega) (by simp)).trans X3.2.2⟩
  have X5 := X4.belo b4
  have g5 := (g3.grown hgrow3 (fun k hk => by cases hk)).belo b4
  have hbA : bA < z1.heap.size := by have := g3.lt rfl (by intro e; have := congrArg List.length e; simp at this; subst this; simp at n4); simpa using this
  have B5 := bl_go (B3.grown hgrow3 (by omega) (fun k hk => by cases hk)) b4
  have hW5 := (Wr.of_own hown3).belo b4
  rw [show (Value.int .i64 0).cells = #[.int .i64 0] from rfl, toList_madeCells_one, show List.replicate (X.length * 1) (Value.int .i64 0) = (List.replicate X.length (0 : Int)).map (.int .i64) by simp] at hW5
  have hp2 : p2 < z1.heap.size := by omega
  have hp1 : p1 < z1.heap.size := by omega
  clear k4 k3 X3 X4 hX3 g3 hown3 hgrow3 B3 b4 hlo
  generalize (v3.alloc (.cells #[.slice (some ⟨z1.heap.size, 0, none⟩) X.length X.length] 25)).alloc (.cells #[.int .i64 X.length] 3) = wF at *
  generalize v3.heap.size = pl at *
  have hgw : w.heap.size ≤ z1.heap.size := by omega
  generalize z1.heap.size = g at *
  have CA := fun z (R : Rd z (some ⟨bA, oA, none⟩) (X.map (.int .i64))) => indexI_any (some ⟨bA, oA, none⟩) X.length X a z R (by unfold maxLen; omega) HAB.out.1
  have CB2 := fun z (R : Rd z (some ⟨bA, oA, none⟩) (X.map (.int .i64))) => indexI_any (some ⟨bA, oA, none⟩) X.length X b z R (by unfold maxLen; omega) HAB.out.2
  obtain ⟨la, ea⟩ := idx_at HAB.out.1
  obtain ⟨lb, eb⟩ := idx_at HAB.out.2
  have hne : idx X a ≠ idx X b := by
    intro e
    have : a = b := by rw [← ea, ← eb]; simp only [e]
    subst this
    have := HDK.out
    simp at this
  clear ea eb
  generalize idx X a = i1 at CA HC la hne
  generalize idx X b = i2 at CB2 HC lb hne
  have CA' := Lib.hid CA
  have CB' := Lib.hid CB2
  clear CA CB2
  obtain ⟨f, hf⟩ : ∃ f, min i1 i2 = f := ⟨_, rfl⟩
  obtain ⟨s, hs⟩ : ∃ s, max i1 i2 = s := ⟨_, rfl⟩
  rw [hf, hs] at HC
  have V1 : ((f + 1 : Nat) : Int) = (f : Int) + 1 := by omega
  have V2 : ((s + 1 : Nat) : Int) = (s : Int) + 1 := by omega
  have V3 : ((f + X.length : Nat) : Int) = (f : Int) + (X.length : Int) := by omega
  have hfl : f ≤ 24 := by omega
  have hsl : s ≤ 24 := by omega
  have CV1 := fun z (L : List Int) (hL : L.length = X.length) => cover_any (Wn : Int) Tn (.slice A2 X.length c2) (some ⟨bA, oA, none⟩) X L g X.length (f + 1) s p1 (pl + 1) p2 pl g z W1 w6 T1 t6 HXB.out rfl hL HN.out (by omega) (by omega) (by omega)
  have CV2 := fun z (L : List Int) (hL : L.length = X.length) => cover_any (Wn : Int) Tn (.slice A2 X.length c2) (some ⟨bA, oA, none⟩) X L g X.length (s + 1) (f + X.length) p1 (pl + 1) p2 pl g z W1 w6 T1 t6 HXB.out rfl hL HN.out (by omega) (by omega) (by omega)
  rw [V1] at CV1
  rw [V2, V3] at CV2
  have CV1 := Lib.hid CV1
  have CV2 := Lib.hid CV2
  clear V1 V2 V3
  have hbg : ∀ ad, (some ⟨bA, oA, none⟩ : Option Addr) = some ad → ad.block ≠ g := fun ad e => by injection e with e; subst e; simp; omega
  have HBG := Lib.hid hbg
  clear hbg
  rcases Nat.lt_or_gt_of_ne hne with h | h
  · obtain rfl : i1 = f := by omega
    obtain rfl : i2 = s := by omega
    clear hf hs hne la lb
    have hI : (i1 : Int) < (i2 : Int) := by omega
    go_quiet ((first | (go_at_call 81; with_reducible exact quietL (CA'.out _ (g5.drewN _))) | (go_at_call 81; with_reducible exact quietL (CB'.out _ (g5.drewN _)))))
    change Rd (wF.drewN nq) _ _ at g5
    change (wF.drewN nq).cell? _ = _ at k5
    change (wF.drewN nq).cell? _ = _ at k6
    change (wF.drewN nq).cell? _ = _ at k7
    change C3 (wF.drewN nq) _ _ _ _ at X5
    change Wr (wF.drewN nq) _ _ _ _ at hW5
    have B5 := below_drewN' B5 nq
    generalize wF.drewN nq = wG at *
    go_wp2_with fail
    go_quiet ((first | (go_at_call 81; with_reducible exact quietL (CA'.out _ (g5.drewN _))) | (go_at_call 81; with_reducible exact quietL (CB'.out _ (g5.drewN _)))))
    change Rd (wG.drewN nq) _ _ at g5
    change (wG.drewN nq).cell? _ = _ at k5
    change (wG.drewN nq).cell? _ = _ at k6
    change (wG.drewN nq).cell? _ = _ at k7
    change C3 (wG.drewN nq) _ _ _ _ at X5
    change Wr (wG.drewN nq) _ _ _ _ at hW5
    have B5 := below_drewN' B5 nq
    generalize wG.drewN nq = wH at *
    go_wp2_with fail
    refine (CV1.out _ (List.replicate X.length 0) (by simp) k7 k6 X5 k5 g5 hW5 (by omega) (by omega) (by omega) (by omega) HBG.out).mono ?_
    rintro e w6 ⟨rfl, hw6, hg6⟩
    have q5 := gb_cell hg6 (show pl ≠ g by omega) k5
    have q6 := gb_cell hg6 (show pl + 1 ≠ g by omega) k6
    have q7 := gb_cell hg6 (show p1 ≠ g by omega) k7
    have qX := C3.gb (show C3 _ p2 _ _ _ from X5) hg6 (by omega)
    have qg := Rd.grownBelow (show Rd _ (some ⟨bA, oA, none⟩) _ from g5) hg6 (fun _ ad e => by intro h; injection h with h; exact HBG.out ad e h)
    have qB := B5
    go_wp2_with fail
    refine (CV2.out _ _ (by rw [coverL_len]; simp) q7 q6 qX q5 qg hw6 (by omega) (by omega) (by omega) (by omega) HBG.out).mono ?_
    rintro e w7 ⟨rfl, hw7, hg7⟩
    have r5 := gb_cell hg7 (show pl ≠ g by omega) q5
    clear q5 q6 q7 qX qg
    go_wp2
    go_ret2
    rw [← HC.out] at hw7
    refine ⟨some ⟨g, 0, none⟩, by rw [HCL.out]; rfl, hw7.lower hgw, ?_⟩
    have hs5 := B5.size
    have hs6 := hg6.size
    exact (B5.grown hg6 (by simpa using hs5) (fun k hk => by injection hk with hk; omega)).grown hg7 (by omega) (fun k hk => by injection hk with hk; omega)
  · obtain rfl : i2 = f := by omega
    obtain rfl : i1 = s := by omega
    clear hf hs hne la lb
    have hI : (i2 : Int) < (i1 : Int) := by omega
    go_quiet ((first | (go_at_call 81; with_reducible exact quietL (CA'.out _ (g5.drewN _))) | (go_at_call 81; with_reducible exact quietL (CB'.out _ (g5.drewN _)))))
    change Rd (wF.drewN nq) _ _ at g5
    change (wF.drewN nq).cell? _ = _ at k5
    change (wF.drewN nq).cell? _ = _ at k6
    change (wF.drewN nq).cell? _ = _ at k7
    change C3 (wF.drewN nq) _ _ _ _ at X5
    change Wr (wF.drewN nq) _ _ _ _ at hW5
    have B5 := below_drewN' B5 nq
    generalize wF.drewN nq = wG at *
    go_wp2_with fail
    go_quiet ((first | (go_at_call 81; with_reducible exact quietL (CA'.out _ (g5.drewN _))) | (go_at_call 81; with_reducible exact quietL (CB'.out _ (g5.drewN _)))))
    change Rd (wG.drewN nq) _ _ at g5
    change (wG.drewN nq).cell? _ = _ at k5
    change (wG.drewN nq).cell? _ = _ at k6
    change (wG.drewN nq).cell? _ = _ at k7
    change C3 (wG.drewN nq) _ _ _ _ at X5
    change Wr (wG.drewN nq) _ _ _ _ at hW5
    have B5 := below_drewN' B5 nq
    generalize wG.drewN nq = wH at *
    go_wp2_with fail
    refine (CV1.out _ (List.replicate X.length 0) (by simp) k7 k6 X5 k5 g5 hW5 (by omega) (by omega) (by omega) (by omega) HBG.out).mono ?_
    rintro e w6 ⟨rfl, hw6, hg6⟩
    have q5 := gb_cell hg6 (show pl ≠ g by omega) k5
    have q6 := gb_cell hg6 (show pl + 1 ≠ g by omega) k6
    have q7 := gb_cell hg6 (show p1 ≠ g by omega) k7
    have qX := C3.gb (show C3 _ p2 _ _ _ from X5) hg6 (by omega)
    have qg := Rd.grownBelow (show Rd _ (some ⟨bA, oA, none⟩) _ from g5) hg6 (fun _ ad e => by intro h; injection h with h; exact HBG.out ad e h)
    have qB := B5
    go_wp2_with fail
    refine (CV2.out _ _ (by rw [coverL_len]; simp) q7 q6 qX q5 qg hw6 (by omega) (by omega) (by omega) (by omega) HBG.out).mono ?_
    rintro e w7 ⟨rfl, hw7, hg7⟩
    have r5 := gb_cell hg7 (show pl ≠ g by omega) q5
    clear q5 q6 q7 qX qg
    go_wp2
    go_ret2
    rw [← HC.out] at hw7
    refine ⟨some ⟨g, 0, none⟩, by rw [HCL.out]; rfl, hw7.lower hgw, ?_⟩
    have hs5 := B5.size
    have hs6 := hg6.size
    exact (B5.grown hg6 (by simpa using hs5) (fun k hk => by injection hk with hk; omega)).grown hg7 (by omega) (fun k hk => by injection hk with hk; omega)
end Go.Proofs.Ythkpiacanfajbaa
