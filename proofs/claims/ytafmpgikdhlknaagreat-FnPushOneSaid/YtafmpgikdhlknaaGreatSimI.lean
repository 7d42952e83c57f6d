
/- Contracts: the program's search outside of a region; simple regions. -/
import Derived.Test.YtafmpgikdhlknaaGreatOutN
import Derived.Test.YtafmpgikdhlknaaGreatPartI
import Derived.Test.YtafmpgikdhlknaaGreatAtI
import Derived.Test.YtafmpgikdhlknaaGreatGb
import Derived.Test.YtafmpgikdhlknaaGreatBw
import Derived.Deep.Cut
import Derived.Deep.CutRange
import Derived.Laws.EntriesVeiled
namespace Go.Proofs.YtafmpgikdhlknaaGreat
open Go.RowKit

/-- what the closure finds -/
structure FlT (W T : Int) (n c N : Nat) (bs : List Bool) (A : Option Addr) (g bw bt bm br bk : Nat) (w : World) : Prop where
  cw : w.cell? ⟨bw, 0, none⟩ = some (.int .i64 (W + 2))
  ct : w.cell? ⟨bt, 0, none⟩ = some (.int .i64 (T + 2))
  cm : w.cell? ⟨bm, 0, none⟩ = some (.slice (some ⟨g, 0, none⟩) N N)
  box : C3 w br (.int .i64 W) (.int .i64 T) (.slice A n c)
  ck : w.cell? ⟨bk, 0, none⟩ = some (.func (.func 116) #[] #[.pointer (some ⟨bw, 0, none⟩), .pointer (some ⟨bt, 0, none⟩), .pointer (some ⟨bm, 0, none⟩), .pointer (some ⟨br, 0, none⟩), .pointer (some ⟨bk, 0, none⟩)])
  rd : Rd w A (bs.map .bool)
  d1 : bw ≠ g
  d2 : bt ≠ g
  d3 : bm ≠ g
  d4 : br ≠ g
  d5 : bk ≠ g
  hA : ∀ ad, A = some ad → ad.block ≠ g
theorem rd_gb {w wr : World} {g : Nat} {A : Option Addr} {xs : List Value} (h : Rd w A xs) (hg : w.grownBy wr (some g)) (hA : ∀ ad, A = some ad → ad.block ≠ g) : Rd wr A xs := fun hne => by
  obtain ⟨ad, rfl, hc⟩ := h hne
  have h1 := hA ad rfl
  refine ⟨ad, rfl, fun j u hu => ?_⟩
  have hl := World.block_lt_of_cell? w _ (hc j u hu)
  rw [World.cell?_of_block (hg.block _ hl (by rw [blk_add]; intro e; injection e with e; exact h1 e))]
  exact hc j u hu
theorem FlT.gb {W T : Int} {n c N : Nat} {bs : List Bool} {A : Option Addr} {g bw bt bm br bk : Nat} {w w' : World} (h : FlT W T n c N bs A g bw bt bm br bk w) (hg : w.grownBy w' (some g)) : FlT W T n c N bs A g bw bt bm br bk w' :=
  ⟨gb_cell hg h.d1 h.cw, gb_cell hg h.d2 h.ct, gb_cell hg h.d3 h.cm, h.box.gb hg h.d4, gb_cell hg h.d5 h.ck, rd_gb h.rd hg h.hA, h.d1, h.d2, h.d3, h.d4, h.d5, h.hA⟩
def FlRes (lo g : Nat) (M : List Bool) (w : World) (e : Ending) (w' : World) : Prop :=
  e = .returned (.tuple #[]) ∧ Wr w' lo 4 (some ⟨g, 0, none⟩) (M.map .bool) ∧ w.grownBy w' (some g)
def FlOkD (W T : Int) (n c N : Nat) (bs : List Bool) (A : Option Addr) (lo g bw bt bm br bk f : Nat) : Prop :=
  ∀ (w : World) (x y : Int) (M : List Bool), FlT W T n c N bs A g bw bt bm br bk w → Wr w lo 4 (some ⟨g, 0, none⟩) (M.map .bool) → M.length = N → unF M < f → -1 ≤ x ∧ x ≤ W + 2 → -1 ≤ y ∧ y ≤ T + 2 →
    Calls Tryz.prog 116 #[.int .i64 x, .int .i64 y, .pointer (some ⟨bw, 0, none⟩), .pointer (some ⟨bt, 0, none⟩), .pointer (some ⟨bm, 0, none⟩), .pointer (some ⟨br, 0, none⟩), .pointer (some ⟨bk, 0, none⟩)] w (FlRes lo g (floF W T bs f x y M) w)
theorem unF_flo {W T : Int} {bs : List Bool} (hf : FldG W T bs.length) {f : Nat} {x y : Int} {M : List Bool} (h : unF M < f) (hl : M.length = outN W T) : unF (floF W T bs f x y M) ≤ unF M := by
  have := flo_ok hf f x y M h hl
  exact unF_le this.len this.old
set_option maxRecDepth 100000 in
set_option maxHeartbeats 4000000 in
theorem flo_step {W T : Int} {n c N : Nat} {bs : List Bool} {A : Option Addr} {lo g bw bt bm br bk f : Nat} (h1 : 1 ≤ W) (h2 : W ≤ 6) (h3 : 1 ≤ T) (h4 : T ≤ 6) (hn : bs.length = n) (hWT : (n : Int) = W * T) (hN : N = outN W T)
    (ih : FlOkD W T n c N bs A lo g bw bt bm br bk f) : FlOkD W T n c N bs A lo g bw bt bm br bk (f + 1) := by
  intro w x y M HT HM hl hu hx hy
  obtain ⟨hx1, hx2⟩ := hx
  obtain ⟨hy1, hy2⟩ := hy
  have hf : FldG W T bs.length := ⟨h1, h3, by rw [hn]; exact hWT⟩
  have hf2 := out_fld hf
  have HF := Lib.hid hf
  have HIH := Lib.hid ih
  have HU := Lib.hid hu
  have HL := Lib.hid hl
  have HNN := Lib.hid hN
  have HRS := Lib.hid (show floF W T bs (f + 1) x y M = if mayF W T bs M x y = true then floF W T bs f x (y - 1) (floF W T bs f x (y + 1) (floF W T bs f (x - 1) y (floF W T bs f (x + 1) y (M.set (y * (W + 2) + x).toNat true)))) else M from rfl)
  generalize floF W T bs (f + 1) x y M = res at HRS ⊢
  have CA := Lib.hid (fun (z : World) (R : Rd z A (bs.map .bool)) (p : -1000 ≤ x - 1 ∧ x - 1 ≤ 1000) (q : -1000 ≤ y - 1 ∧ y - 1 ≤ 1000) => by
    have := iAt_any W T A c bs (x - 1) (y - 1) z R h1 h2 h3 h4 (by rw [hn]; exact hWT) p q
    rw [hn] at this
    exact this)
  obtain ⟨cw, ct, cm, ⟨r0, r1, r2⟩, ck, rd, d1, d2, d3, d4, d5, hA⟩ := id HT
  have G0 : w.grownBy w (some g) := World.grownBy.refl _ _
  have i1 : IntKind.i64.wrap (W + 2 - 1) = W + 2 - 1 := IntWalk.i64_in _ (by omega)
  have i2 : IntKind.i64.wrap (T + 2 - 1) = T + 2 - 1 := IntWalk.i64_in _ (by omega)
  clear ih hu hN hWT
  by_cases hxi : 0 ≤ x ∧ x ≤ W + 2 - 1
  · obtain ⟨hxa, hxb⟩ := hxi
    by_cases hyi : 0 ≤ y ∧ y ≤ T + 2 - 1
    · obtain ⟨hya, hyb⟩ := hyi
      obtain ⟨k, ek, hk, -, -⟩ := hf2.at_ hxa (by omega) hya (by omega)
      have hkN : k < N := by rw [HNN.out]; exact hk
      have hM1 : k < M.length := by rw [HL.out]; exact hkN
      obtain ⟨m0, m1⟩ : 0 ≤ y * (W + 2) ∧ y * (W + 2) ≤ 56 := by
        have := Int.mul_le_mul (show y ≤ 7 by omega) (show W + 2 ≤ 8 by omega) (by omega) (by omega)
        exact ⟨Int.mul_nonneg hya (by omega), by omega⟩
      have i3 : IntKind.i64.wrap (y * (W + 2)) = y * (W + 2) := IntWalk.i64_in _ (by omega)
      have i4 : IntKind.i64.wrap (y * (W + 2) + x) = (k : Int) := by rw [ek]; exact IntWalk.i64_in _ (by omega)
      have hkI : (k : Int) < (N : Int) := by omega
      have hne : M.map Value.bool ≠ [] := by intro e; have := congrArg List.length e; simp at this; rw [this] at hM1; simp at hM1
      obtain ⟨g', eg, hlo, hgs, hfr⟩ := HM.form hne
      injection eg with eg; injection eg with eg
      subst eg
      have hfk := hfr k
      have hc := HM.rd.cellEM (k := k) hM1
      simp only [Nat.zero_add] at hc
      have HG := Lib.hid (show M.getD k true = M[k] by rw [List.getD_eq_getElem?_getD, List.getElem?_eq_getElem hM1]; rfl)
      obtain ⟨mv, hmv⟩ : ∃ mv, M[k] = mv := ⟨_, rfl⟩
      rw [hmv] at hc HG
      have HEK := Lib.hid ek
      clear hmv hne hfr ek hk
      cases mv with
      | true =>
        have HR := Lib.hid (show res = M by rw [HRS.out, if_neg (by rw [mayF_iff, HEK.out, Int.toNat_natCast, HG.out]; simp)])
        go_enter Tryz.func116, Tryz.ntmps116
        go_wp2_with (first | (go_at_call 42; refine (in_t _ _ _ _ (by omega) (by omega)).mono ?_; rintro e w' ⟨rfl, rfl⟩))
        refine bodyPost_ret (v := .tuple #[]) (by simp [results, Tryz.results116, go_sem]) rfl ?_
        rw [HR.out]
        exact ⟨rfl, HM, G0⟩
      | false =>
        have CA2 := Lib.hid (fun (z : World) (R : Rd z A (bs.map .bool)) => CA.out z R (by omega) (by omega))
        cases hat : atQ W T bs (x - 1) (y - 1) with
        | true =>
          have HR := Lib.hid (show res = M by rw [HRS.out, if_neg (by rw [mayF_iff, hat]; simp)])
          rw [hat] at CA2
          clear hat CA
          go_enter Tryz.func116, Tryz.ntmps116
          go_wp2_with (first | (go_at_call 42; refine (in_t _ _ _ _ (by omega) (by omega)).mono ?_; rintro e w' ⟨rfl, rfl⟩) | (go_at_call 117; refine (CA2.out _ rd).mono ?_; rintro e w1 ⟨rfl, b1⟩))
          refine bodyPost_ret (v := .tuple #[]) (by simp [results, Tryz.results116, go_sem]) rfl ?_
          rw [HR.out]
          exact ⟨rfl, HM.belo b1, gb_below G0 b1⟩
        | false =>
          have HR := Lib.hid (show res = floF W T bs f x (y - 1) (floF W T bs f x (y + 1) (floF W T bs f (x - 1) y (floF W T bs f (x + 1) y (M.set k true)))) by
            rw [HRS.out, if_pos (by rw [mayF_iff, HEK.out, Int.toNat_natCast, HG.out, hat]; exact ⟨⟨hxa, by omega, hya, by omega⟩, rfl, rfl⟩), HEK.out, Int.toNat_natCast])
          have hu1 := unF_set M k (by rw [HG.out])
          have HL1 : (M.set k true).length = N := by rw [List.length_set]; exact HL.out
          rw [hat] at CA2
          clear hat CA
          go_enter Tryz.func116, Tryz.ntmps116
          go_wp2_with (first | (go_at_call 42; refine (in_t _ _ _ _ (by omega) (by omega)).mono ?_; rintro e w' ⟨rfl, rfl⟩))
          refine (CA2.out _ rd).mono ?_
          rintro e w1 ⟨rfl, b1⟩
          have T1 := HT.gb (gb_below G0 b1)
          have M1 := HM.belo b1
          obtain ⟨cw1, -, cm1, -, ck1, -⟩ := id T1
          have hfk1 : w1.frozen? ⟨g, k, none⟩ = false := by
            obtain ⟨g', eg, -, -, hfr⟩ := M1.form (by intro e; have := congrArg List.length e; simp at this; rw [this] at hM1; simp at hM1)
            injection eg with eg; injection eg with eg
            subst eg
            exact hfr k
          have hc1 : w1.cell? ⟨g, k, none⟩ = some (.bool false) := (b1.cell (p := ⟨g, k, none⟩) hgs).trans hc
          have G1 : w.grownBy (w1.setCell ⟨g, k, none⟩ (.bool true)) (some g) := gb_store (gb_below G0 b1)
          have T2 := HT.gb G1
          have M2 := M1.store k (.bool true)
          rw [← List.map_set] at M2
          obtain ⟨-, -, -, -, ck2, -⟩ := id T2
          have HC1 := Lib.hid (HIH.out _ (x + 1) y _ T2 M2 HL1 (by have := HU.out; omega) (by omega) (by omega))
          clear r0 r1 r2 cw ct cm ck rd hc hfk CA2
          go_wp2_with fail
          refine HC1.out.mono ?_
          rintro e w3 ⟨rfl, M3, G3⟩
          have T3 := T2.gb G3
          have L3 : (floF W T bs f (x + 1) y (M.set k true)).length = N := (flo_len _ _ _ _).trans HL1
          have U3 : unF (floF W T bs f (x + 1) y (M.set k true)) < f := by
            have := unF_flo HF.out (f := f) (x := x + 1) (y := y) (M := M.set k true) (by have := HU.out; omega) (by rw [HL1]; exact HNN.out)
            have := HU.out
            omega
          have G3' := grownBy_trans' G1 G3
          generalize floF W T bs f (x + 1) y (M.set k true) = N3 at HR M3 L3 U3
          obtain ⟨-, -, -, -, ck3, -⟩ := id T3
          have HC2 := Lib.hid (HIH.out _ (x - 1) y _ T3 M3 L3 U3 (by omega) (by omega))
          clear ck2 M2 T2 HC1 G1 M1 T1 G3
          go_wp2_with fail
          refine HC2.out.mono ?_
          rintro e w4 ⟨rfl, M4, G4⟩
          have T4 := T3.gb G4
          have L4 : (floF W T bs f (x - 1) y N3).length = N := (flo_len _ _ _ _).trans L3
          have U4 : unF (floF W T bs f (x - 1) y N3) < f := by
            have := unF_flo HF.out (f := f) (x := x - 1) (y := y) (M := N3) U3 (by rw [L3]; exact HNN.out)
            omega
          have G4' := grownBy_trans' G3' G4
          generalize floF W T bs f (x - 1) y N3 = N4 at HR M4 L4 U4
          obtain ⟨-, -, -, -, ck4, -⟩ := id T4
          have HC3 := Lib.hid (HIH.out _ x (y + 1) _ T4 M4 L4 U4 (by omega) (by omega))
          clear ck3 M3 T3 HC2 G3' G4
          go_wp2_with fail
          refine HC3.out.mono ?_
          rintro e w5 ⟨rfl, M5, G5⟩
          have T5 := T4.gb G5
          have L5 : (floF W T bs f x (y + 1) N4).length = N := (flo_len _ _ _ _).trans L4
          have U5 : unF (floF W T bs f x (y + 1) N4) < f := by
            have := unF_flo HF.out (f := f) (x := x) (y := y + 1) (M := N4) U4 (by rw [L4]; exact HNN.out)
            omega
          have G5' := grownBy_trans' G4' G5
          generalize floF W T bs f x (y + 1) N4 = N5 at HR M5 L5 U5
          obtain ⟨-, -, -, -, ck5, -⟩ := id T5
          have HC4 := Lib.hid (HIH.out _ x (y - 1) _ T5 M5 L5 U5 (by omega) (by omega))
          clear ck4 M4 T4 HC3 G4' G5
          go_wp2_with fail
          refine HC4.out.mono ?_
          rintro e w6 ⟨rfl, M6, G6⟩
          go_wp2_with fail
          refine bodyPost_ret (v := .tuple #[]) (by simp [results, Tryz.results116, go_sem]) rfl ?_
          rw [HR.out]
          exact ⟨rfl, M6, grownBy_trans' G5' G6⟩
    · have HR := Lib.hid (show res = M by rw [HRS.out, if_neg (by rw [mayF_iff]; unfold inF; omega)])
      have hyo : y < 0 ∨ T + 2 - 1 < y := by omega
      clear hyi
      go_enter Tryz.func116, Tryz.ntmps116
      go_wp2_with (first | (go_at_call 42; refine (in_t _ _ _ _ (by omega) (by omega)).mono ?_; rintro e w' ⟨rfl, rfl⟩) | (go_at_call 42; refine (in_f _ _ _ _ (by omega)).mono ?_; rintro e w' ⟨rfl, rfl⟩))
      refine bodyPost_ret (v := .tuple #[]) (by simp [results, Tryz.results116, go_sem]) rfl ?_
      rw [HR.out]
      exact ⟨rfl, HM, G0⟩
  · have HR := Lib.hid (show res = M by rw [HRS.out, if_neg (by rw [mayF_iff]; unfold inF; omega)])
    have hxo : x < 0 ∨ W + 2 - 1 < x := by omega
    clear hxi
    go_enter Tryz.func116, Tryz.ntmps116
    go_wp2_with (first | (go_at_call 42; refine (in_f _ _ _ _ (by omega)).mono ?_; rintro e w' ⟨rfl, rfl⟩))
    refine bodyPost_ret (v := .tuple #[]) (by simp [results, Tryz.results116, go_sem]) rfl ?_
    rw [HR.out]
    exact ⟨rfl, HM, G0⟩
theorem new_c1 {w : World} (v : Value) (t : TypeId) {n : Nat} (h : w.heap.size = n) : (w.alloc (.cells #[v] t)).cell? ⟨n, 0, none⟩ = some v := by subst h; exact cell_of_row _ _ _ _ _ _ (heap_alloc_new w _)
theorem old_c1 {w : World} {p : Addr} {v : Value} (o : Obj) (h : w.cell? p = some v) : (w.alloc o).cell? p = some v := (World.cell?_alloc_lt w o p (World.block_lt_of_cell? w _ h)).trans h
theorem dr_c1 {w : World} {p : Addr} {v : Value} (h : w.cell? p = some v) : w.drew.cell? p = some v := h
theorem bel_c1 {w w' : World} {b o : Nat} {v : Value} (hb : Below w.heap.size w w') (h : w.cell? ⟨b, o, none⟩ = some v) : w'.cell? ⟨b, o, none⟩ = some v := (hb.cell (p := ⟨b, o, none⟩) (World.block_lt_of_cell? w _ h)).trans h
theorem flo_all {W T : Int} {n c N : Nat} {bs : List Bool} {A : Option Addr} {lo g bw bt bm br bk : Nat} (h1 : 1 ≤ W) (h2 : W ≤ 6) (h3 : 1 ≤ T) (h4 : T ≤ 6) (hn : bs.length = n) (hWT : (n : Int) = W * T) (hN : N = outN W T) :
    ∀ f, FlOkD W T n c N bs A lo g bw bt bm br bk f
  | 0 => fun _ _ _ _ _ _ _ hu => absurd hu (Nat.not_lt_zero _)
  | f + 1 => flo_step h1 h2 h3 h4 hn hWT hN (flo_all h1 h2 h3 h4 hn hWT hN f)
open Classical in
noncomputable def simpR (W T : Int) (bs : List Bool) : Bool := decide (prtN W T bs = 1 ∧ outA W T bs)
theorem simpR_iff {W T : Int} {bs : List Bool} : simpR W T bs = true ↔ prtN W T bs = 1 ∧ outA W T bs := by
  classical
  unfold simpR
  rw [decide_eq_true_eq]
theorem simpB_R (W T : Int) (bs : List Bool) : simpB W T bs = (validB W T bs && simpR W T bs) := by
  rw [Bool.eq_iff_iff, simp_iff, Bool.and_eq_true, simpR_iff]
theorem outN_bd {W T : Int} (h1 : 1 ≤ W) (h2 : W ≤ 6) (h3 : 1 ≤ T) (h4 : T ≤ 6) : (outN W T : Int) = (W + 2) * (T + 2) ∧ outN W T ≤ 64 ∧ 1 ≤ outN W T := by
  have h5 : 0 < (W + 2) * (T + 2) := Int.mul_pos (by omega) (by omega)
  have h6 := Int.mul_le_mul (show W + 2 ≤ 8 by omega) (show T + 2 ≤ 8 by omega) (by omega) (by omega)
  unfold outN
  omega
set_option maxRecDepth 100000 in
set_option maxHeartbeats 4000000 in
theorem simple_any (W T : Int) (A : Option Addr) (c n : Nat) (bs : List Bool) (w : World) (hr : Rd w A (bs.map .bool)) (hf : FldF W T n) (hn : bs.length = n) :
    Calls Tryz.prog 81 #[.agg #[.int .i64 W, .int .i64 T, .slice A n c]] w fun e w' => e = .returned (.bool (simpR W T bs)) ∧ Below w.heap.size w w' := by
  have n36 : n ≤ 36 := hf.bd
  have CP := Lib.hid (fun (z : World) (R : Rd z A (bs.map .bool)) => parts_many W T A c n bs z R hf hn)
  obtain ⟨w1, w6, t1, t6, hlen⟩ := id hf
  have hfg : FldG W T bs.length := ⟨w1, t1, by rw [hn]; exact hlen⟩
  obtain ⟨hN, hN64, hN1⟩ := outN_bd w1 w6 t1 t6
  obtain ⟨N, hNe⟩ : ∃ N, outN W T = N := ⟨_, rfl⟩
  rw [hNe] at hN hN64 hN1
  have HALL := Lib.hid (fun (lo g bw bt bm br bk : Nat) => flo_all (W := W) (T := T) (n := n) (c := c) (N := N) (bs := bs) (A := A) (lo := lo) (g := g) (bw := bw) (bt := bt) (bm := bm) (br := br) (bk := bk) w1 w6 t1 t6 hn hlen hNe.symm (N + 1))
  have HFM := Lib.hid (flo_many hfg)
  have HFV := Lib.hid (show floF W T bs (N + 1) 0 0 (List.replicate N false) = floV W T bs by unfold floV; rw [hNe])
  have HFL := Lib.hid (show (floV W T bs).length = N by unfold floV; rw [flo_len, hNe]; simp)
  rw [hNe] at HFM
  have HNE := Lib.hid hNe
  have hcb := cnt_le bs
  have HAB := Lib.hid (fun ad (e : A = some ad) => hr.lt e (show bs.map Value.bool ≠ [] by intro e; have := congrArg List.length e; simp at this; have h5 : 1 ≤ W * T := (mul_bd w1 w6 t1 t6).1; rw [this] at hn; simp at hn; omega))
  obtain ⟨i0, hi, hz0, hz1, hz2⟩ := info_parts Tryz.infoB
  have hb1 : i0.bytes * N ≤ 281474976710656 := by rw [hz2]; omega
  have HZ := Lib.hid (And.intro hz0 (And.intro hz1 hz2))
  have HNI := Lib.hid hN
  have HNB := Lib.hid hn
  have j1 : IntKind.i64.wrap ((W + 2) * (T + 2)) = (N : Int) := by rw [← hN]; exact IntWalk.i64_in _ (by omega)
  have X0 := C3.new w (.int .i64 W) (.int .i64 T) (.slice A n c) 25
  have B0 := bl_alloc (Below.refl w.heap.size w) (.cells #[.int .i64 W, .int .i64 T, .slice A n c] 25)
  obtain ⟨x0, x1, x2⟩ := id X0
  have hx := X0.lt
  clear hz0 hz1 hz2 hlen hf hn hNe hN hfg
  go_enter Tryz.func81, Tryz.ntmps81
  go_upto_region 1 with fail
  go_cut [3, 4] from 7 (fun s3 s4 wx => ∃ bw bt : Nat, s3 = .pointer (some ⟨bw, 0, none⟩) ∧ s4 = .pointer (some ⟨bt, 0, none⟩) ∧ wx.cell? ⟨bw, 0, none⟩ = some (.int .i64 (W + 2)) ∧ wx.cell? ⟨bt, 0, none⟩ = some (.int .i64 (T + 2)) ∧ C3 wx w.heap.size (.int .i64 W) (.int .i64 T) (.slice A n c) ∧ Below w.heap.size w wx ∧ w.heap.size ≤ wx.heap.size)
  case first =>
    go_region
    all_goals
      go_wp2_with fail
      go_meet
      first
        | exact ⟨w.heap.size + 1, w.heap.size + 1 + 1, rfl, rfl, dr_c1 (old_c1 _ (new_c1 _ _ (by simp))), dr_c1 (new_c1 _ _ (by simp)), ((X0.alloc _).alloc _).drew, (bl_alloc (bl_alloc B0 _) _).drew, (bl_alloc (bl_alloc B0 (.cells #[.int .i64 (W + 2)] 3)) (.cells #[.int .i64 (T + 2)] 3)).size⟩
        | exact ⟨w.heap.size + 1 + 1, w.heap.size + 1, rfl, rfl, dr_c1 (new_c1 _ _ (by simp)), dr_c1 (old_c1 _ (new_c1 _ _ (by simp))), ((X0.alloc _).alloc _).drew, (bl_alloc (bl_alloc B0 _) _).drew, (bl_alloc (bl_alloc B0 (.cells #[.int .i64 (T + 2)] 3)) (.cells #[.int .i64 (W + 2)] 3)).size⟩
  case rest =>
    obtain ⟨bw, bt, rfl, rfl, cw, ct, X1, B1, hs1⟩ := hcut
    clear X0 B0 hx x0 x1 x2
    have hbw := World.block_lt_of_cell? wc _ cw
    have hbt := World.block_lt_of_cell? wc _ ct
    have hbr := X1.lt
    simp only at hbw hbt
    obtain ⟨x0, x1, x2⟩ := id X1
    go_wp2_with (at_make; refine wpList_make_full _ rfl _ _ 23 rfl wc.heap.size 4 i0 (.bool false) 1 Tryz.underlying23 hi HZ.out.1 HZ.out.2.1 .i64 .i64 _ _ N rfl rfl rfl rfl hb1 (by unfold maxLen; omega) (Nat.le_refl _) ?_; intro v1 hown1 hgrow1)
    have V1 := Wr.of_own hown1
    rw [show (Value.bool false).cells = #[.bool false] from rfl, toList_madeCells_one] at V1
    have VB := (Below.refl wc.heap.size wc).grown hgrow1 (Nat.le_refl _) (fun k hk => by cases hk)
    have hvs := VB.size
    have B2 := bl_alloc (bl_alloc VB (.cells #[.slice (some ⟨wc.heap.size, 0, none⟩) N N] 23)) (.cells #[.func (.func 116) #[] #[.pointer (some ⟨bw, 0, none⟩), .pointer (some ⟨bt, 0, none⟩), .pointer (some ⟨v1.heap.size, 0, none⟩), .pointer (some ⟨w.heap.size, 0, none⟩), .pointer (some ⟨v1.heap.size + 1, 0, none⟩)]] 105)
    have B2' := bl_alloc (bl_alloc (Below.refl v1.heap.size v1) (.cells #[.slice (some ⟨wc.heap.size, 0, none⟩) N N] 23)) (.cells #[.func (.func 116) #[] #[.pointer (some ⟨bw, 0, none⟩), .pointer (some ⟨bt, 0, none⟩), .pointer (some ⟨v1.heap.size, 0, none⟩), .pointer (some ⟨w.heap.size, 0, none⟩), .pointer (some ⟨v1.heap.size + 1, 0, none⟩)]] 105)
    have V2 : Wr ((v1.alloc (.cells #[.slice (some ⟨wc.heap.size, 0, none⟩) N N] 23)).alloc (.cells #[.func (.func 116) #[] #[.pointer (some ⟨bw, 0, none⟩), .pointer (some ⟨bt, 0, none⟩), .pointer (some ⟨v1.heap.size, 0, none⟩), .pointer (some ⟨w.heap.size, 0, none⟩), .pointer (some ⟨v1.heap.size + 1, 0, none⟩)]] 105)) wc.heap.size 4 (some ⟨wc.heap.size, 0, none⟩) ((List.replicate N false).map .bool) := by
      have := V1.belo B2'
      simpa using this
    have hgl : wc.heap.size < v1.heap.size := by
      obtain ⟨g', eg, -, h9, -⟩ := V2.form (by simp; omega)
      obtain ⟨g2, eg2, -, h8, -⟩ := V1.form (by simp; omega)
      injection eg2 with eg2; injection eg2 with eg2
      omega
    have T2 : FlT W T n c N bs A wc.heap.size bw bt v1.heap.size w.heap.size (v1.heap.size + 1) ((v1.alloc (.cells #[.slice (some ⟨wc.heap.size, 0, none⟩) N N] 23)).alloc (.cells #[.func (.func 116) #[] #[.pointer (some ⟨bw, 0, none⟩), .pointer (some ⟨bt, 0, none⟩), .pointer (some ⟨v1.heap.size, 0, none⟩), .pointer (some ⟨w.heap.size, 0, none⟩), .pointer (some ⟨v1.heap.size + 1, 0, none⟩)]] 105)) :=
      ⟨bel_c1 B2 cw, bel_c1 B2 ct, old_c1 _ (new_c1 _ _ rfl), X1.belo B2, new_c1 _ _ (by simp), hr.belo (bl_go B1 B2), by omega, by omega, by omega, by omega, by omega, fun ad e => by have := HAB.out ad e; omega⟩
    have HC := Lib.hid (HALL.out wc.heap.size wc.heap.size bw bt v1.heap.size w.heap.size (v1.heap.size + 1) _ 0 0 _ T2 V2 (by simp) (by rw [unF_rep]; omega) (by omega) (by omega))
    rw [HFV.out] at HC
    refine HC.out.mono ?_
    rintro e w3 ⟨rfl, V3, G3⟩
    have T3 := T2.gb G3
    have B3 : Below w.heap.size w w3 := bl_go B1 (B2.grown G3 B2.size (fun k hk => by injection hk with hk; omega))
    have R3 := hr.belo B3
    have CM1 := Lib.hid (fun (z : World) (R : Rd z (some ⟨wc.heap.size, 0, none⟩) ((floV W T bs).map .bool)) => (show Calls Tryz.prog 74 #[.slice (some ⟨wc.heap.size, 0, none⟩) N N] z fun e w' => e = .returned (.int .i64 (cnt (floV W T bs))) ∧ Below z.heap.size z w' by
      have := many_any (some ⟨wc.heap.size, 0, none⟩) N (floV W T bs) z R (by rw [HFL.out]; unfold maxLen; omega)
      rw [HFL.out] at this
      exact this.mono (by rintro e w' ⟨rfl, rfl⟩; exact ⟨rfl, Below.refl _ _⟩)))
    have CM2 := Lib.hid (fun (z : World) (R : Rd z A (bs.map .bool)) => (show Calls Tryz.prog 74 #[.slice A n c] z fun e w' => e = .returned (.int .i64 (cnt bs)) ∧ Below z.heap.size z w' by
      have := many_any A c bs z R (by rw [HNB.out]; unfold maxLen; omega)
      rw [HNB.out] at this
      exact this.mono (by rintro e w' ⟨rfl, rfl⟩; exact ⟨rfl, Below.refl _ _⟩)))
    have HSR := Lib.hid (show simpR W T bs = ((cnt (floV W T bs) == (N : Int) - cnt bs) && ((prtN W T bs : Int) == 1)) by
      rw [Bool.eq_iff_iff, simpR_iff, Bool.and_eq_true, beq_iff_eq, beq_iff_eq, HFM.out]
      constructor
      · rintro ⟨a, b⟩; exact ⟨b, by rw [a]; rfl⟩
      · rintro ⟨a, b⟩; exact ⟨by omega, a⟩)
    have V3r := V3.rd
    obtain ⟨cw3, ct3, cm3, ⟨x0, x1, x2⟩, -⟩ := id T3
    have q1 := World.block_lt_of_cell? _ _ cw3
    have q2 := World.block_lt_of_cell? _ _ ct3
    have q3 := World.block_lt_of_cell? _ _ cm3
    have q4 := World.block_lt_of_cell? _ _ x0
    simp only at q1 q2 q3 q4
    have hc36 : bs.length ≤ 36 := by rw [HNB.out]; exact n36
    have L0 : ∀ z : BW w3, z.wo.cell? ⟨bw, 0, none⟩ = some (.int .i64 (W + 2)) := fun z => z.cell q1 cw3
    have L1 : ∀ z : BW w3, z.wo.cell? ⟨bt, 0, none⟩ = some (.int .i64 (T + 2)) := fun z => z.cell q2 ct3
    have L2 : ∀ z : BW w3, z.wo.cell? ⟨v1.heap.size, 0, none⟩ = some (.slice (some ⟨wc.heap.size, 0, none⟩) N N) := fun z => z.cell q3 cm3
    have L3 : ∀ z : BW w3, z.wo.cell? ⟨w.heap.size, 0, none⟩ = some (.int .i64 W) := fun z => z.cell q4 x0
    have L4 : ∀ z : BW w3, z.wo.cell? ⟨w.heap.size, 1, none⟩ = some (.int .i64 T) := fun z => z.cell q4 x1
    have L5 : ∀ z : BW w3, z.wo.cell? ⟨w.heap.size, 2, none⟩ = some (.slice A n c) := fun z => z.cell q4 x2
    have HRE : ∀ b, simpR W T bs = b → Ending.returned (.bool b) = Ending.returned (.bool (simpR W T bs)) := fun b h => by rw [h]
    have HRR := Lib.hid HRE
    generalize cnt (floV W T bs) = p at CM1 HSR
    generalize cnt bs = q at CM2 HSR hcb
    generalize prtN W T bs = r at CP HSR
    have j2 : IntKind.i64.wrap ((N : Int) - q) = (N : Int) - q := IntWalk.i64_in _ (by omega)
    clear HALL HC T2 V2 B2 B2' VB V1 hown1 hgrow1 HRE T3 G3 cw3 ct3 cm3 x0 x1 x2 X1 cw ct
    cases hg : (p == (N : Int) - q) with
    | true =>
      rw [hg, Bool.true_and] at HSR
      go_wp2_with fail
      (refine region_bw (by kernel_rfl) (by kernel_rfl) ?_; (repeat (first | go_big_quiet_skip | (go_big_quiet_want; go_big_quiet_op; first | go_big_quiet_on | (refine ⟨.int .i64 p, fun zz => ?_, ?_⟩; (go_at_call 74; with_reducible exact zz.on (CM1.out _ (V3r.belo zz.ok))); go_big_quiet_on) | (refine ⟨.int .i64 q, fun zz => ?_, ?_⟩; (go_at_call 74; with_reducible exact zz.on (CM2.out _ (R3.belo zz.ok))); go_big_quiet_on) | (refine ⟨.int .i64 (r : Int), fun zz => ?_, ?_⟩; (go_at_call 118; with_reducible exact zz.on (CP.out _ (R3.belo zz.ok))); go_big_quiet_on)))); refine wpQuiet_nil ?_; intro wz hw'; obtain ⟨zw, hw''⟩ := hw'; subst hw'')
      go_wp2_with fail
      go_ret
      exact ⟨HRR.out _ HSR.out, bl_go B3 zw.ok⟩
    | false =>
      rw [hg, Bool.false_and] at HSR
      go_wp2_with fail
      (refine region_bw (by kernel_rfl) (by kernel_rfl) ?_; (repeat (first | go_big_quiet_skip | (go_big_quiet_want; go_big_quiet_op; first | go_big_quiet_on | (refine ⟨.int .i64 p, fun zz => ?_, ?_⟩; (go_at_call 74; with_reducible exact zz.on (CM1.out _ (V3r.belo zz.ok))); go_big_quiet_on) | (refine ⟨.int .i64 q, fun zz => ?_, ?_⟩; (go_at_call 74; with_reducible exact zz.on (CM2.out _ (R3.belo zz.ok))); go_big_quiet_on)))); refine wpQuiet_nil ?_; intro wz hw'; obtain ⟨zw, hw''⟩ := hw'; subst hw'')
      go_wp2_with fail
      go_ret
      exact ⟨HRR.out _ HSR.out, bl_go B3 zw.ok⟩
set_option maxHeartbeats 1000000 in
theorem iSimple_any (W T : Int) (A : Option Addr) (c n : Nat) (bs : List Bool) (w : World) (hr : Rd w A (bs.map .bool)) (hn : bs.length = n) (hm : n ≤ maxLen) :
    Calls Tryz.prog 39 #[.agg #[.int .i64 W, .int .i64 T, .slice A n c]] w fun e w' => e = .returned (.bool (simpB W T bs)) ∧ Below w.heap.size w w' := by
  have X0 := C3.new w (.int .i64 W) (.int .i64 T) (.slice A n c) 25
  have B0 := bl_alloc (Below.refl w.heap.size w) (.cells #[.int .i64 W, .int .i64 T, .slice A n c] 25)
  have CV := Lib.hid (by have := iRegionValid_any W T A c bs _ (hr.belo B0) (by rw [hn]; exact hm); rw [hn] at this; exact this)
  have CP := Lib.hid (fun (h : validB W T bs = true) (z : World) (R : Rd z A (bs.map .bool)) => by
    obtain ⟨⟨q1, q6⟩, ⟨t1, t6⟩, hlen, -⟩ := validB_iff.1 h
    exact simple_any W T A c n bs z R ⟨q1, q6, t1, t6, by rw [← hn]; exact hlen⟩ hn)
  rw [simpB_R]
  generalize simpR W T bs = s at CP ⊢
  generalize validB W T bs = v at CV CP ⊢
  obtain ⟨x0, x1, x2⟩ := id X0
  go_enter Tryz.func39, Tryz.ntmps39
  go_wp2_with fail
  refine CV.out.mono ?_
  rintro e w1 ⟨rfl, b1⟩
  have X1 := X0.belo b1
  have R1 := (hr.belo B0).belo b1
  have B1 := bl_go B0 b1
  obtain ⟨y0, y1, y2⟩ := id X1
  clear X0 B0 b1 x0 x1 x2 CV X1
  cases v with
  | false =>
    go_wp2_with fail
    go_ret
    exact ⟨rfl, B1⟩
  | true =>
    go_wp2_with fail
    refine (CP.out trivial _ R1).mono ?_
    rintro e w2 ⟨rfl, b2⟩
    go_wp2_with fail
    go_ret
    exact ⟨rfl, bl_go B1 b2⟩
end Go.Proofs.YtafmpgikdhlknaaGreat
