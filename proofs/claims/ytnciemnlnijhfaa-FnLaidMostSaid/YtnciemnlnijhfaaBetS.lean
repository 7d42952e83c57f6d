/- Contract: the reference's l7Better. -/
import Derived.Test.YtnciemnlnijhfaaBetN
import Derived.Test.YtnciemnlnijhfaaStep
import Derived.Test.YtnciemnlnijhfaaMemE
import Derived.Test.YtnciemnlnijhfaaBw
import Derived.Test.YtnciemnlnijhfaaGb
import Derived.Test.YtnciemnlnijhfaaAlive
namespace Go.Proofs.Ytnciemnlnijhfaa
open Go.RowKit

theorem gr_bl {w w' : World} {row : Option Nat} (h : Below w.heap.size w w') : w.grownBy w' row := ⟨h.os, h.tape, h.output, h.size, fun i hi _ => h.block i hi⟩
theorem gr_set (w : World) (b k : Nat) (u : Value) : w.grownBy (w.setCell ⟨b, k, none⟩ u) (some b) :=
  ⟨rfl, rfl, rfl, by simp, fun i _ hi => Below.heap_setCell w ⟨b, k, none⟩ u i (fun e => hi (by rw [e]))⟩
theorem gr_set' {w : World} {row : Option Nat} (b k : Nat) (u : Value) {w0 : World} (h : w0.grownBy w row) (hb : w0.heap.size ≤ b) : w0.grownBy (w.setCell ⟨b, k, none⟩ u) row :=
  ⟨h.os, h.tape, h.output, by simp; exact h.size, fun i hi hr => (Below.heap_setCell w ⟨b, k, none⟩ u i (by show i ≠ b; omega)).trans (h.block i hi hr)⟩
theorem gr_drew {w w' : World} {row : Option Nat} (h : w.grownBy w' row) : w.grownBy w'.drew row := ⟨h.os, h.tape, h.output, h.size, h.block⟩
theorem rd_gr {w w' : World} {A : Option Addr} {xs : List Value} {sb : Nat} (h : Rd w A xs) (hn : ∀ ad, A = some ad → ad.block ≠ sb) (hg : w.grownBy w' (some sb)) : Rd w' A xs :=
  h.grownBelow hg (fun _ ad e he => hn ad e (by injection he))
theorem c3_gr {w w' : World} {b sb : Nat} {x y z : Value} (h : C3 w b x y z) (hn : b ≠ sb) (hg : w.grownBy w' (some sb)) : C3 w' b x y z := by
  have hl := h.lt
  have he := hg.block b hl (by intro e; injection e with e; exact hn e)
  obtain ⟨h0, h1, h2⟩ := h
  exact ⟨(World.cell?_of_block he).trans h0, (World.cell?_of_block he).trans h1, (World.cell?_of_block he).trans h2⟩
/-- what l7Better gives back -/
def BetR (n cs sb : Nat) (r : List Int × List Bool × Bool) (w : World) (e : Ending) (w' : World) : Prop :=
  ∃ (A' : Option Addr) (m c' : Nat), e = .returned (.tuple #[.slice A' m c', .slice (some ⟨sb, 0, none⟩) n cs, .bool r.2.2]) ∧ m = r.1.length ∧ m ≤ c' ∧ Rd w' A' (r.1.map (.int .i64)) ∧ Wr w' sb 4 (some ⟨sb, 0, none⟩) (r.2.1.map .bool) ∧ (∀ ad, A' = some ad → w.heap.size ≤ ad.block) ∧ w.grownBy w' (some sb)
theorem wr_set {w : World} {lo : Nat} {e : TypeId} {A : Option Addr} {xs : List Value} (h : Wr w lo e A xs) (g k : Nat) (u : Value) (hA : ∀ ad, A = some ad → ad.block ≠ g) : Wr (w.setCell ⟨g, k, none⟩ u) lo e A xs :=
  h.keep fun g' e' _ => Below.heap_setCell w ⟨g, k, none⟩ u g' (hA _ e')
theorem own_atI {w : World} {base n cap g : Nat} {L : List Int} (h : w.ownsRow base 3 1 (.slice (some ⟨g, 0, none⟩) n cap) n (L.map (.int .i64))) {k : Nat} (hk : k < L.length) : (∃ u, w.cell? ⟨g, k, none⟩ = some u) ∧ w.frozen? ⟨g, k, none⟩ = false := by
  have hw := Wr.of_own h
  obtain ⟨g', hg', -, -, hfz⟩ := hw.form (by intro e; rw [List.map_eq_nil_iff] at e; rw [e] at hk; simp at hk)
  have hgg : g = g' := by injection hg' with hg'; injection hg'
  subst hgg
  have := hw.rd.cellEM hk
  rw [Nat.zero_add] at this
  exact ⟨⟨_, this⟩, hfz k⟩
theorem wr_atI {w : World} {lo g : Nat} {L : List Int} (hw : Wr w lo 3 (some ⟨g, 0, none⟩) (L.map (.int .i64))) {k : Nat} (hk : k < L.length) : (∃ u, w.cell? ⟨g, k, none⟩ = some u) ∧ w.frozen? ⟨g, k, none⟩ = false := by
  obtain ⟨g', hg', -, -, hfz⟩ := hw.form (by intro e; rw [List.map_eq_nil_iff] at e; rw [e] at hk; simp at hk)
  have hgg : g = g' := by injection hg' with hg'; injection hg'
  subst hgg
  have := hw.rd.cellEM hk
  rw [Nat.zero_add] at this
  exact ⟨⟨_, this⟩, hfz k⟩
theorem own_capI {w : World} {base n c g : Nat} {e : TypeId} {xs : List Value} (h : w.ownsRow base e 1 (.slice (some ⟨g, 0, none⟩) n c) n xs) : n ≤ c := by
  rcases h.2 with ⟨e, _⟩ | ⟨g', cap', cur, hv, _, _, h3, _⟩
  · cases e
  · injection hv with _ _ e4; omega
theorem bet_next {W T : Int} {bs : List Bool} (hf : Fld W T bs) {f : Nat} {L : List Int} {c : Nat} {S : List Bool} (h : Free W T bs L c) (hs : S.length = bs.length) (hu : unseen S < f) (hr : (bet W T bs f L c S).2.2 = false) :
    (bet W T bs f L c S).2.1.length = S.length ∧ unseen (bet W T bs f L c S).2.1 ≤ unseen S := by
  have k := bet_stuck hf f L c S h hs hu hr
  exact ⟨k.len, unseen_le _ _ k.len k.sub⟩
set_option maxRecDepth 100000 in
set_option maxHeartbeats 4000000 in
theorem l7Better_any {W T : Int} {bs : List Bool} (hf : Fld W T bs) {n : Nat} (hn : bs.length = n) (hn36 : n ≤ 36) (Ab : Option Addr) (cb : Nat) : ∀ (f : Nat) (L : List Int) (c : Nat) (seen : List Bool) (A : Option Addr) (cL cs sb : Nat) (w : World), Rd w Ab (bs.map .bool) → (∀ ad, Ab = some ad → ad.block ≠ sb) → Rd w A (L.map (.int .i64)) → (∀ ad, A = some ad → ad.block ≠ sb) → Wr w sb 4 (some ⟨sb, 0, none⟩) (seen.map .bool) → Free W T bs L c → seen.length = n → unseen seen < f →
    Calls Try.prog 58 #[.agg #[.int .i64 W, .int .i64 T, .slice Ab n cb], .slice A n cL, .int .i64 c, .slice (some ⟨sb, 0, none⟩) n cs] w (BetR n cs sb (bet W T bs f L c seen) w) := by
  intro f
  induction f with
  | zero => intro L c seen A cL cs sb w _ _ _ _ _ _ _ h; omega
  | succ f ih =>
    intro L c seen A cL cs sb w hrb hbn hrl hln hws hfr hsl hu
    have hc1 := hfr.c1
    have hll := hfr.lay.len
    have hcn : c < n := by omega
    obtain ⟨bb, ob, rfl, -⟩ := hrb.atEM (k := c) (by omega)
    obtain ⟨ba, oa, rfl, -⟩ := hrl.atEM (k := c) (by omega)
    have hbs : bb ≠ sb := hbn _ rfl
    have has : ba ≠ sb := hln _ rfl
    have hsz : sb < w.heap.size := by
      obtain ⟨g', hg', -, h1, -⟩ := hws.form (by intro e; rw [List.map_eq_nil_iff] at e; rw [e] at hsl; simp at hsl; omega)
      injection hg' with hg'; injection hg' with hg'; omega
    have X0 := C3.new w (.int .i64 W) (.int .i64 T) (.slice (some ⟨bb, ob, none⟩) n cb) 25
    have G0 : w.grownBy (w.alloc (.cells #[.int .i64 W, .int .i64 T, .slice (some ⟨bb, ob, none⟩) n cb] 25)) (some sb) := gr_bl (bl_alloc (Below.refl _ _) _)
    have W0 : Wr (w.alloc (.cells #[.int .i64 W, .int .i64 T, .slice (some ⟨bb, ob, none⟩) n cb] 25)) sb 4 (some ⟨sb, 0, none⟩) (seen.map .bool) := hws.belo (bl_alloc (Below.refl _ _) _)
    have IH := Lib.hid ih
    have HRB := Lib.hid (fun (z : World) (g : w.grownBy z (some sb)) => And.intro (rd_gr hrb hbn g) (rd_gr hrl hln g))
    have HN := Lib.hid hn
    have HLL := Lib.hid (show L.length = n by omega)
    have HF := Lib.hid hf
    have HFR := Lib.hid hfr
    have HSL := Lib.hid hsl
    obtain ⟨hw1, hw6, ht1, ht6, -⟩ := id hf
    have HWT := Lib.hid (show (n : Int) = W * T by rw [← hn]; exact hf.n)
    obtain ⟨i0, hi, hz0, hz1, hz2⟩ := info_parts Try.infoI
    have HZ := Lib.hid (And.intro hz0 (And.intro hz1 hz2))
    clear ih hrb hrl hws hn hll hf hfr hsl hc1 hz0 hz1 hz2 hbn hln
    go_enter Try.func58, Try.ntmps58
    go_wp2_with fail
    go_loopw [3, 11] (fun v3 i wr => ∃ (k : Nat) (S : List Bool), 1 ≤ k ∧ k ≤ 5 ∧ i = .int .i64 k ∧ v3 = .slice (some ⟨sb, 0, none⟩) n cs ∧ Hid (S.length = n) ∧ Hid (unseen S < f + 1) ∧ Hid (betT W T bs (bet W T bs f) L c (5 - k) S = bet W T bs (f + 1) L c seen) ∧ Wr wr sb 4 (some ⟨sb, 0, none⟩) (S.map .bool) ∧ w.grownBy wr (some sb) ∧ C3 wr w.heap.size (.int .i64 W) (.int .i64 T) (.slice (some ⟨bb, ob, none⟩) n cb)) (fun _ i _ => 6 - (intOf i).toNat)
    case atStart => exact ⟨1, seen, by omega, by omega, rfl, rfl, HSL.out, hu, rfl, W0, G0, X0⟩
    case round =>
      clear W0 G0 X0
      obtain ⟨k, S, k1, k5, rfl, rfl, HS, HU, HR, WS, G1, X1⟩ := hrel
      by_cases hk : k ≤ 4
      · have hkI : (k : Int) ≤ 4 := by omega
        have rb := (HRB.out _ G1).1
        have rl := (HRB.out _ G1).2
        obtain ⟨x0, x1, x2⟩ := id X1
        have HST := Lib.hid (fun z => l2step_any W T (.slice (some ⟨bb, ob, none⟩) n cb) c k z hw1 hw6 ht1 ht6 (by omega) (by have := HWT.out; omega))
        rcases bet_round HF.out HFR.out (bet W T bs f) S (by rw [HS.out, HN.out]) k k1 hk with ⟨hneg, hb⟩ | ⟨l, hst, l1, l2, l3, lc, hcase⟩
        · have HB := Lib.hid (show betT W T bs (bet W T bs f) L c (5 - (k + 1)) S = bet W T bs (f + 1) L c seen by rw [← HR.out, hb, show 5 - (k + 1) = 4 - k by omega])
          clear hb
          generalize stepZ W T c k = t at *
          go_wp2_with (go_at_call 113; refine (HST.out _).mono ?_; rintro e w1 ⟨rfl, b1⟩)
          go_roundw
          case rel => exact ⟨k + 1, S, by omega, by omega, by go_num, rfl, HS, HU, HB, WS.belo b1, grownBy_trans' G1 (gr_bl b1), X1.belo b1⟩
          case measure => simp [intOf]; omega
        · rw [hst] at HST
          have HL1 := Lib.hid l1
          have hln : l < n := by have := HN.out; omega
          have hlI : (l : Int) < (n : Int) := by omega
          have cb0 : wr.cell? ⟨bb, ob + l, none⟩ = some (.bool (bs.getD l false)) := by rw [getD_in bs false l1]; exact rb.cellEM l1
          have cl0 : wr.cell? ⟨ba, oa + l, none⟩ = some (.int .i64 (L.getD l 0)) := by rw [getD_in L 0 l2]; exact rl.cellEM l2
          have cs0 : wr.cell? ⟨sb, l, none⟩ = some (.bool (S.getD l false)) := by rw [getD_in S false l3]; have := WS.rd.cellEM l3; rw [Nat.zero_add] at this; exact this
          generalize bs.getD l false = vb at cb0 hcase
          obtain ⟨vl, hvl⟩ : ∃ v, L.getD l 0 = v := ⟨_, rfl⟩
          have HVL := Lib.hid hvl
          rw [hvl] at cl0 hcase
          generalize S.getD l false = vs at cs0 hcase
          have HST' := Lib.hid hst
          clear hvl l1 l2 l3 hst rb rl
          have sb0 := World.block_lt_of_cell? wr _ cb0
          have sl0 := World.block_lt_of_cell? wr _ cl0
          have ss0 := World.block_lt_of_cell? wr _ cs0
          have sx0 := World.block_lt_of_cell? wr _ x0
          simp only at sb0 sl0 ss0 sx0
          go_wp2_with fail
          refine (HST.out _).mono ?_
          rintro e w1 ⟨rfl, b1⟩
          have hz1 := b1.size
          have bc := fun b o (h : b < wr.heap.size) => (bcell b1).1 b o h
          have cb1 := (bc bb (ob + l) sb0).trans cb0
          have cl1 := (bc ba (oa + l) sl0).trans cl0
          have cs1 := (bc sb l ss0).trans cs0
          have WS1 := WS.belo b1
          have G2 : w.grownBy w1 (some sb) := grownBy_trans' G1 (gr_bl b1)
          have X2 := X1.belo b1
          clear bc cb0 cl0 cs0 x0 x1 x2 X1 G1 WS
          obtain ⟨x0, x1, x2⟩ := id X2
          rcases hcase with ⟨rfl, hb⟩ | ⟨rfl, ⟨rfl, hb⟩ | ⟨rfl, hcase⟩⟩
          · have HB := Lib.hid (show betT W T bs (bet W T bs f) L c (5 - (k + 1)) S = bet W T bs (f + 1) L c seen by rw [← HR.out, hb, show 5 - (k + 1) = 4 - k by omega])
            clear hb
            go_wp2_with fail
            go_roundw
            case rel => exact ⟨k + 1, S, by omega, by omega, by go_num, rfl, HS, HU, HB, WS1, G2, X2⟩
            case measure => simp [intOf]; omega
          · have HB := Lib.hid (show betT W T bs (bet W T bs f) L c (5 - (k + 1)) S = bet W T bs (f + 1) L c seen by rw [← HR.out, hb, show 5 - (k + 1) = 4 - k by omega])
            clear hb
            go_wp2_with fail
            go_roundw
            case rel => exact ⟨k + 1, S, by omega, by omega, by go_num, rfl, HS, HU, HB, WS1, G2, X2⟩
            case measure => simp [intOf]; omega
          · obtain ⟨g', hg', -, -, hfz⟩ := WS1.form (by intro e; rw [List.map_eq_nil_iff] at e; rw [e] at HS; have := HS.out; simp at this; omega)
            have hgg : sb = g' := by injection hg' with hg'; injection hg'
            subst hgg
            have fs1 := hfz l
            have HC0 := Lib.hid hcase
            clear hfz hg' hcase
            have G3 : w.grownBy (w1.setCell ⟨sb, l, none⟩ (.bool true)) (some sb) := grownBy_trans' G2 (gr_set w1 sb l (.bool true))
            have W3 : Wr (w1.setCell ⟨sb, l, none⟩ (.bool true)) sb 4 (some ⟨sb, 0, none⟩) ((S.set l true).map .bool) := by rw [List.map_set]; exact WS1.store l _
            have X3 : C3 (w1.setCell ⟨sb, l, none⟩ (.bool true)) w.heap.size (.int .i64 W) (.int .i64 T) (.slice (some ⟨bb, ob, none⟩) n cb) := c3_gr X2 (by omega) (gr_set w1 sb l (.bool true))
            have hown0 : ((w1.setCell ⟨sb, l, none⟩ (.bool true)).alloc (.cells #[] 3)).ownsRow w1.heap.size 3 1 (.slice (some ⟨w1.heap.size, 0, none⟩) 0 0) 0 [] := by
              have h := World.ownsRow_lit (e := 3) (size := 1) (w1.setCell ⟨sb, l, none⟩ (.bool true)) #[] 0 (Nat.le_refl _) (by unfold maxLen; omega) (by simp)
              rw [show (w1.setCell ⟨sb, l, none⟩ (.bool true)).heap.size = w1.heap.size by simp] at h
              exact h
            have R3 := ((HRB.out _ G3).2).alloc (.cells #[] 3)
            obtain ⟨ad', e', hcell⟩ := R3 (by intro e; rw [List.map_eq_nil_iff] at e; have := HLL.out; rw [e] at this; simp at this; omega)
            have HC := Lib.hid (show ∀ j y, (L.map (Value.int .i64))[j]? = some y → ((w1.setCell ⟨sb, l, none⟩ (.bool true)).alloc (.cells #[] 3)).cell? ((⟨ba, oa, none⟩ : Addr).add j) = some y from fun j y hy => by injection e' with e'; rw [e']; exact hcell j y hy)
            have hsz1 : w.heap.size < w1.heap.size := by omega
            clear hcell e' R3
            have cl2 : (w1.setCell ⟨sb, l, none⟩ (.bool true)).cell? ⟨ba, oa + l, none⟩ = some (.int .i64 vl) := gb_far cl1 has
            have hba2 : ba < (w1.setCell ⟨sb, l, none⟩ (.bool true)).heap.size := by simp; omega
            have hsb2 : sb < (w1.setCell ⟨sb, l, none⟩ (.bool true)).heap.size := by simp; omega
            have hcL : c < L.length := by rw [HLL.out]; exact hcn
            have hlL : l < L.length := by rw [HLL.out]; exact hln
            have hlc1 : ¬ (l = c) := lc
            have hlc2 : ¬ (c = l) := fun e => lc e.symm
            have hcI : (c : Int) < (n : Int) := by omega
            clear WS1 G2 X2 b1
            have hsw2 : w.heap.size < (w1.setCell ⟨sb, l, none⟩ (.bool true)).heap.size := by simp; omega
            rcases HC0.out with ⟨rfl, hb⟩ | ⟨hz, o, ho, oc, o2, hFo, hun, hb⟩
            · have HB := Lib.hid hb
              have hz0 : ((0 : Int) == 0) = true := rfl
              clear hb HC0
              go_wp2_with (first
                | (at_builtin; refine wpList_append_own _ rfl _ _ 39 rfl w1.heap.size 3 i0 (.int .i64 0) 1 8 Try.underlying39 hi HZ.out.1 HZ.out.2.1 HZ.out.2.2 rfl (by decide) _ _ _ rfl hown0 ⟨ba, oa, none⟩ n cL (L.map (.int .i64)) rfl (by rw [List.length_map, Nat.mul_one]; exact HLL.out) HC.out (by intro y hy; obtain ⟨b, _, rfl⟩ := List.mem_map.1 hy; rfl) (by unfold maxLen; omega) (by omega) (by simp) ?_; intro v' w3 hown3 hg3 _; have b3 : Below (w1.setCell ⟨sb, l, none⟩ (.bool true)).heap.size (w1.setCell ⟨sb, l, none⟩ (.bool true)) w3 := (bl_alloc (Below.refl (w1.setCell ⟨sb, l, none⟩ (.bool true)).heap.size (w1.setCell ⟨sb, l, none⟩ (.bool true))) _).grown hg3 (by simp) (fun k hk => by have h2 : some w1.heap.size = some k := hk; injection h2 with h2; simp; omega); have cl3 := ((bcell b3).1 ba (oa + l) hba2).trans cl2; simp only [Nat.zero_add, List.nil_append] at hown3; obtain ⟨g, cap, rfl, hg, hgl⟩ := hown3.form (by omega); obtain ⟨⟨uc, gc⟩, fc⟩ := own_atI hown3 hcL; obtain ⟨⟨ul, gl⟩, fl⟩ := own_atI hown3 hlL)
                | (go_at_call 114; refine (sback_any _ _ (by omega) (by omega)).mono ?_; rintro e w' ⟨rfl, rfl⟩))
              have hgw : w.heap.size ≤ g := by omega
              have hgs : g ≠ sb := by omega
              have hw3 := Wr.of_own hown3
              have hcap := own_capI hown3
              have hfin := (hw3.store c (.int .i64 k)).store l (.int .i64 (backZ k))
              refine bodyPost_ret (v := .tuple #[.slice (some ⟨g, 0, none⟩) n cap, .slice (some ⟨sb, 0, none⟩) n cs, .bool true]) (by simp [results, Try.results58, go_sem]) rfl ?_
              rw [← HR.out, HB.out]
              refine ⟨some ⟨g, 0, none⟩, n, cap, rfl, by simp [HLL.out], hcap, ?_, ?_, fun ad h => by injection h with h; subst h; exact hgw, ?_⟩
              · show Rd _ _ (((L.set c (k : Int)).set l (backZ k)).map (.int .i64))
                rw [List.map_set, List.map_set]; exact hfin.rd
              · exact wr_set (wr_set (W3.belo b3) g c _ (fun ad h => by injection h with h; subst h; exact hgs.symm)) g l _ (fun ad h => by injection h with h; subst h; exact hgs.symm)
              · exact gr_set' g l _ (gr_set' g c _ (grownBy_trans' G3 (gr_bl b3)) hgw) hgw
            · have hz1 : (vl == 0) = false := by simpa using hz
              have hln36 : (l : Int) < W * T := by have := HWT.out; omega
              have HST2 := Lib.hid (fun z => by
                have := l2step_any W T (.slice (some ⟨bb, ob, none⟩) n cb) l vl z hw1 hw6 ht1 ht6 (by omega) hln36
                rw [ho] at this
                exact this)
              have hon : o < n := by have := HN.out; omega
              have hoI : (o : Int) < (n : Int) := by omega
              have hoL : o < L.length := by rw [HLL.out]; exact hon
              have HHO := Lib.hid ho
              obtain ⟨r, hr⟩ : ∃ r, bet W T bs f (((L.set o 0).set l (backZ k)).set c k) o (S.set l true) = r := ⟨_, rfl⟩
              have HUS := Lib.hid (show unseen (S.set l true) < f by have := HU.out; omega)
              have HSS := Lib.hid (show (S.set l true).length = n by rw [List.length_set]; exact HS.out)
              have HFO := Lib.hid hFo
              have CI := Lib.hid (fun (g cap : Nat) (z : World) (Rb : Rd z (some ⟨bb, ob, none⟩) (bs.map .bool)) (hgs : g ≠ sb) (Rl : Rd z (some ⟨g, 0, none⟩) ((((L.set o 0).set l (backZ k)).set c k).map (.int .i64))) (Wz : Wr z sb 4 (some ⟨sb, 0, none⟩) ((S.set l true).map .bool)) => by
                have := IH.out _ o (S.set l true) (some ⟨g, 0, none⟩) cap cs sb z Rb (fun ad h => by injection h with h; subst h; exact hbs) Rl (fun ad h => by injection h with h; subst h; exact hgs) Wz hFo HSS.out HUS.out
                rw [hr] at this
                exact this)
              rw [hr] at hb
              have HRR := Lib.hid hr
              obtain ⟨r1, r2, r3⟩ := r
              simp only at hb
              have HB := Lib.hid hb
              have hoc1 : ¬ (o = c) := oc
              have hoc2 : ¬ (c = o) := fun e => oc e.symm
              have hol : o ≠ l := fun e => by
                have h1 := hFo.cd
                have h2 := step_info HF.out HFR.out.c1 HFR.out.cd (way := (k : Int)) (by rw [HST'.out]; omega)
                obtain ⟨l', e1, -, h3, -⟩ := h2
                have e2 : l' = l := by have := HST'.out; omega
                rw [e2] at h3
                rw [e, h3] at h1
                cases h1
              have hol1 : ¬ (o = l) := hol
              have hol2 : ¬ (l = o) := fun e => hol e.symm
              clear hb HC0 hr ho hz hun hFo
              go_wp2_with (first | (at_builtin; go_loud (refine wpList_append_own _ rfl _ _ 39 rfl w1.heap.size 3 i0 (.int .i64 0) 1 8 Try.underlying39 hi HZ.out.1 HZ.out.2.1 HZ.out.2.2 rfl (by decide) _ _ _ rfl hown0 ⟨ba, oa, none⟩ n cL (L.map (.int .i64)) rfl (by rw [List.length_map, Nat.mul_one]; exact HLL.out) HC.out (by intro y hy; obtain ⟨b, _, rfl⟩ := List.mem_map.1 hy; rfl) (by unfold maxLen; omega) (by omega) (by simp) ?_; intro v' w3 hown3 hg3 _; have b3 : Below (w1.setCell ⟨sb, l, none⟩ (.bool true)).heap.size (w1.setCell ⟨sb, l, none⟩ (.bool true)) w3 := (bl_alloc (Below.refl (w1.setCell ⟨sb, l, none⟩ (.bool true)).heap.size (w1.setCell ⟨sb, l, none⟩ (.bool true))) _).grown hg3 (by simp) (fun k hk => by have h2 : some w1.heap.size = some k := hk; injection h2 with h2; simp; omega); have cl3 := ((bcell b3).1 ba (oa + l) hba2).trans cl2; simp only [Nat.zero_add, List.nil_append] at hown3; obtain ⟨g, cap, rfl, hg, hgl⟩ := hown3.form (by omega); obtain ⟨⟨uc, gc⟩, fc⟩ := own_atI hown3 hcL; obtain ⟨⟨ul, gl⟩, fl⟩ := own_atI hown3 hlL)))
              have hgw : w.heap.size < g := by omega
              have hgs : g ≠ sb := by omega
              have hw3 := Wr.of_own hown3
              have hcap := own_capI hown3
              have W3' := W3.belo b3
              have X3' := X3.belo b3
              have G3' : w.grownBy w3 (some sb) := grownBy_trans' G3 (gr_bl b3)
              clear hown3 hown0 hg3 b3 W3 X3 G3 HC gc fc gl fl hg hgl cl2
              obtain ⟨x0, x1, x2⟩ := id X3'
              have sx3 := World.block_lt_of_cell? w3 _ x0
              have sl3 := World.block_lt_of_cell? w3 _ cl3
              simp only at sx3 sl3
              have L0 : ∀ z : BW w3, z.wo.cell? ⟨w.heap.size, 0, none⟩ = some (.int .i64 W) := fun z => z.cell sx3 x0
              have L1 : ∀ z : BW w3, z.wo.cell? ⟨w.heap.size, 1, none⟩ = some (.int .i64 T) := fun z => z.cell sx3 x1
              have L2 : ∀ z : BW w3, z.wo.cell? ⟨w.heap.size, 2, none⟩ = some (.slice (some ⟨bb, ob, none⟩) n cb) := fun z => z.cell sx3 x2
              have L3 : ∀ z : BW w3, z.wo.cell? ⟨ba, oa + l, none⟩ = some (.int .i64 vl) := fun z => z.cell sl3 cl3
              (refine region_bw (by kernel_rfl) (by kernel_rfl) ?_; (repeat (first | go_big_quiet_skip | (go_big_quiet_want; go_big_quiet_op; first | go_big_quiet_on | (refine ⟨.int .i64 o, fun zz => ?_, ?_⟩; (go_at_call 113; with_reducible exact zz.on (HST2.out zz.wo)); go_big_quiet_on)))); refine wpQuiet_nil ?_; intro wz hw'; obtain ⟨zw, hw''⟩ := hw'; subst hw'')
              have hw4 := hw3.belo zw.ok
              have W4 := W3'.belo zw.ok
              have X4 := X3'.belo zw.ok
              have G4 : w.grownBy zw.wo (some sb) := grownBy_trans' G3' (gr_bl zw.ok)
              clear L0 L1 L2 L3 hw3 W3' X3' G3' x0 x1 x2 cl3 HST2
              generalize zw.wo = w4 at *
              clear zw
              obtain ⟨⟨uc, gc⟩, fc⟩ := wr_atI hw4 hcL
              obtain ⟨⟨ul, gl⟩, fl⟩ := wr_atI hw4 hlL
              obtain ⟨⟨uo, go⟩, fo⟩ := wr_atI hw4 hoL
              have hfin := ((hw4.store o (.int .i64 0)).store l (.int .i64 (backZ k))).store c (.int .i64 k)
              have R5 : Rd (((w4.setCell ⟨g, o, none⟩ (.int .i64 0)).setCell ⟨g, l, none⟩ (.int .i64 (backZ k))).setCell ⟨g, c, none⟩ (.int .i64 k)) (some ⟨g, 0, none⟩) ((((L.set o 0).set l (backZ k)).set c k).map (.int .i64)) := by
                rw [List.map_set, List.map_set, List.map_set]; exact hfin.rd
              have W5 : Wr (((w4.setCell ⟨g, o, none⟩ (.int .i64 0)).setCell ⟨g, l, none⟩ (.int .i64 (backZ k))).setCell ⟨g, c, none⟩ (.int .i64 k)) sb 4 (some ⟨sb, 0, none⟩) ((S.set l true).map .bool) :=
                wr_set (wr_set (wr_set W4 g o _ (fun ad h => by injection h with h; subst h; exact hgs.symm)) g l _ (fun ad h => by injection h with h; subst h; exact hgs.symm)) g c _ (fun ad h => by injection h with h; subst h; exact hgs.symm)
              have X5 : C3 (((w4.setCell ⟨g, o, none⟩ (.int .i64 0)).setCell ⟨g, l, none⟩ (.int .i64 (backZ k))).setCell ⟨g, c, none⟩ (.int .i64 k)) w.heap.size (.int .i64 W) (.int .i64 T) (.slice (some ⟨bb, ob, none⟩) n cb) :=
                ((X4.set (p := ⟨g, o, none⟩) (by show g ≠ _; omega) _).set (p := ⟨g, l, none⟩) (by show g ≠ _; omega) _).set (p := ⟨g, c, none⟩) (by show g ≠ _; omega) _
              have G5 : w.grownBy (((w4.setCell ⟨g, o, none⟩ (.int .i64 0)).setCell ⟨g, l, none⟩ (.int .i64 (backZ k))).setCell ⟨g, c, none⟩ (.int .i64 k)) (some sb) := gr_set' g c _ (gr_set' g l _ (gr_set' g o _ G4 (by omega)) (by omega)) (by omega)
              obtain ⟨x0, x1, x2⟩ := id X4
              have hgx1 : ¬ (w.heap.size = g) := by omega
              have hgx2 : ¬ (g = w.heap.size) := by omega
              clear X4 W4 G4 hw4 hfin
              go_wp2_with (go_at_call 114; refine (sback_any _ _ (by omega) (by omega)).mono ?_; rintro e w' ⟨rfl, rfl⟩)
              refine (CI.out g cap _ (HRB.out _ G5).1 hgs R5 W5).mono ?_
              rintro e w6 ⟨A6, m6, c6, rfl, hm6, hc6, R6, W6, N6, G6⟩
              have HM6 := Lib.hid hm6
              have G6' := grownBy_trans' G5 G6
              have X6 := c3_gr X5 (by omega) G6
              have hz5 := G5.size
              clear hm6 x0 x1 x2 gc gl go fc fl fo R5 W5 X5 CI
              cases r3 with
              | true =>
                go_wp2_with fail
                refine bodyPost_ret (v := .tuple #[.slice A6 m6 c6, .slice (some ⟨sb, 0, none⟩) n cs, .bool true]) (by simp [results, Try.results58, go_sem]) rfl ?_
                rw [← HR.out, HB.out]
                simp only [if_true]
                refine ⟨A6, m6, c6, rfl, HM6.out, hc6, ?_, ?_, fun ad h => Nat.le_trans hz5 (N6 ad h), ?_⟩
                · with_reducible exact R6
                · with_reducible exact W6
                · with_reducible exact G6'
              | false =>
                have hnx := bet_next (L := ((L.set o 0).set l (backZ k)).set c k) HF.out (c := o) (S := S.set l true) (f := f) HFO.out (by rw [HSS.out, HN.out]) HUS.out (by rw [HRR.out])
                rw [HRR.out] at hnx
                have HS6 := Lib.hid (show r2.length = n by rw [hnx.1, HSS.out])
                have HU6 := Lib.hid (show unseen r2 < f + 1 by have := hnx.2; have := HUS.out; simp only at *; omega)
                have HB6 := Lib.hid (show betT W T bs (bet W T bs f) L c (5 - (k + 1)) r2 = bet W T bs (f + 1) L c seen by rw [← HR.out, HB.out, if_neg (by simp), show 5 - (k + 1) = 4 - k by omega])
                clear hnx
                go_wp2_with fail
                go_roundw
                case rel => exact ⟨k + 1, r2, by omega, by omega, by go_num, rfl, HS6, HU6, HB6, W6, G6', X6⟩
                case measure => simp [intOf]; omega
      · obtain rfl : k = 5 := by omega
        have hge : ¬ ((5 : Int) ≤ 4) := by omega
        go_wp2_with fail
        refine bodyPost_ret (v := .tuple #[.slice (some ⟨wr.heap.size, 0, none⟩) 0 0, .slice (some ⟨sb, 0, none⟩) n cs, .bool false]) (by simp [results, Try.results58, go_sem]) rfl ?_
        rw [← HR.out]
        exact ⟨some ⟨wr.heap.size, 0, none⟩, 0, 0, rfl, rfl, Nat.le_refl _, Rd.nil _ _, WS.belo (bl_alloc (Below.refl _ _) _), fun ad h => by injection h with h; subst h; exact G1.size, grownBy_trans' G1 (gr_bl (bl_alloc (Below.refl _ _) _))⟩
end Go.Proofs.Ytnciemnlnijhfaa
