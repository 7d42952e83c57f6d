/- Contract: the program's BarsMany: the closure that counts. -/
import Derived.Test.YtnciemnlnijhfaaBarsN
import Derived.Test.YtnciemnlnijhfaaGb
import Derived.Test.YtnciemnlnijhfaaBoxes
import Derived.Test.YtnciemnlnijhfaaStep
namespace Go.Proofs.Ytnciemnlnijhfaa
open Go.RowKit

theorem OwnI.set {w : World} {base : Nat} {v : Value} {xs : List Int} (h : OwnI w base v xs) {a : Addr} (ha : a.block < base) (u : Value) : OwnI (w.setCell a u) base v xs := by
  obtain ⟨A, c, e, h⟩ := h; exact ⟨A, c, e, ownsRow_setCell_below h ha u⟩
theorem OwnI.grown {w w' : World} {base g : Nat} {v : Value} {xs : List Int} (h : OwnI w base v xs) (hg : w.grownBy w' (some g)) (hlt : g < base) : OwnI w' base v xs := by
  obtain ⟨A, c, e, h⟩ := h
  refine ⟨A, c, e, h.kept hg ?_⟩
  rcases h.2 with ⟨h', _⟩ | ⟨g', cap', cur, h', hb, _⟩
  · left; rw [h']; rfl
  · right; rw [h']; intro e2; simp [Value.ownBlock] at e2; omega
theorem OwnI.one (w : World) (u : Int) : OwnI (w.alloc (.cells #[.int .i64 u] 3)) w.heap.size (.slice (some ⟨w.heap.size, 0, none⟩) 1 1) [u] :=
  ⟨_, _, rfl, World.ownsRow_lit w #[.int .i64 u] 1 (Nat.le_refl _) (by unfold maxLen; omega) (by simp)⟩
/-- what is written from base on leaves the row g -/
theorem Wr.far {w w' : World} {lo base g : Nat} {e : TypeId} {xs : List Value} (h : Wr w lo e (some ⟨g, 0, none⟩) xs) (hb : Below base w w') (hlt : g < base) : Wr w' lo e (some ⟨g, 0, none⟩) xs :=
  h.keep fun g' e _ => hb.block g' (by injection e with e; injection e with e; omega)
theorem gb_far2 {w wr w' : World} {base : Nat} {row : Option Nat} (hg : w.grownBy wr row) (hb : Below base wr w') (h : w.heap.size ≤ base) : w.grownBy w' row :=
  ⟨hb.os.trans hg.os, hb.tape.trans hg.tape, hb.output.trans hg.output, Nat.le_trans hg.size hb.size, fun i hi hn => (hb.block i (by omega)).trans (hg.block i hi hn)⟩

/-- what the closure finds -/
structure Bst (W T : Int) (long n c0 : Nat) (bs : List Bool) (A : Option Addr) (g bc br bl bk : Nat) (w : World) : Prop where
  cc : w.cell? ⟨bc, 0, none⟩ = some (.slice (some ⟨g, 0, none⟩) n n)
  cr : C3 w br (.int .i64 W) (.int .i64 T) (.slice A n c0)
  cl : w.cell? ⟨bl, 0, none⟩ = some (.int .i64 long)
  ck : w.cell? ⟨bk, 0, none⟩ = some (.func (.func 98) #[] #[.pointer (some ⟨bc, 0, none⟩), .pointer (some ⟨br, 0, none⟩), .pointer (some ⟨bl, 0, none⟩), .pointer (some ⟨bk, 0, none⟩)])
  hr : Rd w A (bs.map .bool)
  d1 : bc ≠ g
  d2 : br ≠ g
  d3 : bl ≠ g
  d4 : bk ≠ g
  d5 : ∀ ad, A = some ad → ad.block ≠ g
theorem Bst.gb {W T : Int} {long n c0 : Nat} {bs : List Bool} {A : Option Addr} {g bc br bl bk : Nat} {w w' : World} (h : Bst W T long n c0 bs A g bc br bl bk w) (hg : w.grownBy w' (some g)) : Bst W T long n c0 bs A g bc br bl bk w' :=
  ⟨gb_cell hg h.d1 h.cc, h.cr.gb hg h.d2, gb_cell hg h.d3 h.cl, gb_cell hg h.d4 h.ck, h.hr.grownBelow hg (fun _ ad e e2 => h.d5 ad e (by injection e2)), h.d1, h.d2, h.d3, h.d4, h.d5⟩
def BarsOk (W T : Int) (long n c0 : Nat) (bs : List Bool) (A : Option Addr) (g bc br bl bk lo : Nat) (f : Nat) : Prop :=
  ∀ (w : World) (cov : List Bool) (cell : Nat), Bst W T long n c0 bs A g bc br bl bk w → Wr w lo 4 (some ⟨g, 0, none⟩) (cov.map .bool) → cov.length = n → cell ≤ n → cnt (freeL bs cov) ≤ f →
    (∀ k (hk : k < (freeL bs cov).length), k < cell → (freeL bs cov)[k] = false) →
    Calls Try.prog 98 #[.int .i64 cell, .pointer (some ⟨bc, 0, none⟩), .pointer (some ⟨br, 0, none⟩), .pointer (some ⟨bl, 0, none⟩), .pointer (some ⟨bk, 0, none⟩)] w fun e w' =>
      e = .returned (.int .i64 (barsN W T long f (freeL bs cov))) ∧ Wr w' lo 4 (some ⟨g, 0, none⟩) (cov.map .bool) ∧ w.grownBy w' (some g)
theorem barsN_none {W T : Int} {long f : Nat} {F : List Bool} (h : firstB F = F.length) : barsN W T long f F = 1 := by
  cases f with
  | zero => rfl
  | succ f => rw [barsN, if_pos h]
theorem cnt_pos {F : List Bool} {k : Nat} (hk : k < F.length) (h : F[k] = true) : 1 ≤ cnt F := by
  have := cnt_set_lt F k hk h
  have := (cnt_le (F.set k false)).1
  omega

set_option maxRecDepth 100000 in
set_option maxHeartbeats 2000000 in
theorem bars_step (W T : Int) (long n c0 : Nat) (bs : List Bool) (A : Option Addr) (g bc br bl bk lo : Nat) (h1 : 1 ≤ W) (h2 : W ≤ 6) (h3 : 1 ≤ T) (h4 : T ≤ 6) (l1 : 2 ≤ long) (l2 : long ≤ 4)
    (hn : bs.length = n) (hWT : W * T = (n : Int)) (f : Nat) (hf : f ≤ 24) (ih : ∀ f', f' < f → BarsOk W T long n c0 bs A g bc br bl bk lo f') : BarsOk W T long n c0 bs A g bc br bl bk lo f := by
  intro w cov cell S hw hcl hcell hcnt hpre
  have n36 : n ≤ 36 := by have := mul_bd h1 h2 h3 h4; omega
  have HN := Lib.hid hn
  have HCL := Lib.hid hcl
  have HWT := Lib.hid hWT
  have HIH := Lib.hid ih
  have HPRE := Lib.hid hpre
  have HCNT := Lib.hid hcnt
  have hFl : (freeL bs cov).length = n := by rw [freeL_len (by omega)]; exact hn
  have HFL := Lib.hid hFl
  have hgw : g < w.heap.size := by
    by_cases h0 : n = 0
    · have := mul_bd h1 h2 h3 h4; omega
    · obtain ⟨g', e, _, hg, _⟩ := hw.form (by intro e; have := congrArg List.length e; simp at this; subst this; simp at hcl; omega)
      have : g = g' := by injection e with e; injection e
      omega
  clear hn hcl hWT ih hpre hcnt hFl
  obtain ⟨cc, cr, cl, ck, hr, -, -, -, -, -⟩ := id S
  obtain ⟨r0, r1, r2⟩ := id cr
  go_enter Try.func98, Try.ntmps98
  go_wp2_with fail
  go_loop [0] (fun v => ∃ k : Nat, k ≤ n ∧ v = .int .i64 k ∧ Hid (∀ j (hj : j < (freeL bs cov).length), j < k → (freeL bs cov)[j] = false)) (fun v => n - (intOf v).toNat)
  case atStart => exact ⟨cell, hcell, rfl, HPRE.out⟩
  case round =>
    obtain ⟨k, hk, rfl, HK⟩ := hrel
    by_cases hlt : k < n
    · have kb : k < bs.length := by have := HN.out; omega
      have kc : k < cov.length := by have := HCL.out; omega
      obtain ⟨b, off, rfl, cb⟩ := hr.atEM kb
      have cv := hw.rd.cellEM kc
      simp only [Nat.zero_add] at cv
      have HG := Lib.hid (freeL_get kb kc)
      have kI : (k : Int) < (n : Int) := by omega
      cases hb : bs[k] with
      | false =>
        rw [hb] at cb
        have HF := Lib.hid (show (freeL bs cov)[k]'(by rw [HFL.out]; exact hlt) = false by rw [HG.out, hb]; rfl)
        clear hb
        go_wp2_with fail
        go_round
        case rel =>
          refine ⟨k + 1, by omega, by go_num, fun j hj hj2 => ?_⟩
          rcases Nat.lt_or_ge j k with h | h
          · exact HK.out j hj h
          · obtain rfl : j = k := by omega
            exact HF.out
        case measure => simp [intOf]; omega
      | true =>
        rw [hb] at cb
        cases hc : cov[k] with
        | true =>
          rw [hc] at cv
          have HF := Lib.hid (show (freeL bs cov)[k]'(by rw [HFL.out]; exact hlt) = false by rw [HG.out, hb, hc]; rfl)
          clear hb hc
          go_wp2_with fail
          go_round
          case rel =>
            refine ⟨k + 1, by omega, by go_num, fun j hj hj2 => ?_⟩
            rcases Nat.lt_or_ge j k with h | h
            · exact HK.out j hj h
            · obtain rfl : j = k := by omega
              exact HF.out
          case measure => simp [intOf]; omega
        | false =>
          rw [hc] at cv
          have HF := Lib.hid (show (freeL bs cov)[k]'(by rw [HFL.out]; exact hlt) = true by rw [HG.out, hb, hc]; rfl)
          clear hb hc
          have hkn : ((k : Int) == (n : Int)) = false := by rw [beq_eq_false_iff_ne]; omega
          have hfp := cnt_pos (by rw [HFL.out]; exact hlt) HF.out
          obtain ⟨f', rfl⟩ : ∃ f', f = f' + 1 := ⟨f - 1, by have := HCNT.out; omega⟩
          have HFIRST := Lib.hid (firstB_eq (F := freeL bs cov) (c := k) (by rw [HFL.out]; omega) HK.out (fun _ => HF.out))
          clear hfp
          go_wp2_with fail
          have hg0 : w.grownBy (w.alloc (.cells #[.int .i64 1, .int .i64 2] 3)) (some g) := gb_below (World.grownBy.refl _ _) (bl_alloc (Below.refl _ _) _)
          have h12 : Rd (w.alloc (.cells #[.int .i64 1, .int .i64 2] 3)) (some ⟨w.heap.size, 0, none⟩) (([1, 2] : List Int).map (.int .i64)) :=
            Rd.own (World.ownsRow_lit (e := 3) (size := 1) w #[.int .i64 1, .int .i64 2] 2 (Nat.le_refl _) (by unfold maxLen; omega) (by simp))
          have hw0 := hw.belo (bl_alloc (Below.refl w.heap.size w) (.cells #[.int .i64 1, .int .i64 2] 3))
          have HB := Lib.hid (show barsN W T long (f' + 1) (freeL bs cov) = sumB W T long (barsN W T long f') (freeL bs cov) k 2 by
            rw [barsN, if_neg (by rw [HFIRST.out, HFL.out]; omega), HFIRST.out])
          have HPW := Lib.hid (show ((2 : Int) ^ f') ≤ 16777216 by
            have e : (2 : Int) ^ f' = ((2 ^ f' : Nat) : Int) := by simp
            have := Nat.pow_le_pow_right (show 1 ≤ 2 by omega) (show f' ≤ 24 by omega)
            rw [e]; omega)
          have hpg : w.heap.size ≠ g := by omega
          clear hw cb cv r0 r1 r2 cc cl ck cr hkn
          generalize w.alloc (.cells #[.int .i64 1, .int .i64 2] 3) = wq at *
          go_loopw [7, 42] (fun v i wr => ∃ q : Nat, q ≤ 2 ∧ i = .int .i64 q ∧ v = .int .i64 (sumB W T long (barsN W T long f') (freeL bs cov) k q) ∧ Wr wr lo 4 (some ⟨g, 0, none⟩) (cov.map .bool) ∧ Rd wr (some ⟨w.heap.size, 0, none⟩) (([1, 2] : List Int).map (.int .i64)) ∧ w.grownBy wr (some g)) (fun _ i _ => 3 - (intOf i).toNat)
          case atStart => exact ⟨0, by omega, rfl, rfl, hw0, h12, hg0⟩
          case round =>
            clear hw0 h12 hg0
            obtain ⟨q, hq, rfl, rfl, hw, h12, hg⟩ := hrel
            by_cases hq2 : q < 2
            · have S2 := S.gb hg
              obtain ⟨cc, cr, cl, ck, hr2, -, -, -, -, -⟩ := id S2
              obtain ⟨r0, r1, r2⟩ := id cr
              have cq := h12.cellEM (k := q) (by simpa using hq2)
              rw [show ([1, 2] : List Int)[q]'(by simpa using hq2) = (q : Int) + 1 by rcases (show q = 0 ∨ q = 1 from by omega) with rfl | rfl <;> rfl] at cq
              simp only [Nat.zero_add] at cq
              obtain ⟨d, hd⟩ : ∃ d, (q : Int) + 1 = d := ⟨_, rfl⟩
              have HD := Lib.hid hd
              rw [hd] at cq
              clear hd
              obtain ⟨S0, hS0⟩ : ∃ S0, sumB W T long (barsN W T long f') (freeL bs cov) k q = S0 := ⟨_, rfl⟩
              have hSb := sumB_bd W T long f' (freeL bs cov) k q hq
              rw [hS0] at hSb ⊢
              have HS0 := Lib.hid hS0
              clear hS0
              obtain ⟨hSb1, hSb2⟩ := hSb
              have hSb3 : S0 ≤ 33554432 := by have := HPW.out; omega
              clear hSb2
              have hgo : g < wr.heap.size := Nat.lt_of_lt_of_le hgw hg.size
              have hpo : w.heap.size < wr.heap.size := by have := World.block_lt_of_cell? wr _ cq; simpa using this
              obtain ⟨wo, hwo⟩ : ∃ wo : World, wo = wr := ⟨_, rfl⟩
              subst hwo
              have HKW := Lib.hid (show (k : Int) < W * T by have := HWT.out; omega)
              have qI : (q : Int) < 2 := by omega
              have sbr := World.block_lt_of_cell? wo _ r0
              simp only at sbr
              go_wp2_with fail
              refine (step_any W T _ k d _ h1 h2 h3 h4 (by omega) HKW.out).mono ?_
              rintro e w3 ⟨rfl, b3⟩
              have own3 := (OwnI.one wo k).belo b3
              have hw3 := (hw.belo (bl_alloc (Below.refl wo.heap.size wo) (.cells #[.int .i64 k] 3))).belo b3
              have G3 : wo.grownBy w3 (some g) := gb_below (gb_below (World.grownBy.refl _ _) (bl_alloc (Below.refl _ _) (.cells #[.int .i64 k] 3))) b3
              have hs3 : wo.heap.size ≤ w3.heap.size := G3.size
              have hst := step_bd d h1 h2 h3 h4 (show 0 ≤ (k : Int) by omega) HKW.out
              rw [HWT.out] at hst
              obtain ⟨t0, ht0⟩ : ∃ t0, stepZ W T k d = t0 := ⟨_, rfl⟩
              rw [ht0] at hst ⊢
              have HBAR := Lib.hid (show [(k : Int)] ++ barL W T (freeL bs cov) d (long - 1) t0 = barL W T (freeL bs cov) d long k by
                obtain ⟨m, rfl⟩ : ∃ m, long = m + 1 := ⟨long - 1, by omega⟩
                rw [barL_head (by rw [HFL.out]; exact hlt) HF.out, ht0]; rfl)
              clear ht0 b3 cq cc cr cl ck hr2 r0 r1 r2 hw
              go_wp2_with fail
              go_loopw [10, 11] (fun v a wz => ∃ (L : List Int) (t : Int), a = .int .i64 t ∧ OwnI wz wo.heap.size v L ∧ Hid (L ++ barL W T (freeL bs cov) d (long - L.length) t = barL W T (freeL bs cov) d long k) ∧ 1 ≤ L.length ∧ L.length ≤ long ∧ (t = -1 ∨ (0 ≤ t ∧ t < (n : Int))) ∧ Wr wz lo 4 (some ⟨g, 0, none⟩) (cov.map .bool) ∧ wo.grownBy wz (some g)) (fun v _ _ => match v with | .slice _ m _ => long - m | _ => 0)
              case atStart => exact ⟨[(k : Int)], t0, rfl, own3, HBAR.out, Nat.le_refl _, by simp; omega, hst, hw3, G3⟩
              case round =>
                clear own3 hw3 G3 hs3 hst HBAR
                obtain ⟨L, t, rfl, hown, HBAR, lL1, lL2, ht, hw, G⟩ := hrel
                obtain ⟨A3, c3, rfl, hown'⟩ := id hown
                clear hown'
                have S3 := S2.gb G
                obtain ⟨cc, cr, cl, ck, hr3, -, -, -, -, -⟩ := id S3
                obtain ⟨r0, r1, r2⟩ := id cr
                by_cases hgo2 : (0 ≤ t ∧ (freeL bs cov).getD t.toNat false = true) ∧ L.length < long
                · obtain ⟨⟨t0', hfree⟩, hll⟩ := hgo2
                  obtain ⟨tn, rfl⟩ := Int.eq_ofNat_of_zero_le t0'
                  have htn : tn < n := by omega
                  have tb : tn < bs.length := by have := HN.out; omega
                  have tc : tn < cov.length := by have := HCL.out; omega
                  rw [Int.toNat_natCast, getD_at _ false (by rw [HFL.out]; exact htn), freeL_get tb tc] at hfree
                  simp only [Bool.and_eq_true, Bool.not_eq_true'] at hfree
                  obtain ⟨e1, e2⟩ := hfree
                  have cb := hr3.cellEM tb
                  have cv := hw.rd.cellEM tc
                  rw [e1] at cb
                  rw [e2] at cv
                  simp only [Nat.zero_add] at cv
                  have HB2 := Lib.hid (show (L ++ [(tn : Int)]) ++ barL W T (freeL bs cov) d (long - (L ++ [(tn : Int)]).length) (stepZ W T tn d) = barL W T (freeL bs cov) d long k by
                    rw [← HBAR.out]
                    obtain ⟨m, hm⟩ : ∃ m, long - L.length = m + 1 := ⟨long - L.length - 1, by omega⟩
                    rw [hm, barL_head (by rw [HFL.out]; exact htn) (by rw [freeL_get tb tc, e1, e2]; rfl), List.length_append, List.length_singleton, show long - (L.length + 1) = m by omega]
                    simp)
                  have HTW := Lib.hid (show (tn : Int) < W * T by have := HWT.out; omega)
                  have tI : (tn : Int) < (n : Int) := by omega
                  have lI : (L.length : Int) < (long : Int) := by omega
                  have hsz : wo.heap.size ≤ wr.heap.size := G.size
                  have HG := Lib.hid G
                  have HW4 := Lib.hid hw
                  clear e1 e2 ht t0' hw
                  go_wp2_with (at_builtin; refine app_int _ rfl _ _ rfl wo.heap.size _ _ rfl hown _ rfl (by omega) hsz ?_; intro A' c' w4 hown4 hg4; have b4 := app_below (Below.refl wo.heap.size wr) (Nat.le_refl _) hsz hown hg4; have G4 := gb_far2 HG.out b4 (Nat.le_refl _); obtain ⟨y0, y1, y2⟩ := (S2.gb G4).cr)
                  refine (step_any W T _ tn d _ h1 h2 h3 h4 (by omega) HTW.out).mono ?_
                  rintro e w5 ⟨rfl, b5⟩
                  have hst := step_bd d h1 h2 h3 h4 (show 0 ≤ (tn : Int) by omega) HTW.out
                  rw [HWT.out] at hst
                  have HST := Lib.hid hst
                  clear hst
                  go_wp2_with fail
                  go_roundw
                  case rel => exact ⟨L ++ [(tn : Int)], _, rfl, by simpa using hown4.belo b5, HB2.out, by simp, by simp; omega, HST.out, (HW4.out.far b4 hgo).belo b5, gb_below G4 b5⟩
                  case measure => simp; omega
                · have HL := Lib.hid (show L = barL W T (freeL bs cov) d long k by
                    rw [← HBAR.out]
                    have : barL W T (freeL bs cov) d (long - L.length) t = [] := by
                      rcases Nat.lt_or_ge L.length long with h | h
                      · obtain ⟨m, hm⟩ : ∃ m, long - L.length = m + 1 := ⟨long - L.length - 1, by omega⟩
                        rw [hm, barL, if_neg (fun h2 => hgo2 ⟨h2, h⟩)]
                      · rw [show long - L.length = 0 by omega]; rfl
                    rw [this, List.append_nil])
                  have hex : (t = -1) ∨ (∃ tn : Nat, t = tn ∧ tn < n ∧ ∃ (h1 : tn < bs.length) (h2 : tn < cov.length), (bs[tn] = false ∨ (bs[tn] = true ∧ cov[tn] = true) ∨ (bs[tn] = true ∧ cov[tn] = false ∧ long ≤ L.length))) := by
                    rcases ht with ht | ⟨ht1, ht2⟩
                    · exact .inl ht
                    · right
                      obtain ⟨tn, rfl⟩ := Int.eq_ofNat_of_zero_le ht1
                      have tb : tn < bs.length := by have := HN.out; omega
                      have tc : tn < cov.length := by have := HCL.out; omega
                      refine ⟨tn, rfl, by omega, tb, tc, ?_⟩
                      cases e1 : bs[tn] with
                      | false => exact .inl rfl
                      | true =>
                        cases e2 : cov[tn] with
                        | true => exact .inr (.inl ⟨rfl, rfl⟩)
                        | false =>
                          refine .inr (.inr ⟨rfl, rfl, ?_⟩)
                          rcases Nat.lt_or_ge L.length long with h | h
                          · exact absurd ⟨⟨by omega, by rw [Int.toNat_natCast, getD_at _ false (by rw [HFL.out]; omega), freeL_get tb tc, e1, e2]; rfl⟩, h⟩ hgo2
                          · exact h
                  clear hgo2 ht HBAR
                  by_cases hll : L.length < long
                  · have HP := Lib.hid (show sumB W T long (barsN W T long f') (freeL bs cov) k (q + 1) = S0 by
                      rw [sumB, HS0.out, HD.out, partB, if_neg (by rw [← HL.out]; omega)]; omega)
                    have lI : (L.length : Int) < (long : Int) := by omega
                    have ldec : decide ((L.length : Int) < (long : Int)) = true := by simp; omega
                    rcases hex with rfl | ⟨tn, rfl, htn, tb, tc, e1 | ⟨e1, e2⟩ | ⟨e1, e2, e3⟩⟩
                    · go_wp2_with fail
                      go_roundw
                      case rel => exact ⟨q + 1, by omega, by go_num, by rw [HP.out], hw, Rd.grownBelow h12 G (fun _ ad e => by injection e with e; subst e; intro h; injection h with h; exact hpg h), grownBy_trans' hg G⟩
                      case measure => simp [intOf]; omega
                    · have cb := hr3.cellEM tb
                      rw [e1] at cb
                      have tI : (tn : Int) < (n : Int) := by omega
                      clear e1
                      go_wp2_with fail
                      go_roundw
                      case rel => exact ⟨q + 1, by omega, by go_num, by rw [HP.out], hw, Rd.grownBelow h12 G (fun _ ad e => by injection e with e; subst e; intro h; injection h with h; exact hpg h), grownBy_trans' hg G⟩
                      case measure => simp [intOf]; omega
                    · have cb := hr3.cellEM tb
                      have cv := hw.rd.cellEM tc
                      rw [e1] at cb
                      rw [e2] at cv
                      simp only [Nat.zero_add] at cv
                      have tI : (tn : Int) < (n : Int) := by omega
                      clear e1 e2
                      go_wp2_with fail
                      go_roundw
                      case rel => exact ⟨q + 1, by omega, by go_num, by rw [HP.out], hw, Rd.grownBelow h12 G (fun _ ad e => by injection e with e; subst e; intro h; injection h with h; exact hpg h), grownBy_trans' hg G⟩
                      case measure => simp [intOf]; omega
                    · omega
                  · have hge : long ≤ L.length := by omega
                    have HLE := Lib.hid (show L.length = long by omega)
                    have HMEM := Lib.hid (show ∀ x ∈ L, 0 ≤ x ∧ x < (n : Int) from fun x hx => by
                      rw [HL.out] at hx
                      obtain ⟨m1, m2, -⟩ := barL_mem x hx
                      rw [HFL.out] at m2; omega)
                    have HBACK := Lib.hid (show ∀ c ∈ L, ∀ (hc : c.toNat < cov.length), cov[c.toNat] = false from fun x hx hc => by
                      rw [HL.out] at hx
                      obtain ⟨m1, m2, m3⟩ := barL_mem x hx
                      rw [freeL_get (by have := HN.out; have := HCL.out; omega) hc] at m3
                      simp at m3; exact m3.2)
                    have HSUM := Lib.hid (show sumB W T long (barsN W T long f') (freeL bs cov) k (q + 1) = sumB W T long (barsN W T long f') (freeL bs cov) k q + barsN W T long f' (clearL (freeL bs cov) L) by
                      rw [sumB, HD.out, partB, if_pos ⟨by rw [← HL.out]; exact HLE.out, .inl (by omega)⟩, ← HL.out])
                    have HC2 := Lib.hid (show cnt (clearL (freeL bs cov) L) ≤ f' by
                      have := cnt_bar (W := W) (T := T) (d := d) (n := long) (by omega) (by rw [HFL.out]; exact hlt) HF.out
                      rw [← HL.out] at this
                      have := HCNT.out; omega)
                    have HCLR := Lib.hid (show ∀ i (hi : i < (clearL (freeL bs cov) L).length), i < k + 1 → (clearL (freeL bs cov) L)[i] = false from fun i hi hi2 => by
                      have hi3 : i < (freeL bs cov).length := by rw [clearL_len] at hi; exact hi
                      rw [clearL_get]
                      split
                      · rfl
                      · rename_i hx
                        rcases Nat.lt_or_ge i k with h | h
                        · exact HK.out i hi3 h
                        · obtain rfl : i = k := by omega
                          exfalso; apply hx
                          refine ⟨(i : Int), ?_, Int.toNat_natCast i⟩
                          rw [HL.out]
                          obtain ⟨m, rfl⟩ : ∃ m, long = m + 1 := ⟨long - 1, by omega⟩
                          rw [barL_head hi3 HF.out]; exact List.mem_cons_self)
                    have ldec : decide ((L.length : Int) < (long : Int)) = false := by simp; omega
                    have hll' : ¬ ((L.length : Int) < (long : Int)) := by omega
                    have hex2 : (t = -1) ∨ (∃ tn : Nat, t = tn ∧ tn < n ∧ (wr.cell? ⟨b, off + tn, none⟩ = some (.bool false) ∨ (wr.cell? ⟨b, off + tn, none⟩ = some (.bool true) ∧ wr.cell? ⟨g, tn, none⟩ = some (.bool true)) ∨ (wr.cell? ⟨b, off + tn, none⟩ = some (.bool true) ∧ wr.cell? ⟨g, tn, none⟩ = some (.bool false)))) := by
                      rcases hex with h | ⟨tn, h, htn, tb, tc, h2⟩
                      · exact .inl h
                      · right
                        have cb := hr3.cellEM tb
                        have cv := hw.rd.cellEM tc
                        simp only [Nat.zero_add] at cv
                        refine ⟨tn, h, htn, ?_⟩
                        rcases h2 with e1 | ⟨e1, e2⟩ | ⟨e1, e2, -⟩
                        · left; rw [cb, e1]
                        · right; left; exact ⟨by rw [cb, e1], by rw [cv, e2]⟩
                        · right; right; exact ⟨by rw [cb, e1], by rw [cv, e2]⟩
                    clear hex
                    rcases hex2 with rfl | ⟨tn, rfl, htn, e1 | ⟨e1, e2⟩ | ⟨e1, e2⟩⟩
                    · have tT : True := trivial
                      go_wp2_with fail
                      obtain ⟨wz, hwz⟩ : ∃ wz : World, wz = wr := ⟨_, rfl⟩
                      subst hwz
                      go_loopw [88] (fun i wz => ∃ j : Nat, j ≤ L.length ∧ i = .int .i64 j ∧ Wr wz lo 4 (some ⟨g, 0, none⟩) ((setAll cov true (L.take j)).map .bool) ∧ OwnI wz wo.heap.size (.slice A3 L.length c3) L ∧ wo.grownBy wz (some g)) (fun i _ => L.length - (intOf i).toNat)
                      case atStart => exact ⟨0, Nat.zero_le _, rfl, hw, hown, G⟩
                      case round =>
                        clear hw hown G
                        obtain ⟨j, hj, rfl, hw, hown, G⟩ := hrel
                        by_cases hjl : j < L.length
                        · have S5 := S2.gb G
                          obtain ⟨cc5, -, -, -, -, -, -, -, -, -⟩ := id S5
                          obtain ⟨xj, hxj⟩ : ∃ x, L[j] = x := ⟨_, rfl⟩
                          obtain ⟨bj, oj, hA, cj⟩ := hown.rd.2.atEM hjl
                          rw [hxj] at cj
                          subst hA
                          have hm := HMEM.out xj (by rw [← hxj]; exact List.getElem_mem hjl)
                          obtain ⟨xn, rfl⟩ := Int.eq_ofNat_of_zero_le hm.1
                          have hxn : xn < n := by have := hm.2; omega
                          have HS := Lib.hid (show setAll cov true (L.take (j + 1)) = (setAll cov true (L.take j)).set xn true by
                            rw [take_one_more L j hjl, setAll_snoc, hxj, Int.toNat_natCast])
                          have HLN := Lib.hid (show (setAll cov true (L.take j)).length = n by rw [setAll_len]; exact HCL.out)
                          have cx := hw.rd.cellEM (k := xn) (by rw [HLN.out]; exact hxn)
                          simp only [Nat.zero_add] at cx
                          obtain ⟨g', e', _, _, hfz⟩ := hw.form (by intro e; have := congrArg List.length e; simp [HLN.out] at this; omega)
                          have hgg : g = g' := by injection e' with e'; injection e'
                          subst hgg
                          have fx := hfz xn
                          obtain ⟨ov, cx2⟩ : ∃ ov, wr.cell? ⟨g, xn, none⟩ = some ov := ⟨_, cx⟩
                          have xI : (xn : Int) < (n : Int) := by omega
                          have jI : (j : Int) < (L.length : Int) := by omega
                          clear hm hxj hfz e' cx S5
                          go_wp2_with fail
                          go_roundw
                          case rel => exact ⟨j + 1, by omega, by go_num, by rw [HS.out, List.map_set]; exact hw.store xn _, hown.set (a := ⟨g, xn, none⟩) hgo _, gb_store G⟩
                          case measure => simp [intOf]; omega
                        · obtain rfl : j = L.length := by omega
                          rw [List.take_length] at hw
                          have S6 := S2.gb G
                          obtain ⟨-, -, -, ck6, -, -, -, -, -, -⟩ := id S6
                          have CIH := HIH.out f' (by omega) wr (setAll cov true L) (k + 1) S6 hw (by rw [setAll_len]; exact HCL.out) (by omega) (by rw [freeL_all (by rw [HCL.out, HN.out])]; exact HC2.out) (by
                            intro i hi hi2
                            have e : (freeL bs (setAll cov true L))[i] = (clearL (freeL bs cov) L)[i]'(by rw [clearL_len, HFL.out]; rw [freeL_len (by rw [setAll_len, HCL.out, HN.out]), HN.out] at hi; exact hi) := by
                              congr 1; exact freeL_all (by rw [HCL.out, HN.out]) L
                            rw [e]; exact HCLR.out i _ hi2)
                          rw [freeL_all (by rw [HCL.out, HN.out]), show ((k + 1 : Nat) : Int) = (k : Int) + 1 by omega] at CIH
                          have HCIH := Lib.hid CIH
                          clear CIH hw
                          obtain ⟨B0, hB0⟩ : ∃ B0, barsN W T long f' (clearL (freeL bs cov) L) = B0 := ⟨_, rfl⟩
                          have hBb := barsN_bd W T long f' (clearL (freeL bs cov) L)
                          rw [hB0] at hBb HCIH
                          have HB0 := Lib.hid hB0
                          clear hB0
                          obtain ⟨hBb1, hBb2⟩ := hBb
                          have hBb3 : B0 ≤ 16777216 := Int.le_trans hBb2 HPW.out
                          clear hBb2
                          go_wp2_with fail
                          refine HCIH.out.mono ?_
                          rintro e w6 ⟨rfl, hw6, g6⟩
                          have G := grownBy_trans' G g6
                          have hown := hown.grown g6 hgo
                          have hw := hw6
                          clear hw6 g6 S6 ck6 HCIH
                          go_wp2_with fail
                          obtain ⟨wp, hwp⟩ : ∃ wp : World, wp = w6 := ⟨_, rfl⟩
                          subst hwp
                          go_loopw [104] (fun i wz => ∃ j : Nat, j ≤ L.length ∧ i = .int .i64 j ∧ Wr wz lo 4 (some ⟨g, 0, none⟩) ((setAll (setAll cov true L) false (L.take j)).map .bool) ∧ OwnI wz wo.heap.size (.slice A3 L.length c3) L ∧ wo.grownBy wz (some g)) (fun i _ => L.length - (intOf i).toNat)
                          case atStart => exact ⟨0, Nat.zero_le _, rfl, hw, hown, G⟩
                          case round =>
                            clear hw hown G
                            obtain ⟨j, hj, rfl, hw, hown, G⟩ := hrel
                            by_cases hjl : j < L.length
                            · have S5 := S2.gb G
                              obtain ⟨cc5, -, -, -, -, -, -, -, -, -⟩ := id S5
                              obtain ⟨xj, hxj⟩ : ∃ x, L[j] = x := ⟨_, rfl⟩
                              obtain ⟨bj, oj, hA, cj⟩ := hown.rd.2.atEM hjl
                              rw [hxj] at cj
                              subst hA
                              have hm := HMEM.out xj (by rw [← hxj]; exact List.getElem_mem hjl)
                              obtain ⟨xn, rfl⟩ := Int.eq_ofNat_of_zero_le hm.1
                              have hxn : xn < n := by have := hm.2; omega
                              have HS := Lib.hid (show setAll (setAll cov true L) false (L.take (j + 1)) = (setAll (setAll cov true L) false (L.take j)).set xn false by
                                rw [take_one_more L j hjl, setAll_snoc, hxj, Int.toNat_natCast])
                              have HLN := Lib.hid (show (setAll (setAll cov true L) false (L.take j)).length = n by rw [setAll_len, setAll_len]; exact HCL.out)
                              have cx := hw.rd.cellEM (k := xn) (by rw [HLN.out]; exact hxn)
                              simp only [Nat.zero_add] at cx
                              obtain ⟨g', e', _, _, hfz⟩ := hw.form (by intro e; have := congrArg List.length e; simp [HLN.out] at this; omega)
                              have hgg : g = g' := by injection e' with e'; injection e'
                              subst hgg
                              have fx := hfz xn
                              obtain ⟨ov, cx2⟩ : ∃ ov, wr.cell? ⟨g, xn, none⟩ = some ov := ⟨_, cx⟩
                              have xI : (xn : Int) < (n : Int) := by omega
                              have jI : (j : Int) < (L.length : Int) := by omega
                              clear hm hxj hfz e' cx S5
                              go_wp2_with fail
                              go_roundw
                              case rel => exact ⟨j + 1, by omega, by go_num, by rw [HS.out, List.map_set]; exact hw.store xn _, hown.set (a := ⟨g, xn, none⟩) hgo _, gb_store G⟩
                              case measure => simp [intOf]; omega
                            · obtain rfl : j = L.length := by omega
                              rw [List.take_length] at hw
                              rw [setAll_back (HBACK.out)] at hw
                              go_wp2_with fail
                              go_roundw
                              case rel => exact ⟨q + 1, by omega, by go_num, by rw [HSUM.out, HB0.out, HS0.out], hw, Rd.grownBelow h12 G (fun _ ad e => by injection e with e; subst e; intro h; injection h with h; exact hpg h), grownBy_trans' hg G⟩
                              case measure => simp [intOf]; omega
                    · have tI : (tn : Int) < (n : Int) := by omega
                      go_wp2_with fail
                      obtain ⟨wz, hwz⟩ : ∃ wz : World, wz = wr := ⟨_, rfl⟩
                      subst hwz
                      go_loopw [88] (fun i wz => ∃ j : Nat, j ≤ L.length ∧ i = .int .i64 j ∧ Wr wz lo 4 (some ⟨g, 0, none⟩) ((setAll cov true (L.take j)).map .bool) ∧ OwnI wz wo.heap.size (.slice A3 L.length c3) L ∧ wo.grownBy wz (some g)) (fun i _ => L.length - (intOf i).toNat)
                      case atStart => exact ⟨0, Nat.zero_le _, rfl, hw, hown, G⟩
                      case round =>
                        clear hw hown G
                        obtain ⟨j, hj, rfl, hw, hown, G⟩ := hrel
                        by_cases hjl : j < L.length
                        · have S5 := S2.gb G
                          obtain ⟨cc5, -, -, -, -, -, -, -, -, -⟩ := id S5
                          obtain ⟨xj, hxj⟩ : ∃ x, L[j] = x := ⟨_, rfl⟩
                          obtain ⟨bj, oj, hA, cj⟩ := hown.rd.2.atEM hjl
                          rw [hxj] at cj
                          subst hA
                          have hm := HMEM.out xj (by rw [← hxj]; exact List.getElem_mem hjl)
                          obtain ⟨xn, rfl⟩ := Int.eq_ofNat_of_zero_le hm.1
                          have hxn : xn < n := by have := hm.2; omega
                          have HS := Lib.hid (show setAll cov true (L.take (j + 1)) = (setAll cov true (L.take j)).set xn true by
                            rw [take_one_more L j hjl, setAll_snoc, hxj, Int.toNat_natCast])
                          have HLN := Lib.hid (show (setAll cov true (L.take j)).length = n by rw [setAll_len]; exact HCL.out)
                          have cx := hw.rd.cellEM (k := xn) (by rw [HLN.out]; exact hxn)
                          simp only [Nat.zero_add] at cx
                          obtain ⟨g', e', _, _, hfz⟩ := hw.form (by intro e; have := congrArg List.length e; simp [HLN.out] at this; omega)
                          have hgg : g = g' := by injection e' with e'; injection e'
                          subst hgg
                          have fx := hfz xn
                          obtain ⟨ov, cx2⟩ : ∃ ov, wr.cell? ⟨g, xn, none⟩ = some ov := ⟨_, cx⟩
                          have xI : (xn : Int) < (n : Int) := by omega
                          have jI : (j : Int) < (L.length : Int) := by omega
                          clear hm hxj hfz e' cx S5
                          go_wp2_with fail
                          go_roundw
                          case rel => exact ⟨j + 1, by omega, by go_num, by rw [HS.out, List.map_set]; exact hw.store xn _, hown.set (a := ⟨g, xn, none⟩) hgo _, gb_store G⟩
                          case measure => simp [intOf]; omega
                        · obtain rfl : j = L.length := by omega
                          rw [List.take_length] at hw
                          have S6 := S2.gb G
                          obtain ⟨-, -, -, ck6, -, -, -, -, -, -⟩ := id S6
                          have CIH := HIH.out f' (by omega) wr (setAll cov true L) (k + 1) S6 hw (by rw [setAll_len]; exact HCL.out) (by omega) (by rw [freeL_all (by rw [HCL.out, HN.out])]; exact HC2.out) (by
                            intro i hi hi2
                            have e : (freeL bs (setAll cov true L))[i] = (clearL (freeL bs cov) L)[i]'(by rw [clearL_len, HFL.out]; rw [freeL_len (by rw [setAll_len, HCL.out, HN.out]), HN.out] at hi; exact hi) := by
                              congr 1; exact freeL_all (by rw [HCL.out, HN.out]) L
                            rw [e]; exact HCLR.out i _ hi2)
                          rw [freeL_all (by rw [HCL.out, HN.out]), show ((k + 1 : Nat) : Int) = (k : Int) + 1 by omega] at CIH
                          have HCIH := Lib.hid CIH
                          clear CIH hw
                          obtain ⟨B0, hB0⟩ : ∃ B0, barsN W T long f' (clearL (freeL bs cov) L) = B0 := ⟨_, rfl⟩
                          have hBb := barsN_bd W T long f' (clearL (freeL bs cov) L)
                          rw [hB0] at hBb HCIH
                          have HB0 := Lib.hid hB0
                          clear hB0
                          obtain ⟨hBb1, hBb2⟩ := hBb
                          have hBb3 : B0 ≤ 16777216 := Int.le_trans hBb2 HPW.out
                          clear hBb2
                          go_wp2_with fail
                          refine HCIH.out.mono ?_
                          rintro e w6 ⟨rfl, hw6, g6⟩
                          have G := grownBy_trans' G g6
                          have hown := hown.grown g6 hgo
                          have hw := hw6
                          clear hw6 g6 S6 ck6 HCIH
                          go_wp2_with fail
                          obtain ⟨wp, hwp⟩ : ∃ wp : World, wp = w6 := ⟨_, rfl⟩
                          subst hwp
                          go_loopw [104] (fun i wz => ∃ j : Nat, j ≤ L.length ∧ i = .int .i64 j ∧ Wr wz lo 4 (some ⟨g, 0, none⟩) ((setAll (setAll cov true L) false (L.take j)).map .bool) ∧ OwnI wz wo.heap.size (.slice A3 L.length c3) L ∧ wo.grownBy wz (some g)) (fun i _ => L.length - (intOf i).toNat)
                          case atStart => exact ⟨0, Nat.zero_le _, rfl, hw, hown, G⟩
                          case round =>
                            clear hw hown G
                            obtain ⟨j, hj, rfl, hw, hown, G⟩ := hrel
                            by_cases hjl : j < L.length
                            · have S5 := S2.gb G
                              obtain ⟨cc5, -, -, -, -, -, -, -, -, -⟩ := id S5
                              obtain ⟨xj, hxj⟩ : ∃ x, L[j] = x := ⟨_, rfl⟩
                              obtain ⟨bj, oj, hA, cj⟩ := hown.rd.2.atEM hjl
                              rw [hxj] at cj
                              subst hA
                              have hm := HMEM.out xj (by rw [← hxj]; exact List.getElem_mem hjl)
                              obtain ⟨xn, rfl⟩ := Int.eq_ofNat_of_zero_le hm.1
                              have hxn : xn < n := by have := hm.2; omega
                              have HS := Lib.hid (show setAll (setAll cov true L) false (L.take (j + 1)) = (setAll (setAll cov true L) false (L.take j)).set xn false by
                                rw [take_one_more L j hjl, setAll_snoc, hxj, Int.toNat_natCast])
                              have HLN := Lib.hid (show (setAll (setAll cov true L) false (L.take j)).length = n by rw [setAll_len, setAll_len]; exact HCL.out)
                              have cx := hw.rd.cellEM (k := xn) (by rw [HLN.out]; exact hxn)
                              simp only [Nat.zero_add] at cx
                              obtain ⟨g', e', _, _, hfz⟩ := hw.form (by intro e; have := congrArg List.length e; simp [HLN.out] at this; omega)
                              have hgg : g = g' := by injection e' with e'; injection e'
                              subst hgg
                              have fx := hfz xn
                              obtain ⟨ov, cx2⟩ : ∃ ov, wr.cell? ⟨g, xn, none⟩ = some ov := ⟨_, cx⟩
                              have xI : (xn : Int) < (n : Int) := by omega
                              have jI : (j : Int) < (L.length : Int) := by omega
                              clear hm hxj hfz e' cx S5
                              go_wp2_with fail
                              go_roundw
                              case rel => exact ⟨j + 1, by omega, by go_num, by rw [HS.out, List.map_set]; exact hw.store xn _, hown.set (a := ⟨g, xn, none⟩) hgo _, gb_store G⟩
                              case measure => simp [intOf]; omega
                            · obtain rfl : j = L.length := by omega
                              rw [List.take_length] at hw
                              rw [setAll_back (HBACK.out)] at hw
                              go_wp2_with fail
                              go_roundw
                              case rel => exact ⟨q + 1, by omega, by go_num, by rw [HSUM.out, HB0.out, HS0.out], hw, Rd.grownBelow h12 G (fun _ ad e => by injection e with e; subst e; intro h; injection h with h; exact hpg h), grownBy_trans' hg G⟩
                              case measure => simp [intOf]; omega
                    · have tI : (tn : Int) < (n : Int) := by omega
                      go_wp2_with fail
                      obtain ⟨wz, hwz⟩ : ∃ wz : World, wz = wr := ⟨_, rfl⟩
                      subst hwz
                      go_loopw [88] (fun i wz => ∃ j : Nat, j ≤ L.length ∧ i = .int .i64 j ∧ Wr wz lo 4 (some ⟨g, 0, none⟩) ((setAll cov true (L.take j)).map .bool) ∧ OwnI wz wo.heap.size (.slice A3 L.length c3) L ∧ wo.grownBy wz (some g)) (fun i _ => L.length - (intOf i).toNat)
                      case atStart => exact ⟨0, Nat.zero_le _, rfl, hw, hown, G⟩
                      case round =>
                        clear hw hown G
                        obtain ⟨j, hj, rfl, hw, hown, G⟩ := hrel
                        by_cases hjl : j < L.length
                        · have S5 := S2.gb G
                          obtain ⟨cc5, -, -, -, -, -, -, -, -, -⟩ := id S5
                          obtain ⟨xj, hxj⟩ : ∃ x, L[j] = x := ⟨_, rfl⟩
                          obtain ⟨bj, oj, hA, cj⟩ := hown.rd.2.atEM hjl
                          rw [hxj] at cj
                          subst hA
                          have hm := HMEM.out xj (by rw [← hxj]; exact List.getElem_mem hjl)
                          obtain ⟨xn, rfl⟩ := Int.eq_ofNat_of_zero_le hm.1
                          have hxn : xn < n := by have := hm.2; omega
                          have HS := Lib.hid (show setAll cov true (L.take (j + 1)) = (setAll cov true (L.take j)).set xn true by
                            rw [take_one_more L j hjl, setAll_snoc, hxj, Int.toNat_natCast])
                          have HLN := Lib.hid (show (setAll cov true (L.take j)).length = n by rw [setAll_len]; exact HCL.out)
                          have cx := hw.rd.cellEM (k := xn) (by rw [HLN.out]; exact hxn)
                          simp only [Nat.zero_add] at cx
                          obtain ⟨g', e', _, _, hfz⟩ := hw.form (by intro e; have := congrArg List.length e; simp [HLN.out] at this; omega)
                          have hgg : g = g' := by injection e' with e'; injection e'
                          subst hgg
                          have fx := hfz xn
                          obtain ⟨ov, cx2⟩ : ∃ ov, wr.cell? ⟨g, xn, none⟩ = some ov := ⟨_, cx⟩
                          have xI : (xn : Int) < (n : Int) := by omega
                          have jI : (j : Int) < (L.length : Int) := by omega
                          clear hm hxj hfz e' cx S5
                          go_wp2_with fail
                          go_roundw
                          case rel => exact ⟨j + 1, by omega, by go_num, by rw [HS.out, List.map_set]; exact hw.store xn _, hown.set (a := ⟨g, xn, none⟩) hgo _, gb_store G⟩
                          case measure => simp [intOf]; omega
                        · obtain rfl : j = L.length := by omega
                          rw [List.take_length] at hw
                          have S6 := S2.gb G
                          obtain ⟨-, -, -, ck6, -, -, -, -, -, -⟩ := id S6
                          have CIH := HIH.out f' (by omega) wr (setAll cov true L) (k + 1) S6 hw (by rw [setAll_len]; exact HCL.out) (by omega) (by rw [freeL_all (by rw [HCL.out, HN.out])]; exact HC2.out) (by
                            intro i hi hi2
                            have e : (freeL bs (setAll cov true L))[i] = (clearL (freeL bs cov) L)[i]'(by rw [clearL_len, HFL.out]; rw [freeL_len (by rw [setAll_len, HCL.out, HN.out]), HN.out] at hi; exact hi) := by
                              congr 1; exact freeL_all (by rw [HCL.out, HN.out]) L
                            rw [e]; exact HCLR.out i _ hi2)
                          rw [freeL_all (by rw [HCL.out, HN.out]), show ((k + 1 : Nat) : Int) = (k : Int) + 1 by omega] at CIH
                          have HCIH := Lib.hid CIH
                          clear CIH hw
                          obtain ⟨B0, hB0⟩ : ∃ B0, barsN W T long f' (clearL (freeL bs cov) L) = B0 := ⟨_, rfl⟩
                          have hBb := barsN_bd W T long f' (clearL (freeL bs cov) L)
                          rw [hB0] at hBb HCIH
                          have HB0 := Lib.hid hB0
                          clear hB0
                          obtain ⟨hBb1, hBb2⟩ := hBb
                          have hBb3 : B0 ≤ 16777216 := Int.le_trans hBb2 HPW.out
                          clear hBb2
                          go_wp2_with fail
                          refine HCIH.out.mono ?_
                          rintro e w6 ⟨rfl, hw6, g6⟩
                          have G := grownBy_trans' G g6
                          have hown := hown.grown g6 hgo
                          have hw := hw6
                          clear hw6 g6 S6 ck6 HCIH
                          go_wp2_with fail
                          obtain ⟨wp, hwp⟩ : ∃ wp : World, wp = w6 := ⟨_, rfl⟩
                          subst hwp
                          go_loopw [104] (fun i wz => ∃ j : Nat, j ≤ L.length ∧ i = .int .i64 j ∧ Wr wz lo 4 (some ⟨g, 0, none⟩) ((setAll (setAll cov true L) false (L.take j)).map .bool) ∧ OwnI wz wo.heap.size (.slice A3 L.length c3) L ∧ wo.grownBy wz (some g)) (fun i _ => L.length - (intOf i).toNat)
                          case atStart => exact ⟨0, Nat.zero_le _, rfl, hw, hown, G⟩
                          case round =>
                            clear hw hown G
                            obtain ⟨j, hj, rfl, hw, hown, G⟩ := hrel
                            by_cases hjl : j < L.length
                            · have S5 := S2.gb G
                              obtain ⟨cc5, -, -, -, -, -, -, -, -, -⟩ := id S5
                              obtain ⟨xj, hxj⟩ : ∃ x, L[j] = x := ⟨_, rfl⟩
                              obtain ⟨bj, oj, hA, cj⟩ := hown.rd.2.atEM hjl
                              rw [hxj] at cj
                              subst hA
                              have hm := HMEM.out xj (by rw [← hxj]; exact List.getElem_mem hjl)
                              obtain ⟨xn, rfl⟩ := Int.eq_ofNat_of_zero_le hm.1
                              have hxn : xn < n := by have := hm.2; omega
                              have HS := Lib.hid (show setAll (setAll cov true L) false (L.take (j + 1)) = (setAll (setAll cov true L) false (L.take j)).set xn false by
                                rw [take_one_more L j hjl, setAll_snoc, hxj, Int.toNat_natCast])
                              have HLN := Lib.hid (show (setAll (setAll cov true L) false (L.take j)).length = n by rw [setAll_len, setAll_len]; exact HCL.out)
                              have cx := hw.rd.cellEM (k := xn) (by rw [HLN.out]; exact hxn)
                              simp only [Nat.zero_add] at cx
                              obtain ⟨g', e', _, _, hfz⟩ := hw.form (by intro e; have := congrArg List.length e; simp [HLN.out] at this; omega)
                              have hgg : g = g' := by injection e' with e'; injection e'
                              subst hgg
                              have fx := hfz xn
                              obtain ⟨ov, cx2⟩ : ∃ ov, wr.cell? ⟨g, xn, none⟩ = some ov := ⟨_, cx⟩
                              have xI : (xn : Int) < (n : Int) := by omega
                              have jI : (j : Int) < (L.length : Int) := by omega
                              clear hm hxj hfz e' cx S5
                              go_wp2_with fail
                              go_roundw
                              case rel => exact ⟨j + 1, by omega, by go_num, by rw [HS.out, List.map_set]; exact hw.store xn _, hown.set (a := ⟨g, xn, none⟩) hgo _, gb_store G⟩
                              case measure => simp [intOf]; omega
                            · obtain rfl : j = L.length := by omega
                              rw [List.take_length] at hw
                              rw [setAll_back (HBACK.out)] at hw
                              go_wp2_with fail
                              go_roundw
                              case rel => exact ⟨q + 1, by omega, by go_num, by rw [HSUM.out, HB0.out, HS0.out], hw, Rd.grownBelow h12 G (fun _ ad e => by injection e with e; subst e; intro h; injection h with h; exact hpg h), grownBy_trans' hg G⟩
                              case measure => simp [intOf]; omega
                    · have tI : (tn : Int) < (n : Int) := by omega
                      go_wp2_with fail
                      obtain ⟨wz, hwz⟩ : ∃ wz : World, wz = wr := ⟨_, rfl⟩
                      subst hwz
                      go_loopw [88] (fun i wz => ∃ j : Nat, j ≤ L.length ∧ i = .int .i64 j ∧ Wr wz lo 4 (some ⟨g, 0, none⟩) ((setAll cov true (L.take j)).map .bool) ∧ OwnI wz wo.heap.size (.slice A3 L.length c3) L ∧ wo.grownBy wz (some g)) (fun i _ => L.length - (intOf i).toNat)
                      case atStart => exact ⟨0, Nat.zero_le _, rfl, hw, hown, G⟩
                      case round =>
                        clear hw hown G
                        obtain ⟨j, hj, rfl, hw, hown, G⟩ := hrel
                        by_cases hjl : j < L.length
                        · have S5 := S2.gb G
                          obtain ⟨cc5, -, -, -, -, -, -, -, -, -⟩ := id S5
                          obtain ⟨xj, hxj⟩ : ∃ x, L[j] = x := ⟨_, rfl⟩
                          obtain ⟨bj, oj, hA, cj⟩ := hown.rd.2.atEM hjl
                          rw [hxj] at cj
                          subst hA
                          have hm := HMEM.out xj (by rw [← hxj]; exact List.getElem_mem hjl)
                          obtain ⟨xn, rfl⟩ := Int.eq_ofNat_of_zero_le hm.1
                          have hxn : xn < n := by have := hm.2; omega
                          have HS := Lib.hid (show setAll cov true (L.take (j + 1)) = (setAll cov true (L.take j)).set xn true by
                            rw [take_one_more L j hjl, setAll_snoc, hxj, Int.toNat_natCast])
                          have HLN := Lib.hid (show (setAll cov true (L.take j)).length = n by rw [setAll_len]; exact HCL.out)
                          have cx := hw.rd.cellEM (k := xn) (by rw [HLN.out]; exact hxn)
                          simp only [Nat.zero_add] at cx
                          obtain ⟨g', e', _, _, hfz⟩ := hw.form (by intro e; have := congrArg List.length e; simp [HLN.out] at this; omega)
                          have hgg : g = g' := by injection e' with e'; injection e'
                          subst hgg
                          have fx := hfz xn
                          obtain ⟨ov, cx2⟩ : ∃ ov, wr.cell? ⟨g, xn, none⟩ = some ov := ⟨_, cx⟩
                          have xI : (xn : Int) < (n : Int) := by omega
                          have jI : (j : Int) < (L.length : Int) := by omega
                          clear hm hxj hfz e' cx S5
                          go_wp2_with fail
                          go_roundw
                          case rel => exact ⟨j + 1, by omega, by go_num, by rw [HS.out, List.map_set]; exact hw.store xn _, hown.set (a := ⟨g, xn, none⟩) hgo _, gb_store G⟩
                          case measure => simp [intOf]; omega
                        · obtain rfl : j = L.length := by omega
                          rw [List.take_length] at hw
                          have S6 := S2.gb G
                          obtain ⟨-, -, -, ck6, -, -, -, -, -, -⟩ := id S6
                          have CIH := HIH.out f' (by omega) wr (setAll cov true L) (k + 1) S6 hw (by rw [setAll_len]; exact HCL.out) (by omega) (by rw [freeL_all (by rw [HCL.out, HN.out])]; exact HC2.out) (by
                            intro i hi hi2
                            have e : (freeL bs (setAll cov true L))[i] = (clearL (freeL bs cov) L)[i]'(by rw [clearL_len, HFL.out]; rw [freeL_len (by rw [setAll_len, HCL.out, HN.out]), HN.out] at hi; exact hi) := by
                              congr 1; exact freeL_all (by rw [HCL.out, HN.out]) L
                            rw [e]; exact HCLR.out i _ hi2)
                          rw [freeL_all (by rw [HCL.out, HN.out]), show ((k + 1 : Nat) : Int) = (k : Int) + 1 by omega] at CIH
                          have HCIH := Lib.hid CIH
                          clear CIH hw
                          obtain ⟨B0, hB0⟩ : ∃ B0, barsN W T long f' (clearL (freeL bs cov) L) = B0 := ⟨_, rfl⟩
                          have hBb := barsN_bd W T long f' (clearL (freeL bs cov) L)
                          rw [hB0] at hBb HCIH
                          have HB0 := Lib.hid hB0
                          clear hB0
                          obtain ⟨hBb1, hBb2⟩ := hBb
                          have hBb3 : B0 ≤ 16777216 := Int.le_trans hBb2 HPW.out
                          clear hBb2
                          go_wp2_with fail
                          refine HCIH.out.mono ?_
                          rintro e w6 ⟨rfl, hw6, g6⟩
                          have G := grownBy_trans' G g6
                          have hown := hown.grown g6 hgo
                          have hw := hw6
                          clear hw6 g6 S6 ck6 HCIH
                          go_wp2_with fail
                          obtain ⟨wp, hwp⟩ : ∃ wp : World, wp = w6 := ⟨_, rfl⟩
                          subst hwp
                          go_loopw [104] (fun i wz => ∃ j : Nat, j ≤ L.length ∧ i = .int .i64 j ∧ Wr wz lo 4 (some ⟨g, 0, none⟩) ((setAll (setAll cov true L) false (L.take j)).map .bool) ∧ OwnI wz wo.heap.size (.slice A3 L.length c3) L ∧ wo.grownBy wz (some g)) (fun i _ => L.length - (intOf i).toNat)
                          case atStart => exact ⟨0, Nat.zero_le _, rfl, hw, hown, G⟩
                          case round =>
                            clear hw hown G
                            obtain ⟨j, hj, rfl, hw, hown, G⟩ := hrel
                            by_cases hjl : j < L.length
                            · have S5 := S2.gb G
                              obtain ⟨cc5, -, -, -, -, -, -, -, -, -⟩ := id S5
                              obtain ⟨xj, hxj⟩ : ∃ x, L[j] = x := ⟨_, rfl⟩
                              obtain ⟨bj, oj, hA, cj⟩ := hown.rd.2.atEM hjl
                              rw [hxj] at cj
                              subst hA
                              have hm := HMEM.out xj (by rw [← hxj]; exact List.getElem_mem hjl)
                              obtain ⟨xn, rfl⟩ := Int.eq_ofNat_of_zero_le hm.1
                              have hxn : xn < n := by have := hm.2; omega
                              have HS := Lib.hid (show setAll (setAll cov true L) false (L.take (j + 1)) = (setAll (setAll cov true L) false (L.take j)).set xn false by
                                rw [take_one_more L j hjl, setAll_snoc, hxj, Int.toNat_natCast])
                              have HLN := Lib.hid (show (setAll (setAll cov true L) false (L.take j)).length = n by rw [setAll_len, setAll_len]; exact HCL.out)
                              have cx := hw.rd.cellEM (k := xn) (by rw [HLN.out]; exact hxn)
                              simp only [Nat.zero_add] at cx
                              obtain ⟨g', e', _, _, hfz⟩ := hw.form (by intro e; have := congrArg List.length e; simp [HLN.out] at this; omega)
                              have hgg : g = g' := by injection e' with e'; injection e'
                              subst hgg
                              have fx := hfz xn
                              obtain ⟨ov, cx2⟩ : ∃ ov, wr.cell? ⟨g, xn, none⟩ = some ov := ⟨_, cx⟩
                              have xI : (xn : Int) < (n : Int) := by omega
                              have jI : (j : Int) < (L.length : Int) := by omega
                              clear hm hxj hfz e' cx S5
                              go_wp2_with fail
                              go_roundw
                              case rel => exact ⟨j + 1, by omega, by go_num, by rw [HS.out, List.map_set]; exact hw.store xn _, hown.set (a := ⟨g, xn, none⟩) hgo _, gb_store G⟩
                              case measure => simp [intOf]; omega
                            · obtain rfl : j = L.length := by omega
                              rw [List.take_length] at hw
                              rw [setAll_back (HBACK.out)] at hw
                              go_wp2_with fail
                              go_roundw
                              case rel => exact ⟨q + 1, by omega, by go_num, by rw [HSUM.out, HB0.out, HS0.out], hw, Rd.grownBelow h12 G (fun _ ad e => by injection e with e; subst e; intro h; injection h with h; exact hpg h), grownBy_trans' hg G⟩
                              case measure => simp [intOf]; omega
            · obtain rfl : q = 2 := by omega
              go_wp2_with fail
              go_ret
              exact ⟨ret_i HB.out.symm, hw, hg⟩
    · have hkn : ((k : Int) == (n : Int)) = true := by rw [beq_iff_eq]; omega
      have HE := Lib.hid (barsN_none (W := W) (T := T) (long := long) (f := f) (firstB_eq (F := freeL bs cov) (c := k) (by rw [HFL.out]; omega) HK.out (fun h => absurd h (by rw [HFL.out]; exact hlt)) |>.trans (show k = (freeL bs cov).length by rw [HFL.out]; omega)))
      go_wp2
      go_ret
      exact ⟨ret_i HE.out.symm, hw, World.grownBy.refl _ _⟩
end Go.Proofs.Ytnciemnlnijhfaa
