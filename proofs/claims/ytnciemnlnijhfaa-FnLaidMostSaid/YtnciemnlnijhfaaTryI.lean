/- Contract: the closure of the program's LaidMost. -/
import Derived.Test.YtnciemnlnijhfaaMapsI
import Derived.Test.YtnciemnlnijhfaaLaidN
import Derived.Test.YtnciemnlnijhfaaBesideI
import Derived.Test.YtnciemnlnijhfaaGb
namespace Go.Proofs.Ytnciemnlnijhfaa
open Go.RowKit

theorem bes_nb (W T : Int) (bs : List Bool) (c : Nat) : besL W T bs [(c : Int)] = (nbN W T bs c).map fun i : Nat => (i : Int) := by
  unfold nbN
  rw [List.map_map]
  refine (List.map_id _).symm.trans (List.map_congr_left (fun x hx => ?_))
  obtain ⟨i, -, -, rfl⟩ := mem_pick.1 (show x ∈ pickTo (isBes W T bs [(c : Int)]) bs.length from hx)
  simp
/-- nothing but two maps has changed -/
structure G2 (w w' : World) (bo bm : Nat) : Prop where
  os : w'.os = w.os
  tape : w'.tape = w.tape
  output : w'.output = w.output
  size : w.heap.size ≤ w'.heap.size
  block : ∀ i, i < w.heap.size → i ≠ bo → i ≠ bm → w'.heap[i]? = w.heap[i]?
theorem G2.refl (w : World) (bo bm : Nat) : G2 w w bo bm := ⟨rfl, rfl, rfl, Nat.le_refl _, fun _ _ _ _ => rfl⟩
theorem G2.trans {a b c : World} {bo bm : Nat} (h : G2 a b bo bm) (k : G2 b c bo bm) : G2 a c bo bm :=
  ⟨k.os.trans h.os, k.tape.trans h.tape, k.output.trans h.output, Nat.le_trans h.size k.size, fun i hi h1 h2 => (k.block i (Nat.lt_of_lt_of_le hi h.size) h1 h2).trans (h.block i hi h1 h2)⟩
theorem G2.of_o {a b : World} {bo bm : Nat} (h : a.grownBy b (some bo)) : G2 a b bo bm := ⟨h.os, h.tape, h.output, h.size, fun i hi h1 _ => h.block i hi (fun e => h1 (by injection e))⟩
theorem G2.of_m {a b : World} {bo bm : Nat} (h : a.grownBy b (some bm)) : G2 a b bo bm := ⟨h.os, h.tape, h.output, h.size, fun i hi _ h2 => h.block i hi (fun e => h2 (by injection e))⟩
theorem G2.of_b {a b : World} {bo bm : Nat} (h : Below a.heap.size a b) : G2 a b bo bm := ⟨h.os, h.tape, h.output, h.size, fun i hi _ _ => h.block i hi⟩
theorem G2.cell {w w' : World} {bo bm b k : Nat} {v : Value} (h : G2 w w' bo bm) (h1 : b ≠ bo) (h2 : b ≠ bm) (e : w.cell? ⟨b, k, none⟩ = some v) : w'.cell? ⟨b, k, none⟩ = some v :=
  (World.cell?_of_block (h.block b (World.block_lt_of_cell? w _ e) h1 h2)).trans e
theorem G2.rd {w w' : World} {bo bm : Nat} {A : Option Addr} {xs : List Value} (h : G2 w w' bo bm) (hr : Rd w A xs) (hA : ∀ ad, A = some ad → ad.block ≠ bo ∧ ad.block ≠ bm) : Rd w' A xs := fun hne => by
  obtain ⟨ad, rfl, hc⟩ := hr hne
  obtain ⟨h1, h2⟩ := hA ad rfl
  refine ⟨ad, rfl, fun j u hu => ?_⟩
  have hl := World.block_lt_of_cell? w _ (hc j u hu)
  rw [World.cell?_of_block (h.block _ hl (by rw [blk_add]; exact h1) (by rw [blk_add]; exact h2))]
  exact hc j u hu
theorem below_none {w w' : World} (h : Below w.heap.size w w') : w.grownBy w' none := ⟨h.os, h.tape, h.output, h.size, fun i hi _ => h.block i hi⟩
/-- what the closure finds -/
structure Tst (W T : Int) (n c0 : Nat) (bs : List Bool) (A : Option Addr) (bo bm br bv bk : Nat) (w : World) : Prop where
  box : C3 w br (.int .i64 W) (.int .i64 T) (.slice A n c0)
  ov : w.cell? ⟨bv, 0, none⟩ = some (.map (some bo))
  ck : w.cell? ⟨bk, 0, none⟩ = some (.func (.func 52) #[] #[.pointer (some ⟨br, 0, none⟩), .pointer (some ⟨bv, 0, none⟩), .pointer (some ⟨bk, 0, none⟩)])
  rd : Rd w A (bs.map .bool)
  d1 : br ≠ bo
  d2 : br ≠ bm
  d3 : bv ≠ bo
  d4 : bv ≠ bm
  d5 : bk ≠ bo
  d6 : bk ≠ bm
  d7 : bo ≠ bm
  hA : ∀ ad, A = some ad → ad.block ≠ bo ∧ ad.block ≠ bm
theorem Tst.g2 {W T : Int} {n c0 : Nat} {bs : List Bool} {A : Option Addr} {bo bm br bv bk : Nat} {w w' : World} (h : Tst W T n c0 bs A bo bm br bv bk w) (g : G2 w w' bo bm) : Tst W T n c0 bs A bo bm br bv bk w' :=
  ⟨⟨g.cell h.d1 h.d2 h.box.1, g.cell h.d1 h.d2 h.box.2.1, g.cell h.d1 h.d2 h.box.2.2⟩, g.cell h.d3 h.d4 h.ov, g.cell h.d5 h.d6 h.ck, g.rd h.rd h.hA, h.d1, h.d2, h.d3, h.d4, h.d5, h.d6, h.d7, h.hA⟩
def TryR (n bo bm n0 f : Nat) (r : (Nat → Option Nat) × (Nat → Bool) × Bool) (w : World) (e : Ending) (w' : World) : Prop :=
  ∃ n1 m1 : Nat, e = .returned (.bool r.2.2) ∧ OMI w' bo n1 r.1 ∧ MMB w' bm m1 r.2.1 ∧ n1 ≤ n0 + f ∧ (r.2.2 = false → n1 ≤ n0) ∧ m1 + unm r.2.1 n ≤ n ∧ G2 w w' bo bm
def TryOk (W T : Int) (n c0 : Nat) (bs : List Bool) (A : Option Addr) (bo bm br bv bk f : Nat) : Prop :=
  ∀ (w : World) (M : Nat → Option Nat) (S : Nat → Bool) (c n0 m0 : Nat), Tst W T n c0 bs A bo bm br bv bk w → OMI w bo n0 M → MMB w bm m0 S → c < n → unm S n < f → m0 + unm S n ≤ n → n0 + f ≤ 100000 → (∀ l s, M l = some s → s < n) →
    Calls Try.prog 52 #[.int .i64 (c : Int), .map (some bm), .pointer (some ⟨br, 0, none⟩), .pointer (some ⟨bv, 0, none⟩), .pointer (some ⟨bk, 0, none⟩)] w (TryR n bo bm n0 f (tryF (nbN W T bs) f M c S) w)
theorem drop_at {α : Type} {l : List α} {k : Nat} (h : k < l.length) : l.drop k = l[k] :: l.drop (k + 1) := List.drop_eq_getElem_cons h
set_option maxRecDepth 100000 in
set_option maxHeartbeats 4000000 in
theorem try_step {W T : Int} {n c0 : Nat} {bs : List Bool} {A : Option Addr} {bo bm br bv bk f : Nat} (h1 : 1 ≤ W) (h2 : W ≤ 6) (h3 : 1 ≤ T) (h4 : T ≤ 6) (hn : bs.length = n) (hWT : (n : Int) = W * T) (h36 : n ≤ 36)
    (ih : TryOk W T n c0 bs A bo bm br bv bk f) : TryOk W T n c0 bs A bo bm br bv bk (f + 1) := by
  intro w M S0 c n0 m0 HT HO HM hc hu hm hn0 hv
  have hlo := HO.lt
  have hc9 : c < 1000 := by omega
  have hlm := HM.lt
  have HD := Lib.hid (And.intro HT.d7 HT.hA)
  have HU0 := Lib.hid hu
  have HM0 := Lib.hid hm
  have HV := Lib.hid hv
  have HIH := Lib.hid ih
  have HN := Lib.hid hn
  have HNB := Lib.hid (fun l (h : l ∈ nbN W T bs c) => (show l < n by rw [← hn]; exact nb_lt c l h))
  have HFF := Lib.hid (fun (c : Nat) (S : Nat → Bool) (h : (tryF (nbN W T bs) f M c S).2.2 = false) => by
    have := try_false (n := n) (nb := nbN W T bs) (fun d l h => by rw [← hn]; exact nb_lt d l h) f M c S h
    exact And.intro this.1 this.2.1)
  have CB := Lib.hid (fun (z : World) (h : Nat) (R : Rd z A (bs.map .bool)) (O : Rd z (some ⟨h, 0, none⟩) ([(c : Int)].map (.int .i64))) => (show Calls Try.prog 53 #[.agg #[.int .i64 W, .int .i64 T, .slice A n c0], .slice (some ⟨h, 0, none⟩) 1 1] z (NewW ((nbN W T bs c).map fun i : Nat => (i : Int)) z) by
    have h := beside_any W T A (some ⟨h, 0, none⟩) c0 1 bs [(c : Int)] z R O h1 h2 h3 h4 (by rw [hn]; exact hWT) (by omega) (by simp)
    rw [bes_nb, hn] at h
    exact h))
  have HE := Lib.hid (show tryT (tryF (nbN W T bs) f) c ((nbN W T bs c).drop 0) M S0 = tryF (nbN W T bs) (f + 1) M c S0 from rfl)
  have hNL : (nbN W T bs c).length ≤ 36 := by
    unfold nbN
    rw [List.length_map]
    exact Nat.le_trans (besL_len W T bs _) (by omega)
  generalize tryF (nbN W T bs) (f + 1) M c S0 = res at HE
  generalize hNB : nbN W T bs c = NB at *
  clear hNB
  clear hu hm hv ih hn hWT
  obtain ⟨⟨x0, x1, x2⟩, xo, xk, xr, -, -, -, -, -, -, -, -⟩ := id HT
  have B0 := bl_alloc (Below.refl w.heap.size w) (.cells #[.int .i64 (c : Int)] 3)
  have hone : Rd (w.alloc (.cells #[.int .i64 (c : Int)] 3)) (some ⟨w.heap.size, 0, none⟩) ([(c : Int)].map (.int .i64)) := by
    have h : (w.alloc (.cells #[.int .i64 (c : Int)] 3)).ownsRow w.heap.size 3 1 (.slice (some ⟨w.heap.size, 0, none⟩) 1 1) 1 [.int .i64 (c : Int)] :=
      World.ownsRow_lit w #[.int .i64 (c : Int)] 1 (Nat.le_refl _) (by unfold maxLen; omega) (by simp)
    exact Rd.own h
  go_enter Try.func52, Try.ntmps52
  go_wp2_with fail
  refine (CB.out _ _ (xr.belo B0) hone).mono ?_
  rintro e w1 ⟨A1, rfl, hw1, b1⟩
  simp only [List.length_map]
  have G1 : G2 w w1 bo bm := G2.of_b (bl_go B0 b1)
  have T1 := HT.g2 G1
  have O1 := HO.kept (w' := w1) (row := none) (below_none (bl_go B0 b1)) (by simp)
  have M1 := HM.kept (w' := w1) (row := none) (below_none (bl_go B0 b1)) (by simp)
  have L1 := hw1.rd
  have HL := Lib.hid (fun ad (h : A1 = some ad) => (show ad.block ≠ bo ∧ ad.block ≠ bm by have := hw1.1 ad h; simp at this; omega))
  clear hw1 b1 B0 hone HT HO HM x0 x1 x2 xo xk xr CB
  go_wp2_with fail
  go_loopw [17] (fun v17 wr => ∃ (k m n1 : Nat) (S : Nat → Bool), k ≤ NB.length ∧ v17 = .int .i64 k ∧ Hid (tryT (tryF (nbN W T bs) f) c (NB.drop k) M S = res) ∧ MMB wr bm m S ∧ OMI wr bo n1 M ∧ n1 ≤ n0 ∧ Hid (m + unm S n ≤ n) ∧ Hid (unm S n < f + 1) ∧ G2 w wr bo bm ∧ G2 w1 wr bo bm) (fun v17 _ => NB.length - (intOf v17).toNat)
  case atStart => exact ⟨0, m0, n0, S0, Nat.zero_le _, rfl, HE, M1, O1, Nat.le_refl _, HM0, HU0, G1, G2.refl _ _ _⟩
  case round =>
    obtain ⟨k, m, n1, S, hk, rfl, HR, M2, O2, hn1, HMU, HU, Gw, G1w⟩ := hrel
    have T2 := T1.g2 G1w
    have L2 := G1w.rd L1 HL.out
    clear M1 O1 G1
    by_cases hlt : k < NB.length
    · have hkI : (k : Int) < (NB.length : Int) := by omega
      obtain ⟨b, o, rfl, hcell⟩ := L2.atEM (k := k) (by simpa using hlt)
      simp only [List.getElem_map] at hcell
      have HDR := Lib.hid (drop_at hlt)
      have htn := HNB.out _ (List.getElem_mem hlt)
      generalize NB[k] = t at hcell HDR htn
      have ht : t < 1000 := by omega
      obtain ⟨-, xo, xk, -, -, -, -, -, -, -, hom, -⟩ := id T2
      cases hS : S t with
      | true =>
        have HR2 := Lib.hid (show tryT (tryF (nbN W T bs) f) c (NB.drop (k + 1)) M S = res by rw [← HR.out, HDR.out, tryT_met hS])
        have HST := Lib.hid hS
        clear hS
        go_wp2_with (at_lookup; refine look_met M2 rfl _ _ rfl rfl ht rfl ?_; rw [HST.out])
        go_roundw
        case rel => exact ⟨k + 1, m, n1, S, by omega, by go_num, HR2, M2, O2, hn1, HMU, HU, Gw, G1w⟩
        case measure => simp [intOf]; omega
      | false =>
        have hu2 := unm_upd S t n htn hS
        have HST := Lib.hid hS
        have hmu := HMU.out
        cases hM : M t with
        | none =>
          have HRR := Lib.hid (show (updM M t c, updB S t, true) = res by rw [← HR.out, HDR.out, tryT_free hS hM])
          have HMN := Lib.hid hM
          clear hS hM
          go_wp2_with (first
            | (at_lookup; refine look_met M2 rfl _ _ rfl rfl ht rfl ?_; rw [HST.out])
            | (at_mapUpdate; refine upd_met M2 (by omega) rfl _ _ _ rfl rfl ht rfl rfl ?_; intro w5 M5 g5; have G5 : G2 wr w5 bo bm := G2.of_m g5; have O5 := O2.kept g5 (by intro e; injection e with e; exact hom e); obtain ⟨-, xo5, xk5, -, -, -, -, -, -, -, -, -⟩ := T2.g2 G5)
            | (at_lookup; refine look_free O5 rfl _ _ rfl rfl ht rfl HMN.out ?_; intro cv)
            | (at_mapUpdate; refine upd_own O5 (by omega) rfl _ _ _ rfl rfl ht hc9 rfl rfl ?_; intro w6 O6 g6; have M6 := M5.kept g6 (by intro e; injection e with e; exact hom e.symm)))
          go_ret
          rw [← HRR.out]
          exact ⟨n1 + 1, m + 1, rfl, O6, M6, by omega, fun h => (by cases h), by show m + 1 + unm (updB S t) n ≤ n; omega, (Gw.trans G5).trans (G2.of_o g6)⟩
        | some old =>
          have hold := HV.out t old hM
          have hRq := show tryT (tryF (nbN W T bs) f) c (NB.drop k) M S = _ by rw [HDR.out, tryT_old (rec := tryF (nbN W T bs) f) (c := c) (ts := NB.drop (k + 1)) hS hM]
          rw [HR.out] at hRq
          have hff := HFF.out old (updB S t)
          have CI := fun (w5 : World) (T5 : Tst W T n c0 bs A bo bm br bv bk w5) (O5 : OMI w5 bo n1 M) (M5 : MMB w5 bm (m + 1) (updB S t)) => HIH.out w5 M (updB S t) old n1 (m + 1) T5 O5 M5 hold (by have := HU.out; omega) (by omega) (by omega) HV.out
          generalize tryF (nbN W T bs) f M old (updB S t) = r at hRq hff CI
          have CI2 := Lib.hid CI
          have HRQ := Lib.hid hRq
          have HF2 := Lib.hid hff
          have HMO := Lib.hid hM
          clear hS hM CI hRq hff
          go_wp2_with (first
            | (at_lookup; refine look_met M2 rfl _ _ rfl rfl ht rfl ?_; rw [HST.out])
            | (at_mapUpdate; refine upd_met M2 (by omega) rfl _ _ _ rfl rfl ht rfl rfl ?_; intro w5 M5 g5; have G5 : G2 wr w5 bo bm := G2.of_m g5; have O5 := O2.kept g5 (by intro e; injection e with e; exact hom e); have T5 := T2.g2 G5; obtain ⟨-, xo5, xk5, -, -, -, -, -, -, -, -, -⟩ := id T5)
            | (at_lookup; refine look_old O5 rfl _ _ rfl rfl ht rfl HMO.out ?_))
          refine (CI2.out w5 T5 O5 M5).mono ?_
          rintro e w6 ⟨n2, m2, rfl, O6, M6, hn2, hn2f, hm2, G6⟩
          obtain ⟨r1, r2, r3⟩ := r
          have T6 := T5.g2 G6
          obtain ⟨-, xo6, xk6, -, -, -, -, -, -, -, -, -⟩ := id T6
          have G7 := (Gw.trans G5).trans G6
          have HM2 := Lib.hid hm2
          clear xo5 xk5 xo xk M5 O5 T5 O2 M2 hm2
          cases r3 with
          | true =>
            have HRR := Lib.hid (show (updM r1 t c, r2, true) = res from HRQ.out.symm)
            go_wp2_with (at_mapUpdate; refine upd_own O6 (by omega) rfl _ _ _ rfl rfl ht hc9 rfl rfl ?_; intro w7 O7 g7; have M7 := M6.kept g7 (by intro e; injection e with e; exact hom e.symm))
            go_ret
            rw [← HRR.out]
            exact ⟨n2 + 1, m2, rfl, O7, M7, by omega, fun h => (by cases h), HM2.out, G7.trans (G2.of_o g7)⟩
          | false =>
            obtain ⟨hr1, hsub⟩ := HF2.out rfl
            have hr1' : r1 = M := hr1
            subst hr1'
            have HR2 := Lib.hid (show tryT (tryF (nbN W T bs) f) c (NB.drop (k + 1)) r1 r2 = res from HRQ.out.symm)
            have HU2 := Lib.hid (show unm r2 n < f + 1 by have h3 := unm_le (S := updB S t) (S' := r2) hsub n; have := HU.out; omega)
            have hn2' := hn2f rfl
            clear hr1 hsub
            go_wp2_with fail
            go_roundw
            case rel => exact ⟨k + 1, m2, n2, r2, by omega, by go_num, HR2, M6, O6, by omega, HM2, HU2, G7, (G1w.trans G5).trans G6⟩
            case measure => simp [intOf]; omega
    · obtain rfl : k = NB.length := by omega
      have hge : ¬ ((NB.length : Int) < (NB.length : Int)) := by omega
      have HR2 := Lib.hid (show (M, S, false) = res by rw [← HR.out, List.drop_length]; rfl)
      go_wp2_with fail
      go_ret
      rw [← HR2.out]
      exact ⟨n1, m, rfl, O2, M2, by omega, fun _ => hn1, HMU.out, Gw⟩
end Go.Proofs.Ytnciemnlnijhfaa
