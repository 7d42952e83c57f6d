
/- FnExactFromPast: joined from FlipI, FlipJ, PuC, RiseI, PushI, RunI, PvI, EqlI, EachI, ExtI, CouI, FpaI. -/
import Derived.Test.YtafmpgikdhlknaaGreatHgtI
import Derived.Test.YtafmpgikdhlknaaGreatPshN
import Derived.Test.YtafmpgikdhlknaaGreatAtI
import Derived.Test.YtafmpgikdhlknaaGreatCell
import Derived.Test.YtafmpgikdhlknaaGreatPshQ
import Derived.Test.YtafmpgikdhlknaaGreatSimI
import Derived.Laws.EntriesVeiled
import Derived.BigQuiet
import Derived.Deep.QuietTactic
import Derived.Test.YtafmpgikdhlknaaGreatTlsN
import Derived.Test.YtafmpgikdhlknaaGreatFldB
import Derived.Test.YtafmpgikdhlknaaGreatListI
import Derived.Test.YtafmpgikdhlknaaGreatStep
import Derived.Test.YtafmpgikdhlknaaGreatSet
import Derived.Test.YtafmpgikdhlknaaGreatBw
import Derived.Deep.Cut
import Derived.Deep.CutRange
import Derived.Test.YtafmpgikdhlknaaGreatByI
import Derived.Deep.RegionHeld3
/- Contracts: the program's flips of a tiling. -/
namespace Go.Proofs.YtafmpgikdhlknaaGreat
open Go.RowKit

/-- the four cells round a corner -/
def aroV (W : Int) (v : Nat) : Value := .agg #[.int .i64 (vA W v), .int .i64 (vA W v + 1), .int .i64 (vA W v + W), .int .i64 (vA W v + W + 1)]
def aro0 : Value := .agg #[.int .i64 0, .int .i64 0, .int .i64 0, .int .i64 0]
def aroR (W T : Int) (v : Nat) : Ending := if innK W T v then .returned (.tuple #[aroV W v, .bool true]) else .returned (.tuple #[aro0, .bool false])
theorem vXY_bd {W T : Int} {n : Nat} (hf : FldF W T n) {v : Nat} (hv : v < ncN W T) : 0 ≤ vX W v ∧ vX W v ≤ W ∧ 0 ≤ vY W v ∧ vY W v ≤ T := by
  obtain ⟨h1, h2, h3⟩ := nc_bd hf
  obtain ⟨w1, w6, t1, t6, -⟩ := hf
  have a1 := Int.emod_nonneg (v : Int) (show W + 1 ≠ 0 by omega)
  have a2 := Int.emod_lt_of_pos (v : Int) (show 0 < W + 1 by omega)
  have a3 : (v : Int) / (W + 1) < T + 1 := Int.ediv_lt_of_lt_mul (by omega) (by rw [Int.mul_comm]; omega)
  have a4 : 0 ≤ (v : Int) / (W + 1) := Int.ediv_nonneg (by omega) (by omega)
  unfold vX vY
  exact ⟨a1, by omega, a4, by omega⟩
set_option maxRecDepth 100000 in
set_option maxHeartbeats 2000000 in
theorem around_any (W T : Int) (S : Value) (n : Nat) (v : Nat) (w : World) (hf : FldF W T n) (hv : v < ncN W T) :
    Calls Tryz.prog 139 #[.agg #[.int .i64 W, .int .i64 T, S], .int .i64 (v : Int)] w fun e w' => e = aroR W T v ∧ Below w.heap.size w w' := by
  obtain ⟨h1, h2, h3⟩ := nc_bd hf
  obtain ⟨a1, a2, a3, a4⟩ := vXY_bd hf hv
  obtain ⟨w1, w6, t1, t6, -⟩ := hf
  have X0 := C3.new w (.int .i64 W) (.int .i64 T) S 25
  have B0 := bl_alloc (Below.refl w.heap.size w) (.cells #[.int .i64 W, .int .i64 T, S] 25)
  have j1 : IntKind.i64.wrap (W + 1) = W + 1 := IntWalk.i64_in _ (by omega)
  have j2 : (v : Int).tmod (W + 1) = vX W v := Int.tmod_eq_emod_of_nonneg (by omega)
  have j3 : (v : Int).tdiv (W + 1) = vY W v := Int.tdiv_eq_ediv_of_nonneg (by omega)
  have hA : vA W v = (vY W v - 1) * W + (vX W v - 1) := rfl
  have k1 := Int.mul_le_mul_of_nonneg_right (show vY W v - 1 ≤ 5 by omega) (show 0 ≤ W by omega)
  have k2 := Int.mul_le_mul_of_nonneg_right (show -1 ≤ vY W v - 1 by omega) (show 0 ≤ W by omega)
  have HI := Lib.hid (show innK W T v ↔ (1 ≤ vX W v ∧ vX W v ≤ W - 1 ∧ 1 ≤ vY W v ∧ vY W v ≤ T - 1) from Iff.rfl)
  obtain ⟨x0, x1, x2⟩ := id X0
  go_enter Tryz.func139, Tryz.ntmps139
  go_wp2_with fail
  go_region
  by_cases hx : 1 ≤ vX W v ∧ vX W v ≤ W - 1
  · obtain ⟨p1, p2⟩ := id hx
    by_cases hy : 1 ≤ vY W v ∧ vY W v ≤ T - 1
    · obtain ⟨p3, p4⟩ := id hy
      have HE : innK W T v := HI.out.2 ⟨p1, p2, p3, p4⟩
      have HR := Lib.hid (show (.returned (.tuple #[aroV W v, .bool true]) : Ending) = aroR W T v by unfold aroR; rw [if_pos HE])
      clear HI HE
      go_wp2_with (go_at_call 42; first | ((with_reducible refine (in_t (vX W v) _ _ _ p1 p2).mono ?_); rintro e w' ⟨rfl, rfl⟩) | ((with_reducible refine (in_t (vY W v) _ _ _ p3 p4).mono ?_); rintro e w' ⟨rfl, rfl⟩))
      refine bodyPost_ret (v := .tuple #[aroV W v, .bool true]) (by simp [results, Tryz.results139, go_sem, aroV]; omega) rfl ⟨HR.out, ?_⟩
      exact (bl_go B0 (bl_alloc (Below.refl _ _) _)).drew
    · have HE : ¬ innK W T v := fun h => hy (HI.out.1 h).2.2
      have HR := Lib.hid (show (.returned (.tuple #[aro0, .bool false]) : Ending) = aroR W T v by unfold aroR; rw [if_neg HE])
      go_wp2_with (go_at_call 42; first | ((with_reducible refine (in_t (vX W v) _ _ _ p1 p2).mono ?_); rintro e w' ⟨rfl, rfl⟩) | ((with_reducible refine (in_f (vY W v) _ _ _ (by omega)).mono ?_); rintro e w' ⟨rfl, rfl⟩))
      refine bodyPost_ret (v := .tuple #[aro0, .bool false]) (by simp [results, Tryz.results139, go_sem, aro0]) rfl ⟨HR.out, ?_⟩
      exact (bl_go B0 (bl_alloc (Below.refl _ _) _)).drew
  · have HE : ¬ innK W T v := fun h => hx ⟨(HI.out.1 h).1, (HI.out.1 h).2.1⟩
    have HR := Lib.hid (show (.returned (.tuple #[aro0, .bool false]) : Ending) = aroR W T v by unfold aroR; rw [if_neg HE])
    go_wp2_with (go_at_call 42; refine (in_f (vX W v) _ _ _ (by omega)).mono ?_; rintro e w' ⟨rfl, rfl⟩)
    refine bodyPost_ret (v := .tuple #[aro0, .bool false]) (by simp [results, Tryz.results139, go_sem, aro0]) rfl ⟨HR.out, ?_⟩
    exact (bl_go B0 (bl_alloc (Below.refl _ _) _)).drew
set_option maxRecDepth 100000 in
set_option maxHeartbeats 4000000 in
theorem flippable_any (W T : Int) (S : Value) (D : Option Addr) (d n : Nat) (L : List Int) (v : Nat) (w : World) (hd : Rd w D (L.map (.int .i64))) (hf : FldF W T n) (hl : L.length = n) (hv : v < ncN W T) :
    Calls Tryz.prog 138 #[.agg #[.int .i64 W, .int .i64 T, S], .slice D n d, .int .i64 (v : Int)] w fun e w' => e = .returned (.tuple #[.bool (flatB W T L v), .bool (uprB W T L v)]) ∧ Below w.heap.size w w' := by
  have X0 := C3.new w (.int .i64 W) (.int .i64 T) S 25
  have B0 := bl_alloc (Below.refl w.heap.size w) (.cells #[.int .i64 W, .int .i64 T, S] 25)
  have CA := Lib.hid (fun z => around_any W T S n v z hf hv)
  have HN1 := Lib.hid (fun (h : ¬ innK W T v) => show flatB W T L v = false from by unfold flatB; rw [decide_eq_false h]; rfl)
  have HN2 := Lib.hid (fun (h : ¬ innK W T v) => show uprB W T L v = false from by unfold uprB; rw [decide_eq_false h]; rfl)
  have hd0 := hd.belo B0
  obtain ⟨x0, x1, x2⟩ := id X0
  go_enter Tryz.func138, Tryz.ntmps138
  go_wp2_with fail
  refine (CA.out _).mono ?_
  rintro e w1 ⟨rfl, b1⟩
  have B1 := bl_go B0 b1
  have D1 := hd0.belo b1
  unfold aroR
  clear x0 x1 x2 X0 CA hd hd0
  by_cases hI : innK W T v
  · rw [if_pos hI]
    obtain ⟨w1', w6, t1, t6, hlen⟩ := id hf
    obtain ⟨a, b, c, e4, ea, eb, ec, ee, ha, hb, hc, he, -⟩ := around (n := n) ⟨w1', t1, hlen⟩ hI
    have n36 : n ≤ 36 := hf.bd
    have HF1 := Lib.hid (show flatB W T L v = (decide (L.getD a 0 = 1) && decide (L.getD c 0 = 1)) from by unfold flatB; rw [decide_eq_true hI, ec, ea, Int.toNat_natCast, Int.toNat_natCast, Bool.true_and])
    have HF2 := Lib.hid (show uprB W T L v = (decide (L.getD a 0 = 2) && decide (L.getD b 0 = 2)) from by unfold uprB; rw [decide_eq_true hI, eb, ea, Int.toNat_natCast, Int.toNat_natCast, Bool.true_and])
    unfold aroV
    rw [ea]
    rw [ea] at eb ec ee
    rw [eb, ec]
    rw [ec] at ee
    rw [ee]
    have hal : a < L.length := by omega
    have hbl : b < L.length := by omega
    have hcl : c < L.length := by omega
    rw [getD_at _ _ hal, getD_at _ _ hcl] at HF1
    rw [getD_at _ _ hal, getD_at _ _ hbl] at HF2
    have Bn := bl_alloc (Below.refl w1.heap.size w1) (.cells #[.int .i64 (a : Int), .int .i64 (b : Int), .int .i64 (c : Int), .int .i64 (e4 : Int)] 125)
    have D2 := D1.belo Bn
    obtain ⟨ad, rfl, c0⟩ := D2.atM hal
    obtain ⟨ad', e', c1⟩ := D2.atM hbl
    injection e' with e'
    subst e'
    obtain ⟨ad', e', c2⟩ := D2.atM hcl
    injection e' with e'
    subst e'
    have haI : (a : Int) < (n : Int) := by omega
    have hbI : (b : Int) < (n : Int) := by omega
    have hcI : (c : Int) < (n : Int) := by omega
    generalize L[a] = l0 at *
    generalize L[b] = l1 at *
    generalize L[c] = l2 at *
    clear hal hbl hcl hf ea eb ec ee hI D1 D2 hlen HN1 HN2
    go_upto_region 4 with fail
    have y0 := cell_of_row _ _ 0 _ _ _ (heap_alloc_new w1 (.cells #[.int .i64 (a : Int), .int .i64 (b : Int), .int .i64 (c : Int), .int .i64 (e4 : Int)] 125))
    have y1 := cell_of_row _ _ 1 _ _ _ (heap_alloc_new w1 (.cells #[.int .i64 (a : Int), .int .i64 (b : Int), .int .i64 (c : Int), .int .i64 (e4 : Int)] 125))
    have y2 := cell_of_row _ _ 2 _ _ _ (heap_alloc_new w1 (.cells #[.int .i64 (a : Int), .int .i64 (b : Int), .int .i64 (c : Int), .int .i64 (e4 : Int)] 125))
    have HF := Lib.hid (show (.returned (.tuple #[.bool (decide (l0 = 1) && decide (l2 = 1)), .bool (decide (l0 = 2) && decide (l1 = 2))]) : Ending) = .returned (.tuple #[.bool (flatB W T L v), .bool (uprB W T L v)]) by rw [HF1.out, HF2.out])
    have BF := bl_go B1 Bn
    clear HF1 HF2 Bn B1
    obtain ⟨z, hz⟩ : ∃ z, w1.heap.size = z := ⟨_, rfl⟩
    rw [hz] at y0 y1 y2
    simp only [hz]
    generalize w1.alloc (.cells #[.int .i64 (a : Int), .int .i64 (b : Int), .int .i64 (c : Int), .int .i64 (e4 : Int)] 125) = u at *
    clear hz
    by_cases h1 : l0 = 1
    · subst h1
      have HG := Lib.hid (show (.returned (.tuple #[.bool (l2 == 1), .bool false]) : Ending) = .returned (.tuple #[.bool (flatB W T L v), .bool (uprB W T L v)]) by rw [← HF.out]; cases h : (l2 == 1) <;> simp_all)
      go_quiet (fail)
      go_wp2_with fail
      go_ret2
      exact ⟨HG.out, below_drewN' BF _⟩
    · by_cases h2 : l0 = 2
      · subst h2
        have HG := Lib.hid (show (.returned (.tuple #[.bool false, .bool (l1 == 2)]) : Ending) = .returned (.tuple #[.bool (flatB W T L v), .bool (uprB W T L v)]) by rw [← HF.out]; cases h : (l1 == 2) <;> simp_all)
        clear h1
        go_quiet (fail)
        go_wp2_with fail
        go_ret2
        exact ⟨HG.out, below_drewN' BF _⟩
      · have HG := Lib.hid (show (.returned (.tuple #[.bool false, .bool false]) : Ending) = .returned (.tuple #[.bool (flatB W T L v), .bool (uprB W T L v)]) by rw [← HF.out]; simp_all)
        have h3 : (l0 == 1) = false := by rw [beq_eq_false_iff_ne]; exact h1
        have h4 : (l0 == 2) = false := by rw [beq_eq_false_iff_ne]; exact h2
        clear h1 h2
        go_quiet (fail)
        go_wp2_with fail
        go_ret2
        exact ⟨HG.out, below_drewN' BF _⟩
  · rw [if_neg hI]
    have HRN := Lib.hid (show (.returned (.tuple #[.bool false, .bool false]) : Ending) = .returned (.tuple #[.bool (flatB W T L v), .bool (uprB W T L v)]) by rw [HN1.out hI, HN2.out hI])
    unfold aro0
    go_wp2_with fail
    go_ret2
    exact ⟨HRN.out, (bl_go B1 (bl_alloc (Below.refl _ _) _))⟩
end Go.Proofs.YtafmpgikdhlknaaGreat

/- Contract: the program's flip. -/
namespace Go.Proofs.YtafmpgikdhlknaaGreat
open Go.RowKit

theorem keepN {z g : Nat} (h : g ≠ z) {o m : Nat} {u x : Value} {w : World} (e : w.cell? ⟨z, o, none⟩ = some x) : (w.setCell ⟨g, m, none⟩ u).cell? ⟨z, o, none⟩ = some x := by
  rw [World.cell?_setCell_other _ _ _ _ (fun x => by have := congrArg Addr.block x; simp at this; omega)]; exact e
theorem keep4 {z g : Nat} (h : g ≠ z) {m : Nat} {u x0 x1 x2 x3 : Value} {w : World} (k : w.cell? ⟨z, 0, none⟩ = some x0 ∧ w.cell? ⟨z, 1, none⟩ = some x1 ∧ w.cell? ⟨z, 2, none⟩ = some x2 ∧ w.cell? ⟨z, 3, none⟩ = some x3) :
    (w.setCell ⟨g, m, none⟩ u).cell? ⟨z, 0, none⟩ = some x0 ∧ (w.setCell ⟨g, m, none⟩ u).cell? ⟨z, 1, none⟩ = some x1 ∧ (w.setCell ⟨g, m, none⟩ u).cell? ⟨z, 2, none⟩ = some x2 ∧ (w.setCell ⟨g, m, none⟩ u).cell? ⟨z, 3, none⟩ = some x3 :=
  ⟨keepN h k.1, keepN h k.2.1, keepN h k.2.2.1, keepN h k.2.2.2⟩
set_option maxRecDepth 100000 in
set_option maxHeartbeats 4000000 in
theorem flip_any (W T : Int) (S : Value) (ad : Addr) (d n : Nat) (L : List Int) (v : Nat) (w : World) (hd : Rd w (some ad) (L.map (.int .i64))) (hf : FldF W T n) (hl : L.length = n) (hv : v < ncN W T) :
    Calls Tryz.prog 115 #[.agg #[.int .i64 W, .int .i64 T, S], .slice (some ad) n d, .int .i64 (v : Int)] w fun e w' => ∃ g : Nat, e = .returned (.tuple #[.slice (some ⟨g, 0, none⟩) n n, .bool (flatB W T L v || uprB W T L v)]) ∧ Wr w' w.heap.size 3 (some ⟨g, 0, none⟩) ((flipL W T L v).map (.int .i64)) ∧ w.heap.size ≤ g ∧ g < w'.heap.size ∧ Below w.heap.size w w' := by
  have n36 : n ≤ 36 := hf.bd
  have n1 : 1 ≤ n := by obtain ⟨w1, w6, t1, t6, hlen⟩ := id hf; have := (mul_bd w1 w6 t1 t6).1; omega
  have X0 := C3.new w (.int .i64 W) (.int .i64 T) S 25
  have B0 := bl_alloc (Below.refl w.heap.size w) (.cells #[.int .i64 W, .int .i64 T, S] 25)
  have hd0 := hd.belo B0
  have hlt0 := X0.lt
  have CC := Lib.hid (cloneI_any ad n d L _ hd0 hl (by omega) (by omega))
  have CF := Lib.hid (fun (z : World) (R : Rd z (some ad) (L.map (.int .i64))) => flippable_any W T S (some ad) d n L v z R hf hl hv)
  have CA := Lib.hid (fun z => around_any W T S n v z hf hv)
  go_enter Tryz.func115, Tryz.ntmps115
  go_wp2_with fail
  generalize w.alloc (.cells #[.int .i64 W, .int .i64 T, S] 25) = u0 at *
  refine CC.out.mono ?_
  rintro e w2 ⟨g, rfl, W2, hg1, hg2, b2⟩
  have X2 := X0.belo b2
  have D2 := hd0.belo b2
  have B2 := bl_go B0 b2
  obtain ⟨x0, x1, x2⟩ := id X2
  clear hd0 hd X0 CC
  go_wp2_with fail
  refine (CF.out _ D2).mono ?_
  rintro e w3 ⟨rfl, b3⟩
  have X3 := X2.belo b3
  have W3 := W2.belo b3
  have B3 := bl_go B2 b3
  have hg3 : g < w3.heap.size := Nat.lt_of_lt_of_le hg2 b3.size
  clear x0 x1 x2 X2 D2 W2 hg2
  obtain ⟨x0, x1, x2⟩ := id X3
  go_wp2_with fail
  refine (CA.out _).mono ?_
  rintro e w4 ⟨rfl, b4⟩
  have W4 := W3.belo b4
  have B4 := bl_go B3 b4
  have hg4 : g < w4.heap.size := Nat.lt_of_lt_of_le hg3 b4.size
  have hwg : w.heap.size ≤ g := by omega
  unfold aroR
  clear x0 x1 x2 X3 W3 CA CF hg3
  by_cases hI : innK W T v
  · rw [if_pos hI]
    obtain ⟨w1', w6, t1, t6, hlen⟩ := id hf
    obtain ⟨a, b, c, e4, ea, eb, ec, ee, ha, hb, hc, he, -⟩ := around (n := n) ⟨w1', t1, hlen⟩ hI
    have hW : 2 ≤ W := by obtain ⟨h1, h2, -⟩ := hI; omega
    have ea2 : (vA W v).toNat = a := by omega
    have eb2 : (vA W v + 1).toNat = b := by omega
    have ec2 : (vA W v + W).toNat = c := by omega
    have ee2 : (vA W v + W + 1).toNat = e4 := by omega
    unfold aroV
    rw [ea]
    rw [ea] at eb ec ee
    rw [eb, ec]
    rw [ec] at ee
    rw [ee]
    have hab : ¬ (b = a) := by omega
    have hac : ¬ (c = a) := by omega
    have hae : ¬ (e4 = a) := by omega
    have hbc : ¬ (c = b) := by omega
    have hbe : ¬ (e4 = b) := by omega
    have hce : ¬ (e4 = c) := by omega
    have haI : (a : Int) < (n : Int) := by omega
    have hbI : (b : Int) < (n : Int) := by omega
    have hcI : (c : Int) < (n : Int) := by omega
    have heI : (e4 : Int) < (n : Int) := by omega
    have HSET := Lib.hid (fun (p q r s : Int) => show set4 W L v p q r s = (((L.set a p).set b q).set c r).set e4 s from by unfold set4; rw [ea2, eb2, ec2, ee2])
    have HFL := Lib.hid (fun (h : flatB W T L v = true) => show flipL W T L v = set4 W L v 2 2 4 4 from by unfold flipL; rw [if_pos h])
    have HUL := Lib.hid (fun (h : flatB W T L v = false) (k : uprB W T L v = true) => show flipL W T L v = set4 W L v 1 3 1 3 from by unfold flipL; rw [if_neg (by rw [h]; exact Bool.false_ne_true), if_pos k])
    have HNL := Lib.hid (fun (h : flatB W T L v = false) (k : uprB W T L v = false) => show flipL W T L v = L from by unfold flipL; rw [if_neg (by rw [h]; exact Bool.false_ne_true), if_neg (by rw [k]; exact Bool.false_ne_true)])
    clear ea eb ec ee ea2 eb2 ec2 ee2 hI hlen hf
    go_upto_region 4 with fail
    have Bn := bl_alloc (Below.refl w4.heap.size w4) (.cells #[.int .i64 (a : Int), .int .i64 (b : Int), .int .i64 (c : Int), .int .i64 (e4 : Int)] 125)
    have KN := heap_alloc_new w4 (.cells #[.int .i64 (a : Int), .int .i64 (b : Int), .int .i64 (c : Int), .int .i64 (e4 : Int)] 125)
    have Y := (show _ ∧ _ ∧ _ ∧ _ from ⟨cell_of_row _ _ 0 _ _ _ KN, cell_of_row _ _ 1 _ _ _ KN, cell_of_row _ _ 2 _ _ _ KN, cell_of_row _ _ 3 _ _ _ KN⟩)
    have WZ := W4.belo Bn
    have BZ := bl_go B4 Bn
    have hgz : g < (w4.alloc (.cells #[.int .i64 (a : Int), .int .i64 (b : Int), .int .i64 (c : Int), .int .i64 (e4 : Int)] 125)).heap.size := Nat.lt_of_lt_of_le hg4 Bn.size
    obtain ⟨z, hz⟩ : ∃ z, w4.heap.size = z := ⟨_, rfl⟩
    rw [hz] at Y hg4
    simp only [hz]
    generalize w4.alloc (.cells #[.int .i64 (a : Int), .int .i64 (b : Int), .int .i64 (c : Int), .int .i64 (e4 : Int)] 125) = u at *
    have hgz' : g ≠ z := by omega
    clear hz KN Bn W4 b4 B4
    have Y : u.cell? ⟨z, 0, none⟩ = some (.int .i64 (a : Int)) ∧ u.cell? ⟨z, 1, none⟩ = some (.int .i64 (b : Int)) ∧ u.cell? ⟨z, 2, none⟩ = some (.int .i64 (c : Int)) ∧ u.cell? ⟨z, 3, none⟩ = some (.int .i64 (e4 : Int)) := Y
    have hla : a < L.length := by omega
    have hlb : b < L.length := by omega
    have hlc : c < L.length := by omega
    have hle : e4 < L.length := by omega
    obtain ⟨g', eg, -, -, hfr⟩ := WZ.form (by intro e; rw [List.map_eq_nil_iff] at e; rw [e] at hla; simp at hla)
    injection eg with eg; injection eg with eg
    subst eg
    have f1 := hfr a
    have f2 := hfr b
    have f3 := hfr c
    have f4 := hfr e4
    have c1 := WZ.rd.cellEM hla
    have c2 := WZ.rd.cellEM hlb
    have c3 := WZ.rd.cellEM hlc
    have c4 := WZ.rd.cellEM hle
    simp only [Nat.zero_add] at c1 c2 c3 c4
    generalize L[a] = l1 at *
    generalize L[b] = l2 at *
    generalize L[c] = l3 at *
    generalize L[e4] = l4 at *
    clear hla hlb hlc hle b2 b3 B2 B3 hv hl
    cases hF : flatB W T L v with
    | true =>
      have HL5 := Lib.hid (show flipL W T L v = (((L.set a 2).set b 2).set c 4).set e4 4 from by rw [HFL.out hF, HSET.out])
      have W5 := ((((WZ.store a (.int .i64 2)).store b (.int .i64 2)).store c (.int .i64 4)).store e4 (.int .i64 4)).belo (Below.refl _ _).drew
      rw [← List.map_set, ← List.map_set, ← List.map_set, ← List.map_set, ← HL5.out] at W5
      go_upto_region 5 with fail
      go_region_held3 (fun w' => w'.cell? ⟨z, 0, none⟩ = some (.int .i64 (a : Int)) ∧ w'.cell? ⟨z, 1, none⟩ = some (.int .i64 (b : Int)) ∧ w'.cell? ⟨z, 2, none⟩ = some (.int .i64 (c : Int)) ∧ w'.cell? ⟨z, 3, none⟩ = some (.int .i64 (e4 : Int)))
        (first | (with_reducible exact Y) | (with_reducible exact keep4 hgz' Y) | (with_reducible exact keep4 hgz' (keep4 hgz' Y)) | (with_reducible exact keep4 hgz' (keep4 hgz' (keep4 hgz' Y))) | (with_reducible exact keep4 hgz' (keep4 hgz' (keep4 hgz' (keep4 hgz' Y)))) | go_keep)
        (fail)
      go_wp2_with fail
      go_ret2
      exact ⟨g, rfl, W5.lower (Nat.le_of_lt hlt0), hwg, by simpa [World.setCell, World.drew] using hgz, ((((BZ.setCell (by simpa using hwg) _).setCell (by simpa using hwg) _).setCell (by simpa using hwg) _).setCell (by simpa using hwg) _).drew⟩
    | false =>
      cases hU : uprB W T L v with
      | true =>
        have HL5 := Lib.hid (show flipL W T L v = (((L.set a 1).set b 3).set c 1).set e4 3 from by rw [HUL.out hF hU, HSET.out])
        have W5 := ((((WZ.store a (.int .i64 1)).store b (.int .i64 3)).store c (.int .i64 1)).store e4 (.int .i64 3)).belo (Below.refl _ _).drew
        rw [← List.map_set, ← List.map_set, ← List.map_set, ← List.map_set, ← HL5.out] at W5
        go_upto_region 7 with fail
        go_region_held3 (fun w' => w'.cell? ⟨z, 0, none⟩ = some (.int .i64 (a : Int)) ∧ w'.cell? ⟨z, 1, none⟩ = some (.int .i64 (b : Int)) ∧ w'.cell? ⟨z, 2, none⟩ = some (.int .i64 (c : Int)) ∧ w'.cell? ⟨z, 3, none⟩ = some (.int .i64 (e4 : Int)))
          (first | (with_reducible exact Y) | (with_reducible exact keep4 hgz' Y) | (with_reducible exact keep4 hgz' (keep4 hgz' Y)) | (with_reducible exact keep4 hgz' (keep4 hgz' (keep4 hgz' Y))) | (with_reducible exact keep4 hgz' (keep4 hgz' (keep4 hgz' (keep4 hgz' Y)))) | go_keep)
          (fail)
        go_wp2_with fail
        go_ret2
        exact ⟨g, rfl, W5.lower (Nat.le_of_lt hlt0), hwg, by simpa [World.setCell, World.drew] using hgz, ((((BZ.setCell (by simpa using hwg) _).setCell (by simpa using hwg) _).setCell (by simpa using hwg) _).setCell (by simpa using hwg) _).drew⟩
      | false =>
        have HL5 := Lib.hid (show flipL W T L v = L from HNL.out hF hU)
        rw [← HL5.out] at WZ
        go_wp2_with fail
        go_ret2
        exact ⟨g, rfl, WZ.lower (Nat.le_of_lt hlt0), hwg, hgz, BZ⟩
  · rw [if_neg hI]
    have h1 : flatB W T L v = false := by unfold flatB; rw [decide_eq_false hI]; rfl
    have h2 : uprB W T L v = false := by unfold uprB; rw [decide_eq_false hI]; rfl
    have HL5 := Lib.hid (show L = flipL W T L v from by unfold flipL; rw [if_neg (by rw [h1]; exact Bool.false_ne_true), if_neg (by rw [h2]; exact Bool.false_ne_true)])
    simp only [h1, h2]
    unfold aro0
    have Bn := bl_alloc (Below.refl w4.heap.size w4) (.cells #[.int .i64 0, .int .i64 0, .int .i64 0, .int .i64 0] 125)
    have WZ := W4.belo Bn
    have BZ := bl_go B4 Bn
    have hgz := Nat.lt_of_lt_of_le hg4 Bn.size
    go_wp2_with fail
    go_ret2
    exact ⟨g, by rw [h1, h2]; rfl, by rw [← HL5.out]; exact WZ.lower (Nat.le_of_lt hlt0), hwg, hgz, BZ⟩
end Go.Proofs.YtafmpgikdhlknaaGreat

/- Slices of pushes (a number and a truth value each). -/
namespace Go.Proofs.YtafmpgikdhlknaaGreat
open Go.RowKit

abbrev Pu := Int × Bool
def pushV (ps : List Pu) : List Value := ps.flatMap fun c => [.int .i64 c.1, .bool c.2]
theorem pushV_len (ps : List Pu) : (pushV ps).length = ps.length * 2 := by
  induction ps with
  | nil => rfl
  | cons a l ih => unfold pushV at ih ⊢; rw [List.flatMap_cons, List.length_append, ih, List.length_cons]; simp; omega
theorem pushV_append (a b : List Pu) : pushV (a ++ b) = pushV a ++ pushV b := by unfold pushV; rw [List.flatMap_append]
theorem pushV_get (ps : List Pu) (k : Nat) (h : k < ps.length) : (pushV ps)[k * 2]? = some (.int .i64 ps[k].1) ∧ (pushV ps)[k * 2 + 1]? = some (.bool ps[k].2) := by
  induction ps generalizing k with
  | nil => simp at h
  | cons a l ih =>
    have e : pushV (a :: l) = .int .i64 a.1 :: .bool a.2 :: pushV l := rfl
    cases k with
    | zero => rw [e]; exact ⟨rfl, rfl⟩
    | succ k =>
      have := ih k (by simpa using h)
      rw [e, show (k + 1) * 2 = k * 2 + 2 by omega, show k * 2 + 2 + 1 = (k * 2 + 1) + 2 by omega]
      exact this
/-- a slice that reads as pushes -/
def RdP (w : World) (A : Option Addr) (ps : List Pu) : Prop := Rd w A (pushV ps)
theorem RdP.belo {w w' : World} {A : Option Addr} {ps : List Pu} (h : RdP w A ps) (hb : Below w.heap.size w w') : RdP w' A ps := Rd.belo h hb
theorem RdP.at_ {w : World} {A : Option Addr} {ps : List Pu} (h : RdP w A ps) {k : Nat} (hk : k < ps.length) :
    ∃ b off, A = some ⟨b, off, none⟩ ∧ w.cell? ⟨b, off + k * 2, none⟩ = some (.int .i64 ps[k].1) ∧ w.cell? ⟨b, off + k * 2 + 1, none⟩ = some (.bool ps[k].2) := by
  obtain ⟨ad, e, hc⟩ := h (by intro e; have := pushV_len ps; rw [e] at this; simp at this; omega)
  obtain ⟨h1, h2⟩ := pushV_get ps k hk
  obtain ⟨z1, -⟩ := pushV_get ps 0 (by omega)
  have h0 := hc _ _ z1
  rw [add_zero'] at h0
  have hs := World.cell?_spot h0
  obtain ⟨b, off, spot⟩ := ad
  simp only at hs
  subst hs
  have e1 := hc _ _ h1
  have e2 := hc _ _ h2
  rw [add_off] at e1 e2
  exact ⟨b, off, e, e1, e2⟩
/-- a part of it -/
theorem RdP.sub {w : World} {b off : Nat} {ps : List Pu} (h : RdP w (some ⟨b, off, none⟩) ps) (i m : Nat) : RdP w (some ⟨b, off + i * 2, none⟩) ((ps.drop i).take m) := by
  intro hn
  refine ⟨_, rfl, fun j u hu => ?_⟩
  have hne : ps ≠ [] := by rintro rfl; simp [pushV] at hn
  obtain ⟨ad, e, hc⟩ := h (by intro e; have h1 := pushV_len ps; rw [e] at h1; have := List.length_pos_iff.2 hne; simp at h1; omega)
  injection e with e
  subst e
  have hj : j < (pushV ((ps.drop i).take m)).length := by
    rcases Nat.lt_or_ge j (pushV ((ps.drop i).take m)).length with h1 | h1
    · exact h1
    · rw [List.getElem?_eq_none h1] at hu; cases hu
  have hi : i ≤ ps.length := by
    rcases Nat.lt_or_ge ps.length i with h1 | h1
    · rw [List.drop_of_length_le (by omega)] at hj; simp [pushV] at hj
    · exact h1
  have e2 : pushV ps = pushV (ps.take i) ++ (pushV ((ps.drop i).take m) ++ pushV ((ps.drop i).drop m)) := by
    rw [← pushV_append, ← pushV_append, List.take_append_drop, List.take_append_drop]
  have hl : (pushV (ps.take i)).length = i * 2 := by rw [pushV_len, List.length_take]; omega
  have := hc (i * 2 + j) u (by rw [e2, List.getElem?_append_right (by omega), hl, List.getElem?_append_left (by omega), show i * 2 + j - i * 2 = j by omega]; exact hu)
  rw [add_off] at this ⊢
  rw [Nat.add_assoc]
  exact this
end Go.Proofs.YtafmpgikdhlknaaGreat

/- Contracts: the program's rise of a flip, a push, and pushes one after the other. -/
namespace Go.Proofs.YtafmpgikdhlknaaGreat
open Go.RowKit

/-- the rise of a flip, told by both lists of heights -/
theorem rise_at {W T : Int} {bs : List Bool} (hs : simpB W T bs = true) {L : List Int} (h : tilingB W T bs L = true) {v : Nat} (hv : v < ncN W T) (hb : (flatB W T L v || uprB W T L v) = true) :
    tilingB W T bs (flipL W T L v) = true ∧ (hgtV W T bs (flipL W T L v)).getD v 0 - (hgtV W T bs L).getD v 0 = riseZ W T L v := by
  obtain ⟨h1, hsq, h3⟩ := flip_hgt hs h (by rwa [Bool.or_eq_true] at hb)
  have hf := valid_fld (simp_iff.1 hs).1
  have e := h3 _ _ (.inl hsq.1)
  rw [bump_eq] at e
  have e1 : ∀ hs, hL W T hs (vX W v) (vY W v) = hs.getD v 0 := fun hs => hL_k hf hv
  rw [e1, e1] at e
  exact ⟨h1, by omega⟩
theorem rise_0 {W T : Int} {L : List Int} {v : Nat} (hb : (flatB W T L v || uprB W T L v) = false) : riseZ W T L v = 0 := by
  rw [Bool.or_eq_false_iff] at hb
  unfold riseZ
  rw [if_neg (by rw [hb.1]; exact Bool.false_ne_true), if_neg (by rw [hb.2]; exact Bool.false_ne_true)]
theorem rise_bd (W T : Int) (L : List Int) (v : Nat) : riseZ W T L v = 0 ∨ riseZ W T L v = 4 ∨ riseZ W T L v = -4 := by
  unfold riseZ
  rcases rho_or (vX W v) (vY W v) with e | e <;> rw [e] <;> split <;> (try split) <;> simp
theorem hgt_num {W T : Int} {bs : List Bool} (hs : simpB W T bs = true) {L : List Int} (h : tilingB W T bs L = true) {v : Nat} (hv : v < ncN W T) : -99 ≤ (hgtV W T bs L).getD v 0 ∧ (hgtV W T bs L).getD v 0 ≤ 99 := by
  have g := hgtV_good hs h
  by_cases hc : corK W T bs v
  · have := g.bd hs hv hc; omega
  · rw [g.none v hv hc]; omega
set_option maxRecDepth 100000 in
set_option maxHeartbeats 2000000 in
theorem rise_any (W T : Int) (A : Option Addr) (ad : Addr) (c d n : Nat) (bs : List Bool) (L : List Int) (v : Nat) (w : World) (hr : Rd w A (bs.map .bool)) (hd : Rd w (some ad) (L.map (.int .i64))) (hs : simpB W T bs = true) (h : tilingB W T bs L = true) (hn : bs.length = n) (hv : v < ncN W T) :
    Calls Tryz.prog 114 #[.agg #[.int .i64 W, .int .i64 T, .slice A n c], .slice (some ad) n d, .int .i64 (v : Int)] w fun e w' => e = .returned (.int .i64 (riseZ W T L v)) ∧ Below w.heap.size w w' := by
  obtain ⟨hval, hl, -⟩ := tiling_til h
  obtain ⟨⟨w1, w6⟩, ⟨t1, t6⟩, hlen, -⟩ := validB_iff.1 hval
  have hf : FldF W T n := ⟨w1, w6, t1, t6, by rw [← hn]; exact hlen⟩
  obtain ⟨-, hN1, hN49⟩ := nc_bd hf
  have hLn : L.length = n := by omega
  have X0 := C3.new w (.int .i64 W) (.int .i64 T) (.slice A n c) 25
  have B0 := bl_alloc (Below.refl w.heap.size w) (.cells #[.int .i64 W, .int .i64 T, .slice A n c] 25)
  have CF := Lib.hid (flip_any W T (.slice A n c) ad d n L v _ (hd.belo B0) hf hLn hv)
  have r0 := hr.belo B0
  have d0 := hd.belo B0
  cases hb : flatB W T L v || uprB W T L v with
  | false =>
    have HZ := Lib.hid (rise_0 hb)
    rw [hb] at CF
    obtain ⟨x0, x1, x2⟩ := id X0
    clear hlen hl hval h hs hf
    go_enter Tryz.func114, Tryz.ntmps114
    go_wp2_with fail
    generalize w.alloc (.cells #[.int .i64 W, .int .i64 T, .slice A n c] 25) = u at *
    refine CF.out.mono ?_
    rintro e w2 ⟨g, rfl, W2, hg1, hg2, b2⟩
    clear x0 x1 x2
    go_wp2_with fail
    go_ret
    exact ⟨ret_i HZ.out.symm, bl_go B0 b2⟩
  | true =>
    rw [hb] at CF
    obtain ⟨h2, hz⟩ := rise_at hs h hv hb
    have m1 := hgt_num hs h hv
    have m2 := hgt_num hs h2 hv
    have l1 : (hgtV W T bs L).length = ncN W T := (hgtV_good hs h).len
    have l2 : (hgtV W T bs (flipL W T L v)).length = ncN W T := (hgtV_good hs h2).len
    have C1 := Lib.hid (fun (z : World) (g : Nat) (R : Rd z A (bs.map .bool)) (D : Rd z (some ⟨g, 0, none⟩) ((flipL W T L v).map (.int .i64))) => heights_any W T A (some ⟨g, 0, none⟩) c n n bs (flipL W T L v) z R D hs h2 hn)
    have C2 := Lib.hid (fun (z : World) (R : Rd z A (bs.map .bool)) (D : Rd z (some ad) (L.map (.int .i64))) => heights_any W T A (some ad) c d n bs L z R D hs h hn)
    have hv1 : v < (hgtV W T bs L).length := by omega
    have hv2 : v < (hgtV W T bs (flipL W T L v)).length := by omega
    rw [getD_in _ _ hv1, getD_in _ _ hv2] at hz
    rw [getD_in _ _ hv1] at m1
    rw [getD_in _ _ hv2] at m2
    have HZ := Lib.hid hz
    have K1 := Lib.hid (fun (z : World) (g B : Nat) (R : Wr z B 3 (some ⟨g, 0, none⟩) ((hgtV W T bs L).map (.int .i64))) => show z.cell? ⟨g, v, none⟩ = some (.int .i64 (hgtV W T bs L)[v]) from by simpa using R.rd.cellEM hv1)
    have K2 := Lib.hid (fun (z : World) (g B : Nat) (R : Wr z B 3 (some ⟨g, 0, none⟩) ((hgtV W T bs (flipL W T L v)).map (.int .i64))) => show z.cell? ⟨g, v, none⟩ = some (.int .i64 (hgtV W T bs (flipL W T L v))[v]) from by simpa using R.rd.cellEM hv2)
    generalize (hgtV W T bs L)[v] = y1 at *
    generalize (hgtV W T bs (flipL W T L v))[v] = y2 at *
    generalize hgtV W T bs L = H1 at *
    generalize hgtV W T bs (flipL W T L v) = H2 at *
    have hvI : (v : Int) < ((ncN W T : Nat) : Int) := by omega
    generalize ncN W T = N at *
    clear hz hv1 hv2 l1 l2 hlen hl hval h hs hf hLn h2 hb
    obtain ⟨x0, x1, x2⟩ := id X0
    have hwl := X0.lt
    go_enter Tryz.func114, Tryz.ntmps114
    go_wp2_with fail
    generalize w.alloc (.cells #[.int .i64 W, .int .i64 T, .slice A n c] 25) = u at *
    refine CF.out.mono ?_
    rintro e w2 ⟨g, rfl, W2, hg1, hg2, b2⟩
    have X2 := X0.belo b2
    have R2 := r0.belo b2
    have D2 := d0.belo b2
    have B2 := bl_go B0 b2
    have F2 := W2.rd
    have hwl2 := X2.lt
    clear x0 x1 x2 X0 r0 d0 W2 CF
    obtain ⟨x0, x1, x2⟩ := id X2
    go_upto_region 4 with fail
    have KS := Lib.hid (fun (z : World) (Z : Below w2.heap.size w2 z) => show z.cell? ⟨w.heap.size, 0, none⟩ = some (.int .i64 W) ∧ z.cell? ⟨w.heap.size, 1, none⟩ = some (.int .i64 T) ∧ z.cell? ⟨w.heap.size, 2, none⟩ = some (.slice A n c) from X2.belo Z)
    have Z0 : Below w2.heap.size w2 w2.drew := (Below.refl _ _).drew
    have HS0 := KS.out _ (Below.refl _ _)
    have C1z := Lib.hid (fun (z : World) (Z : Below w2.heap.size w2 z) => C1.out z g (R2.belo Z) (F2.belo Z))
    have C2z := Lib.hid (fun (z : World) (Z : Below w2.heap.size w2 z) => C2.out z (R2.belo Z) (D2.belo Z))
    clear C1 C2 R2 D2 F2 X2
    clear HS0
    go_region_law (first
      | (go_simp; go_at_call 56; (with_reducible refine (C1z.out _ Z0).mono ?_); rintro e w3 ⟨g3, rfl, W3, hg3, hgs3, b3⟩; have Z3 := Z0.trans (b3.mono Z0.size); have c3 := K2.out _ _ _ W3; obtain ⟨y0, y1, y2⟩ := KS.out _ Z3)
      | (go_simp; go_at_call 56; (with_reducible refine (C2z.out _ Z3).mono ?_); rintro e w4 ⟨g4, rfl, W4, hg4, hgs4, b4⟩; have Z4 := Z3.trans (b4.mono Z3.size); have c4 := K1.out _ _ _ W4; have c5 := K2.out _ _ _ (W3.belo b4); have BF := bl_go B2 Z4; obtain ⟨u0, u1, u2⟩ := KS.out _ Z4))
    all_goals (
      go_wp2_with fail
      go_ret
      exact ⟨ret_i (by rw [← HZ.out]; exact IntWalk.i64_in _ (by omega)), BF⟩)
end Go.Proofs.YtafmpgikdhlknaaGreat

/- Contracts: the program's push of a tiling, and pushes one after the other. -/
namespace Go.Proofs.YtafmpgikdhlknaaGreat
open Go.RowKit

/-- a tiling in a block of its own -/
def PshP (n : Nat) (B : Nat) (M : List Int) (w : World) (e : Ending) (w' : World) : Prop :=
  ∃ g : Nat, e = .returned (.slice (some ⟨g, 0, none⟩) n n) ∧ Wr w' B 3 (some ⟨g, 0, none⟩) (M.map (.int .i64)) ∧ B ≤ g ∧ g < w'.heap.size ∧ Below w.heap.size w w'
theorem push_no {W T : Int} {L : List Int} {v : Nat} {up : Bool} (h : ¬ ((0 < riseZ W T L v ∧ up = true) ∨ (riseZ W T L v < 0 ∧ up = false))) : pushL W T L (v, up) = L := by
  unfold pushL; exact if_neg h
theorem push_yes {W T : Int} {L : List Int} {v : Nat} {up : Bool} (h : (0 < riseZ W T L v ∧ up = true) ∨ (riseZ W T L v < 0 ∧ up = false)) : pushL W T L (v, up) = flipL W T L v := by
  unfold pushL; exact if_pos h
set_option maxRecDepth 100000 in
set_option maxHeartbeats 2000000 in
theorem push_any (W T : Int) (A : Option Addr) (c n : Nat) (bs : List Bool) (L : List Int) (v : Nat) (up : Bool) (g B : Nat) (w : World) (hr : Rd w A (bs.map .bool)) (hd : Wr w B 3 (some ⟨g, 0, none⟩) (L.map (.int .i64))) (hs : simpB W T bs = true) (h : tilingB W T bs L = true) (hn : bs.length = n) (hv : v < ncN W T)
    (hB : B ≤ w.heap.size) (hgB : B ≤ g) (hgs : g < w.heap.size) :
    Calls Tryz.prog 80 #[.agg #[.int .i64 W, .int .i64 T, .slice A n c], .slice (some ⟨g, 0, none⟩) n n, .agg #[.int .i64 (v : Int), .bool up]] w (PshP n B (pushL W T L (v, up)) w) := by
  obtain ⟨hval, hl, -⟩ := tiling_til h
  obtain ⟨⟨w1, w6⟩, ⟨t1, t6⟩, hlen, -⟩ := validB_iff.1 hval
  have hf : FldF W T n := ⟨w1, w6, t1, t6, by rw [← hn]; exact hlen⟩
  have hLn : L.length = n := by omega
  have X0 := C3.new w (.int .i64 W) (.int .i64 T) (.slice A n c) 25
  have B0 := bl_alloc (Below.refl w.heap.size w) (.cells #[.int .i64 W, .int .i64 T, .slice A n c] 25)
  have hz0 : (w.alloc (.cells #[.int .i64 W, .int .i64 T, .slice A n c] 25)).heap.size = w.heap.size + 1 := by simp
  have B00 := bl_alloc B0 (.cells #[.int .i64 (v : Int), .bool up] 38)
  have X00 := X0.alloc (.cells #[.int .i64 (v : Int), .bool up] 38)
  have KN := heap_alloc_new (w.alloc (.cells #[.int .i64 W, .int .i64 T, .slice A n c] 25)) (.cells #[.int .i64 (v : Int), .bool up] 38)
  have p0 := cell_of_row _ _ 0 _ _ _ KN
  have p1 := cell_of_row _ _ 1 _ _ _ KN
  rw [hz0] at p0 p1
  have p0 : ((w.alloc (.cells #[.int .i64 W, .int .i64 T, .slice A n c] 25)).alloc (.cells #[.int .i64 (v : Int), .bool up] 38)).cell? ⟨w.heap.size + 1, 0, none⟩ = some (.int .i64 (v : Int)) := p0
  have p1 : ((w.alloc (.cells #[.int .i64 W, .int .i64 T, .slice A n c] 25)).alloc (.cells #[.int .i64 (v : Int), .bool up] 38)).cell? ⟨w.heap.size + 1, 1, none⟩ = some (.bool up) := p1
  have r0 := hr.belo B00
  have d0 := hd.belo B00
  have CR := Lib.hid (rise_any W T A ⟨g, 0, none⟩ c n n bs L v _ r0 d0.rd hs h hn hv)
  have CF := Lib.hid (fun (z : World) (D : Rd z (some ⟨g, 0, none⟩) (L.map (.int .i64))) => flip_any W T (.slice A n c) ⟨g, 0, none⟩ n n L v z D hf hLn hv)
  have HN := Lib.hid (fun (h : ¬ ((0 < riseZ W T L v ∧ up = true) ∨ (riseZ W T L v < 0 ∧ up = false))) => push_no h)
  have HY := Lib.hid (fun (h : (0 < riseZ W T L v ∧ up = true) ∨ (riseZ W T L v < 0 ∧ up = false)) => push_yes h)
  have hz := rise_bd W T L v
  generalize riseZ W T L v = z at *
  have hwl : w.heap.size + 2 ≤ ((w.alloc (.cells #[.int .i64 W, .int .i64 T, .slice A n c] 25)).alloc (.cells #[.int .i64 (v : Int), .bool up] 38)).heap.size := by simp
  obtain ⟨x0, x1, x2⟩ := id X00
  clear KN X0 B0 hlen hl hval h hs hf hLn hr hd
  go_enter Tryz.func80, Tryz.ntmps80
  go_wp2_with fail
  generalize hu : ((w.alloc (.cells #[.int .i64 W, .int .i64 T, .slice A n c] 25)).alloc (.cells #[.int .i64 (v : Int), .bool up] 38)) = u at *
  clear hu hz0
  refine CR.out.mono ?_
  rintro e w2 ⟨rfl, b2⟩
  have X2 := X00.belo b2
  have B2 := bl_go B00 b2
  have D2 := d0.belo b2
  have q0 := ((bcell b2).1 _ 0 (show w.heap.size + 1 < _ by omega)).trans p0
  have q1 := ((bcell b2).1 _ 1 (show w.heap.size + 1 < _ by omega)).trans p1
  have hsz := b2.size
  have hg2 : g < w2.heap.size := by omega
  clear p0 p1 x0 x1 x2 CR X00 d0 r0
  obtain ⟨x0, x1, x2⟩ := id X2
  have CF2 := Lib.hid (CF.out _ D2.rd)
  have HRES := Lib.hid (fun (M : List Int) (e : pushL W T L (v, up) = L) => show PshP n B (pushL W T L (v, up)) w (.returned (.slice (some ⟨g, 0, none⟩) n n)) w2 from ⟨g, rfl, by rw [e]; exact D2, hgB, hg2, B2⟩)
  have hB2 : B ≤ w2.heap.size := by omega
  clear CF D2 X2 hg2
  by_cases hp : (0 < z ∧ up = true) ∨ (z < 0 ∧ up = false)
  · have HP := Lib.hid (HY.out hp)
    have hp2 : (z = 4 ∧ up = true) ∨ (z = -4 ∧ up = false) := by
      rcases hp with ⟨a, b⟩ | ⟨a, b⟩
      · exact .inl ⟨by omega, b⟩
      · exact .inr ⟨by omega, b⟩
    clear HN HY HRES hp hz
    rcases hp2 with ⟨rfl, rfl⟩ | ⟨rfl, rfl⟩
    all_goals
      go_wp2_with fail
      refine CF2.out.mono ?_
      rintro e w3 ⟨g3, rfl, W3, hg3, hgs3, b3⟩
      have HRES := Lib.hid (show PshP n B (pushL W T L _) w (.returned (.slice (some ⟨g3, 0, none⟩) n n)) w3 from ⟨g3, rfl, by rw [HP.out]; exact W3.lower hB2, by omega, hgs3, bl_go B2 b3⟩)
      clear x0 x1 x2 q0 q1 W3
      go_wp2_with fail
      go_ret
      exact HRES.out
  · have HR := Lib.hid (HRES.out [] (HN.out hp))
    have hp2 : z = 0 ∨ (z = 4 ∧ up = false) ∨ (z = -4 ∧ up = true) := by
      rcases hz with h | h | h
      · exact .inl h
      · cases up with
        | false => exact .inr (.inl ⟨h, rfl⟩)
        | true => exact absurd (.inl ⟨by omega, rfl⟩) hp
      · cases up with
        | true => exact .inr (.inr ⟨h, rfl⟩)
        | false => exact absurd (.inr ⟨by omega, rfl⟩) hp
    clear HN HY HRES hp hz CF2
    rcases hp2 with rfl | ⟨rfl, rfl⟩ | ⟨rfl, rfl⟩
    all_goals
      go_wp2_with fail
      go_ret
      exact HR.out
end Go.Proofs.YtafmpgikdhlknaaGreat

/- Contract: the program's pushes one after the other. -/
namespace Go.Proofs.YtafmpgikdhlknaaGreat
open Go.RowKit

theorem run_take (W T : Int) (L : List Int) (ps : List Pu) {k : Nat} (hk : k < ps.length) : runL W T L (psN (ps.take (k + 1))) = pushL W T (runL W T L (psN (ps.take k))) (ps[k].1.toNat, ps[k].2) := by
  rw [take_one_more ps k hk, psN_app, run_app]
  rfl
set_option maxRecDepth 100000 in
set_option maxHeartbeats 2000000 in
theorem run_any (W T : Int) (A P : Option Addr) (ad : Addr) (c d n m cp : Nat) (bs : List Bool) (L : List Int) (ps : List Pu) (w : World) (hr : Rd w A (bs.map .bool)) (hd : Rd w (some ad) (L.map (.int .i64))) (hp : RdP w P ps) (hs : simpB W T bs = true) (h : tilingB W T bs L = true) (hn : bs.length = n)
    (hv : ∀ p ∈ ps, 0 ≤ p.1 ∧ p.1 < ncN W T) (hm : ps.length = m) (hm2 : m ≤ 1000000) :
    Calls Tryz.prog 38 #[.agg #[.int .i64 W, .int .i64 T, .slice A n c], .slice (some ad) n d, .slice P m cp] w (NewWI (runL W T L (psN ps)) n w) := by
  obtain ⟨hval, hl, -⟩ := tiling_til h
  obtain ⟨⟨w1, w6⟩, ⟨t1, t6⟩, hlen, -⟩ := validB_iff.1 hval
  have hf : FldF W T n := ⟨w1, w6, t1, t6, by rw [← hn]; exact hlen⟩
  have n36 : n ≤ 36 := hf.bd
  have n1 : 1 ≤ n := by have := (mul_bd w1 w6 t1 t6).1; omega
  have hLn : L.length = n := by omega
  have X0 := C3.new w (.int .i64 W) (.int .i64 T) (.slice A n c) 25
  have B0 := bl_alloc (Below.refl w.heap.size w) (.cells #[.int .i64 W, .int .i64 T, .slice A n c] 25)
  have r0 := hr.belo B0
  have d0 := hd.belo B0
  have q0 := hp.belo B0
  have CC := Lib.hid (cloneI_any ad n d L _ d0 hLn (by omega) (by omega))
  have HT := Lib.hid (fun k => run_til hs (psN (ps.take k)) L h)
  have HTK := Lib.hid (fun (k : Nat) (hk : k < ps.length) => run_take W T L ps hk)
  have HE := Lib.hid (show runL W T L (psN (ps.take m)) = runL W T L (psN ps) by rw [← hm, List.take_length])
  have H0 := Lib.hid (show L = runL W T L (psN (ps.take 0)) from rfl)
  have CP := Lib.hid (fun (M : List Int) (v : Nat) (up : Bool) (g B : Nat) (z : World) (R : Rd z A (bs.map .bool)) (D : Wr z B 3 (some ⟨g, 0, none⟩) (M.map (.int .i64))) (ht : tilingB W T bs M = true) (hv : v < ncN W T) (h1 : B ≤ z.heap.size) (h2 : B ≤ g) (h3 : g < z.heap.size) => push_any W T A c n bs M v up g B z R D hs ht hn hv h1 h2 h3)
  have HPV := Lib.hid (fun (k : Nat) (hk : k < ps.length) => show ∃ v : Nat, ps[k].1 = v ∧ v < ncN W T from by
    obtain ⟨a, b⟩ := hv _ (List.getElem_mem hk)
    exact ⟨ps[k].1.toNat, by omega, by omega⟩)
  obtain ⟨x0, x1, x2⟩ := id X0
  have hwl := X0.lt
  clear hlen hl hval h hs hf hLn hr hd hp hv
  go_enter Tryz.func38, Tryz.ntmps38
  go_wp2_with fail
  generalize w.alloc (.cells #[.int .i64 W, .int .i64 T, .slice A n c] 25) = u at *
  refine CC.out.mono ?_
  rintro e w2 ⟨g, rfl, W2, hg1, hg2, b2⟩
  have X2 := X0.belo b2
  have R2 := r0.belo b2
  have Q2 := q0.belo b2
  have B2 := bl_go B0 b2
  have hsz := b2.size
  have W2' := W2.lower (show w.heap.size ≤ u.heap.size by omega)
  rw [H0.out] at W2'
  have hgw : w.heap.size ≤ g := by omega
  clear x0 x1 x2 X0 r0 d0 q0 CC W2 hg1 b2
  go_wp2_with fail
  go_loopw [7, 14] (fun o i wr => ∃ (k g : Nat), k ≤ m ∧ i = .int .i64 k ∧ o = .slice (some ⟨g, 0, none⟩) n n ∧ Wr wr w.heap.size 3 (some ⟨g, 0, none⟩) ((runL W T L (psN (ps.take k))).map (.int .i64)) ∧ w.heap.size ≤ g ∧ g < wr.heap.size ∧ Below w2.heap.size w2 wr) (fun _ i _ => m - (intOf i).toNat)
  case atStart => exact ⟨0, g, Nat.zero_le _, rfl, rfl, W2', hgw, hg2, Below.refl _ _⟩
  case round =>
    clear W2' hgw hg2
    obtain ⟨k, g, hk, rfl, rfl, WR, hgw, hgs, BR⟩ := hrel
    have XR := X2.belo BR
    by_cases hlt : k < m
    · have hkp : k < ps.length := by omega
      obtain ⟨b, off, rfl, c0, c1⟩ := (Q2.belo BR).at_ hkp
      obtain ⟨v, ev, hvN⟩ := HPV.out k hkp
      have HTk := Lib.hid (HTK.out k hkp)
      rw [ev, Int.toNat_natCast] at HTk
      rw [ev] at c0
      generalize ps[k].2 = up at *
      have hkI : (k : Int) < (m : Int) := by omega
      have BA := bl_alloc (Below.refl wr.heap.size wr) (.cells #[.int .i64 (v : Int), .bool up] 38)
      have hsr := BR.size
      have CPk := Lib.hid (CP.out _ v up g w.heap.size _ ((R2.belo BR).belo BA) (WR.belo BA) (HT.out k) hvN (by have := BA.size; omega) hgw (by have := BA.size; omega))
      rw [← HTk.out] at CPk
      obtain ⟨x0, x1, x2⟩ := id XR
      have hlr := XR.lt
      clear ev
      go_wp2_with fail
      refine CPk.out.mono ?_
      rintro e w4 ⟨g4, rfl, W4, hg4, hgs4, b4⟩
      have B4 := BR.trans ((bl_go BA b4).mono BR.size)
      clear x0 x1 x2 CPk c0 c1 WR HTk
      go_wp2_with fail
      go_roundw
      case rel => exact ⟨k + 1, g4, by omega, by go_num, rfl, W4, hg4, hgs4, B4⟩
      case measure => simp [intOf]; omega
    · obtain rfl : k = m := by omega
      rw [HE.out] at WR
      obtain ⟨x0, x1, x2⟩ := id XR
      go_wp2_with fail
      go_ret
      exact ⟨g, rfl, WR, hgw, hgs, bl_go B2 BR⟩
end Go.Proofs.YtafmpgikdhlknaaGreat

/- Contract: the program's PushesValid. -/
namespace Go.Proofs.YtafmpgikdhlknaaGreat
open Go.RowKit

/-- a push is in the field -/
def puB (W T : Int) (p : Pu) : Bool := decide (0 ≤ p.1 ∧ p.1 < ncN W T)
set_option maxHeartbeats 1000000 in
theorem pvc_any (W T x : Int) (up : Bool) (S : Value) (n b : Nat) (w : World) (hf : FldF W T n) (hx : C3 w b (.int .i64 W) (.int .i64 T) S) :
    Calls Tryz.prog 41 #[.agg #[.int .i64 x, .bool up], .pointer (some ⟨b, 0, none⟩)] w fun e w' => e = .returned (.bool (!puB W T (x, up))) ∧ Below w.heap.size w w' := by
  obtain ⟨-, hN1, hN49⟩ := nc_bd hf
  have B0 := bl_alloc (Below.refl w.heap.size w) (.cells #[.int .i64 x, .bool up] 38)
  have X0 := hx.belo B0
  have p0 := cell_of_row _ _ 0 _ _ _ (heap_alloc_new w (.cells #[.int .i64 x, .bool up] 38))
  have p0 : (w.alloc (.cells #[.int .i64 x, .bool up] 38)).cell? ⟨w.heap.size, 0, none⟩ = some (.int .i64 x) := p0
  have CC := Lib.hid (fun z => corners_any W T S n z hf)
  have HI : inB x 0 ((ncN W T : Int) - 1) = puB W T (x, up) := by
    unfold inB puB
    rw [decide_eq_decide]
    simp only
    omega
  have CI := Lib.hid (fun z => (in_any x 0 ((ncN W T : Int) - 1) z).mono (fun e w' h => (⟨h.1, h.2 ▸ Below.refl _ _⟩ : e = .returned (.bool (inB x 0 ((ncN W T : Int) - 1))) ∧ Below z.heap.size z w')))
  rw [HI] at CI
  clear HI
  generalize puB W T (x, up) = pb at *
  generalize ncN W T = N at *
  have hlt := X0.lt
  have hl0 : w.heap.size < (w.alloc (.cells #[.int .i64 x, .bool up] 38)).heap.size := by simp
  obtain ⟨x0, x1, x2⟩ := id X0
  go_enter Tryz.func41, Tryz.ntmps41
  go_wp2_with fail
  generalize w.alloc (.cells #[.int .i64 x, .bool up] 38) = wo at *
  clear X0
  have L0 : ∀ z : BW wo, z.wo.cell? ⟨b, 0, none⟩ = some (.int .i64 W) := fun z => z.cell hlt x0
  have L1 : ∀ z : BW wo, z.wo.cell? ⟨b, 1, none⟩ = some (.int .i64 T) := fun z => z.cell hlt x1
  have L2 : ∀ z : BW wo, z.wo.cell? ⟨b, 2, none⟩ = some S := fun z => z.cell hlt x2
  have L3 : ∀ z : BW wo, z.wo.cell? ⟨w.heap.size, 0, none⟩ = some (.int .i64 x) := fun z => z.cell hl0 p0
  (refine region_bw (by kernel_rfl) (by kernel_rfl) ?_; (repeat (first | go_big_quiet_skip | (go_big_quiet_want; go_big_quiet_op; first | go_big_quiet_on | (refine ⟨.int .i64 (N : Int), fun zz => ?_, ?_⟩; (go_at_call 36; with_reducible exact zz.on (CC.out zz.wo)); go_big_quiet_on) | (refine ⟨.bool pb, fun zz => ?_, ?_⟩; (go_at_call 42; with_reducible exact zz.on (CI.out zz.wo)); go_big_quiet_on)))); refine wpQuiet_nil ?_; intro wz hw'; obtain ⟨zw, hw''⟩ := hw'; subst hw'')
  go_wp2_with fail
  go_ret
  exact ⟨rfl, bl_go B0 zw.ok⟩
/-- all pushes are in the field -/
def pusB (W T : Int) (ps : List Pu) : Bool := decide (∀ p ∈ ps, 0 ≤ p.1 ∧ p.1 < ncN W T)
theorem pusB_t {W T : Int} {ps : List Pu} (h : ∀ k (hk : k < ps.length), k < ps.length → puB W T ps[k] = true) : pusB W T ps = true :=
  decide_eq_true fun p hp => by obtain ⟨j, hj, e⟩ := List.getElem_of_mem hp; have := h j hj hj; unfold puB at this; rw [e] at this; exact of_decide_eq_true this
theorem pusB_f {W T : Int} {ps : List Pu} (k : Nat) (hk : k < ps.length) (h : puB W T ps[k] = false) : pusB W T ps = false :=
  decide_eq_false fun hh => of_decide_eq_false h (hh _ (List.getElem_mem hk))
set_option maxHeartbeats 1000000 in
theorem indexPu_any (W T : Int) (S : Value) (A : Option Addr) (n b c m : Nat) (ps : List Pu) (w : World) (hf : FldF W T n) (hx : C3 w b (.int .i64 W) (.int .i64 T) S) (hr : RdP w A ps) (hm : ps.length = m) (hm2 : m ≤ 1000000) :
    Calls Tryz.prog 82 #[.slice A m c, .func (.func 41) #[] #[.pointer (some ⟨b, 0, none⟩)]] w fun e w' => ∃ r : Int, e = .returned (.int .i64 r) ∧ decide (0 ≤ r) = !pusB W T ps ∧ Below w.heap.size w w' := by
  have HM := Lib.hid hm
  clear hm
  go_enter Tryz.func82, Tryz.ntmps82
  go_wp2_with fail
  go_loopw [8] (fun i wr => ∃ k : Nat, k ≤ m ∧ i = .int .i64 k ∧ Hid (∀ j (h : j < ps.length), j < k → puB W T ps[j] = true) ∧ Below w.heap.size w wr) (fun i _ => m - (intOf i).toNat)
  case atStart => exact ⟨0, Nat.zero_le _, rfl, fun j h h2 => by omega, Below.refl _ _⟩
  case round =>
    obtain ⟨k, hk, rfl, HK, Z1⟩ := hrel
    by_cases hlt : k < m
    · have hkp : k < ps.length := by rw [HM.out]; exact hlt
      obtain ⟨q, off, rfl, c0, c1⟩ := (hr.belo Z1).at_ hkp
      have CC := Lib.hid (pvc_any W T ps[k].1 ps[k].2 S n b wr hf (hx.belo Z1))
      have HPS := Lib.hid (show puB W T ps[k] = puB W T (ps[k].1, ps[k].2) from rfl)
      generalize ps[k].1 = x at *
      generalize ps[k].2 = up at *
      have hkI : (k : Int) < (m : Int) := by omega
      cases hpv : puB W T (x, up) with
      | true =>
        have HPV := Lib.hid (HPS.out.trans hpv)
        rw [hpv] at CC
        clear hpv HPS
        go_wp2_with (go_at_call 41; refine CC.out.mono ?_; rintro e w1 ⟨rfl, b1⟩)
        go_roundw
        case rel =>
          refine ⟨k + 1, by omega, by go_num, fun j h h2 => ?_, bl_go Z1 b1⟩
          rcases Nat.lt_or_ge j k with h3 | h3
          · exact HK.out j h h3
          · obtain rfl : j = k := by omega
            exact HPV.out
        case measure => simp [intOf]; omega
      | false =>
        have HF := Lib.hid (show decide (0 ≤ (k : Int)) = !pusB W T ps by rw [pusB_f k hkp (HPS.out.trans hpv), decide_eq_true (by omega)]; rfl)
        rw [hpv] at CC
        clear hpv HPS
        go_wp2_with (go_at_call 41; refine CC.out.mono ?_; rintro e w1 ⟨rfl, b1⟩)
        go_ret
        exact ⟨_, rfl, HF.out, bl_go Z1 b1⟩
    · have HF := Lib.hid (show decide (0 ≤ (-1 : Int)) = !pusB W T ps by rw [pusB_t (fun j h _ => HK.out j h (by have := HM.out; omega))]; rfl)
      go_wp2_with fail
      go_ret
      exact ⟨_, rfl, HF.out, Z1⟩
set_option maxHeartbeats 1000000 in
theorem containsPu_any (W T : Int) (S : Value) (A : Option Addr) (n b c m : Nat) (ps : List Pu) (w : World) (hf : FldF W T n) (hx : C3 w b (.int .i64 W) (.int .i64 T) S) (hr : RdP w A ps) (hm : ps.length = m) (hm2 : m ≤ 1000000) :
    Calls Tryz.prog 40 #[.slice A m c, .func (.func 41) #[] #[.pointer (some ⟨b, 0, none⟩)]] w fun e w' => e = .returned (.bool (!pusB W T ps)) ∧ Below w.heap.size w w' := by
  go_enter Tryz.func40, Tryz.ntmps40
  go_wp2_with fail
  refine (indexPu_any W T S A n b c m ps w hf hx hr hm hm2).mono ?_
  rintro e w1 ⟨r, rfl, hr1, b1⟩
  have HR := Lib.hid hr1
  clear hr1
  go_wp2_with fail
  go_ret
  exact ⟨ret_b HR.out, b1⟩
theorem psv_eq {W T : Int} {bs : List Bool} {ps : List Pu} : psvB W T bs ps = (simpB W T bs && (decide (ps.length ≤ 128) && pusB W T ps)) := by
  unfold psvB pusB
  rw [Bool.decide_and]
set_option maxRecDepth 100000 in
set_option maxHeartbeats 1000000 in
theorem iPushesValid_any (W T : Int) (A P : Option Addr) (c cp n m : Nat) (bs : List Bool) (ps : List Pu) (w : World) (hr : Rd w A (bs.map .bool)) (hp : RdP w P ps) (hn : bs.length = n) (hnm : n ≤ maxLen) (hm : ps.length = m) (hmm : m ≤ maxLen) :
    Calls Tryz.prog 14 #[.agg #[.int .i64 W, .int .i64 T, .slice A n c], .slice P m cp] w fun e w' => e = .returned (.bool (psvB W T bs ps)) ∧ Below w.heap.size w w' := by
  have X0 := C3.new w (.int .i64 W) (.int .i64 T) (.slice A n c) 25
  have B0 := bl_alloc (Below.refl w.heap.size w) (.cells #[.int .i64 W, .int .i64 T, .slice A n c] 25)
  have CS := Lib.hid (iSimple_any W T A c n bs _ (hr.belo B0) hn hnm)
  have HE := Lib.hid (psv_eq (W := W) (T := T) (bs := bs) (ps := ps))
  rw [hm] at HE
  have p0 := hp.belo B0
  unfold maxLen at hmm
  obtain ⟨x0, x1, x2⟩ := id X0
  cases hs : simpB W T bs with
  | false =>
    rw [hs] at CS HE
    clear hs
    go_enter Tryz.func14, Tryz.ntmps14
    go_wp2_with fail
    refine CS.out.mono ?_
    rintro e w1 ⟨rfl, b1⟩
    clear x0 x1 x2
    go_wp2_with fail
    go_ret
    exact ⟨ret_b HE.out.symm, bl_go B0 b1⟩
  | true =>
    obtain ⟨hval, -, -⟩ := simp_iff.1 hs
    obtain ⟨⟨w1, w6⟩, ⟨t1, t6⟩, hlen, -⟩ := validB_iff.1 hval
    have hf : FldF W T n := ⟨w1, w6, t1, t6, by rw [← hn]; exact hlen⟩
    rw [hs] at CS HE
    clear hs hval w1 w6 t1 t6 hlen
    by_cases h128 : m ≤ 128
    · have CP := Lib.hid (fun (z : World) (hx : C3 z w.heap.size (.int .i64 W) (.int .i64 T) (.slice A n c)) (R : RdP z P ps) => containsPu_any W T (.slice A n c) P n w.heap.size cp m ps z hf hx R hm (by omega))
      rw [decide_eq_true h128] at HE
      go_enter Tryz.func14, Tryz.ntmps14
      go_wp2_with fail
      refine CS.out.mono ?_
      rintro e w1 ⟨rfl, b1⟩
      have CP1 := Lib.hid (CP.out _ (X0.belo b1) (p0.belo b1))
      clear x0 x1 x2
      go_wp2_with fail
      refine CP1.out.mono ?_
      rintro e w2 ⟨rfl, b2⟩
      go_wp2_with fail
      go_ret
      exact ⟨ret_b (by rw [HE.out]; simp), bl_go (bl_go B0 b1) b2⟩
    · rw [decide_eq_false h128] at HE
      go_enter Tryz.func14, Tryz.ntmps14
      go_wp2_with fail
      refine CS.out.mono ?_
      rintro e w1 ⟨rfl, b1⟩
      clear x0 x1 x2
      go_wp2_with fail
      go_ret
      exact ⟨ret_b HE.out.symm, bl_go B0 b1⟩
end Go.Proofs.YtafmpgikdhlknaaGreat

/- Contract: slices.Equal of lists of numbers. -/
namespace Go.Proofs.YtafmpgikdhlknaaGreat
open Go.RowKit

theorem int_same {n : Nat} {ps qs : List Int} (h1 : ps.length = n) (h2 : qs.length = n) (h : ∀ j (h : j < ps.length) (h2 : j < qs.length), j < n → ps[j] = qs[j]) : ps = qs :=
  List.ext_getElem (by omega) (fun j hj hj2 => h j hj hj2 (by omega))
set_option maxHeartbeats 1000000 in
theorem equalI_any (A A' : Option Addr) (c c' n : Nat) (ps qs : List Int) (w : World) (hr : Rd w A (ps.map (.int .i64))) (hr' : Rd w A' (qs.map (.int .i64))) (hn : n ≤ 1000000) (hp : ps.length = n) (hq : qs.length = n) :
    Calls Tryz.prog 57 #[.slice A n c, .slice A' n c'] w fun e w' => e = .returned (.bool (decide (ps = qs))) ∧ ∃ q, w' = w.drewN q := by
  have HP := Lib.hid hp
  have HQ := Lib.hid hq
  clear hp hq
  have hnn : ((n : Int) != (n : Int)) = false := by simp
  go_enter Tryz.func57, Tryz.ntmps57
  go_wp2_with fail
  go_loopw [13] (fun i wr => ∃ k q : Nat, k ≤ n ∧ i = .int .i64 k ∧ Hid (∀ j (h : j < ps.length) (h2 : j < qs.length), j < k → ps[j] = qs[j]) ∧ wr = w.drewN q) (fun i _ => n - (intOf i).toNat)
  case atStart => exact ⟨0, 0, Nat.zero_le _, rfl, fun j h h2 h3 => by omega, rfl⟩
  case round =>
    obtain ⟨k, q, hk, rfl, HK, rfl⟩ := hrel
    by_cases hlt : k < n
    · have hkp : k < ps.length := by rw [HP.out]; exact hlt
      have hkq : k < qs.length := by rw [HQ.out]; exact hlt
      obtain ⟨b, off, rfl, c0⟩ := (Rd.drewN hr q).atEM hkp
      obtain ⟨b', off', rfl, d0⟩ := (Rd.drewN hr' q).atEM hkq
      obtain ⟨wq, hwq⟩ : ∃ wq, w.drewN q = wq := ⟨_, rfl⟩
      have HWQ := Lib.hid hwq
      rw [hwq] at c0 d0
      have hkI : (k : Int) < (n : Int) := by omega
      by_cases hc : ps[k] = qs[k]
      · have HC := Lib.hid hc
        rw [← hc] at d0
        clear hc
        generalize ps[k] = z at c0 d0
        have hqq : (z != z) = false := by simp
        rw [hwq]
        clear hwq
        go_wp2_with fail
        go_quiet (fail)
        go_wp2
        go_roundw
        case rel =>
          refine ⟨k + 1, _, by omega, by go_num, fun j h h2 h3 => ?_, by rw [← HWQ.out, World.drewN_drewN]⟩
          rcases Nat.lt_or_ge j k with h4 | h4
          · exact HK.out j h h2 h4
          · obtain rfl : j = k := by omega
            exact HC.out
        case measure => simp [intOf]; omega
      · have HF := Lib.hid (show decide (ps = qs) = false from decide_eq_false (fun e => hc (by simp only [e])))
        have hb : (ps[k] != qs[k]) = true := by rw [bne_iff_ne]; exact hc
        clear hc
        generalize ps[k] = z at c0 hb
        generalize qs[k] = z' at d0 hb
        rw [hwq]
        clear hwq
        go_wp2_with fail
        go_quiet (fail)
        go_wp2
        go_ret
        exact ⟨ret_b HF.out.symm, _, by rw [← HWQ.out, World.drewN_drewN]⟩
    · obtain rfl : k = n := by omega
      have HF := Lib.hid (show decide (ps = qs) = true from decide_eq_true (int_same HP.out HQ.out HK.out))
      go_wp2_with fail
      go_ret
      exact ⟨ret_b HF.out.symm, _, rfl⟩
end Go.Proofs.YtafmpgikdhlknaaGreat

/- Contracts: the program's search for tilings. -/
namespace Go.Proofs.YtafmpgikdhlknaaGreat
open Go.RowKit

set_option maxRecDepth 100000 in
set_option maxHeartbeats 2000000 in
theorem free_any (W T : Int) (A D : Option Addr) (c d n : Nat) (bs : List Bool) (L : List Int) (k : Nat) (q : Int) (w : World) (hr : Rd w A (bs.map .bool)) (hd : Rd w D (L.map (.int .i64))) (hf : FldF W T n) (hn : bs.length = n) (hl : L.length = n) (hk : k < n) (hq : 1 ≤ q ∧ q ≤ 4) :
    Calls Tryz.prog 108 #[.agg #[.int .i64 W, .int .i64 T, .slice A n c], .slice D n d, .int .i64 (k : Int), .int .i64 q] w fun e w' => e = .returned (.bool (mayL W T bs L k q)) ∧ Below w.heap.size w w' := by
  obtain ⟨w1, w6, t1, t6, hlen⟩ := id hf
  have n36 : n ≤ 36 := hf.bd
  have hfg : FldG W T n := ⟨w1, t1, hlen⟩
  have X0 := C3.new w (.int .i64 W) (.int .i64 T) (.slice A n c) 25
  have B0 := bl_alloc (Below.refl w.heap.size w) (.cells #[.int .i64 W, .int .i64 T, .slice A n c] 25)
  have CH := Lib.hid (fun (z : World) => has_any W T A n c (k : Int) z (by omega))
  have CS := Lib.hid (fun (z : World) => step_any W T (.slice A n c) k q z w1 w6 t1 t6 (by omega) (by omega))
  have HM := Lib.hid (show mayL W T bs L k q = (decide (0 ≤ stepZ W T k q) && (emK bs L k && emK bs L (stepZ W T k q).toNat)) from rfl)
  obtain ⟨dx, dy, hdir⟩ := isDir_of hq
  have HS := Lib.hid (hfg.step hk hdir)
  have HN := Lib.hid hn
  have HL := Lib.hid hl
  have hin : inB (k : Int) 0 ((n : Int) - 1) = true := inB_t (by omega) (by omega)
  rw [hin] at CH
  obtain ⟨x0, x1, x2⟩ := id X0
  generalize hres : mayL W T bs L k q = res at *
  clear hf hn hl hfg hlen hin hres hdir
  go_enter Tryz.func108, Tryz.ntmps108
  go_wp2_with fail
  refine (CH.out _).mono ?_
  rintro e w2 ⟨rfl, b2⟩
  have X2 := X0.belo b2
  have B2 := bl_go B0 b2
  clear X0 B0 b2 x0 x1 x2 CH
  obtain ⟨x0, x1, x2⟩ := id X2
  go_wp2_with fail
  refine (CS.out _).mono ?_
  rintro e w3 ⟨rfl, b3⟩
  have X3 := X2.belo b3
  have B3 := bl_go B2 b3
  have R3 := hr.belo B3
  have D3 := hd.belo B3
  clear X2 B2 b3 x0 x1 x2 CS hr hd
  obtain ⟨x0, x1, x2⟩ := id X3
  have hkb : k < bs.length := by rw [HN.out]; exact hk
  have hkl : k < L.length := by rw [HL.out]; exact hk
  rcases HS.out with ⟨s, es, hs, -⟩ | ⟨es, -⟩
  · rw [es]
    have hsb : s < bs.length := by rw [HN.out]; exact hs
    have hsl : s < L.length := by rw [HL.out]; exact hs
    have HM2 := Lib.hid (show res = (bs[k] && decide (L[k] = 0) && (bs[s] && decide (L[s] = 0))) by
      rw [HM.out, es, Int.toNat_natCast, decide_eq_true (by omega), Bool.true_and]
      unfold emK
      rw [getD_at _ _ hkb, getD_at _ _ hkl, getD_at _ _ hsb, getD_at _ _ hsl])
    obtain ⟨ad, rfl, c1⟩ := R3.atM hkb
    obtain ⟨ad', e', c2⟩ := R3.atM hsb
    injection e' with e'
    subst e'
    obtain ⟨bd, rfl, c3⟩ := D3.atM hkl
    obtain ⟨bd', e', c4⟩ := D3.atM hsl
    injection e' with e'
    subst e'
    have hsI : (s : Int) < (n : Int) := by omega
    have hkI : (k : Int) < (n : Int) := by omega
    generalize bs[k] = p1 at *
    generalize bs[s] = p2 at *
    generalize L[k] = l1 at *
    generalize L[s] = l2 at *
    clear es HM hkb hkl hsb hsl R3 D3 HS
    cases p1 with
    | false =>
      have HF := Lib.hid (show res = false by rw [HM2.out]; rfl)
      go_wp2_with fail
      go_ret
      exact ⟨ret_b HF.out.symm, B3⟩
    | true =>
      cases p2 with
      | false =>
        have HF := Lib.hid (show res = false by rw [HM2.out, Bool.false_and, Bool.and_false])
        go_wp2_with fail
        go_ret
        exact ⟨ret_b HF.out.symm, B3⟩
      | true =>
        by_cases h1 : l1 = 0
        · subst h1
          have HF := Lib.hid (show res = (l2 == 0) by
            rw [HM2.out, Bool.true_and, Bool.true_and, decide_eq_true rfl, Bool.true_and, Bool.eq_iff_iff, decide_eq_true_eq, beq_iff_eq])
          go_wp2_with fail
          go_ret
          exact ⟨ret_b HF.out.symm, B3⟩
        · have HF := Lib.hid (show res = false by rw [HM2.out, decide_eq_false h1]; rfl)
          have h2 : (l1 == 0) = false := by rw [beq_eq_false_iff_ne]; exact h1
          clear h1
          go_wp2_with fail
          go_ret
          exact ⟨ret_b HF.out.symm, B3⟩
  · rw [es]
    have HF := Lib.hid (show res = false by rw [HM.out, es]; rfl)
    clear HS
    go_wp2_with fail
    go_ret
    exact ⟨ret_b HF.out.symm, B3⟩
set_option maxRecDepth 100000 in
set_option maxHeartbeats 2000000 in
theorem lay_any (W T : Int) (A D : Option Addr) (c d n : Nat) (bs : List Bool) (L : List Int) (k : Nat) (q : Int) (w : World) (hd : Rd w D (L.map (.int .i64))) (hf : FldF W T n) (hn : bs.length = n) (hl : L.length = n) (hk : k < n) (hq : 1 ≤ q ∧ q ≤ 4) (hm : mayL W T bs L k q = true) :
    Calls Tryz.prog 109 #[.agg #[.int .i64 W, .int .i64 T, .slice A n c], .slice D n d, .int .i64 (k : Int), .int .i64 q] w (NewWI (layL W T L k q) n w) := by
  obtain ⟨w1, w6, t1, t6, hlen⟩ := id hf
  have n36 : n ≤ 36 := hf.bd
  obtain ⟨s, es, h1, h2⟩ := may_ex hm
  have hs : s < n := by rw [← hn]; exact emK_lt h2
  obtain ⟨ad, rfl, -⟩ := hd.atM (k := k) (by rw [hl]; exact hk)
  have X0 := C3.new w (.int .i64 W) (.int .i64 T) (.slice A n c) 25
  have B0 := bl_alloc (Below.refl w.heap.size w) (.cells #[.int .i64 W, .int .i64 T, .slice A n c] 25)
  have CC := Lib.hid (cloneI_any ad n d L _ (hd.belo B0) hl (by omega) (by omega))
  have CS := Lib.hid (fun (z : World) => (by have := step_any W T (.slice A n c) k q z w1 w6 t1 t6 (by omega) (by omega); rw [es] at this; exact this))
  have HLL := Lib.hid (show layL W T L k q = (L.set k q).set s (backZ q) by unfold layL; rw [es, Int.toNat_natCast])
  have HL := Lib.hid hl
  obtain ⟨q1, q4⟩ := hq
  obtain ⟨x0, x1, x2⟩ := id X0
  generalize layL W T L k q = res at *
  clear hf hn hl hlen hm es h1 h2 hd
  go_enter Tryz.func109, Tryz.ntmps109
  go_wp2_with fail
  refine CC.out.mono ?_
  rintro e w2 ⟨g, rfl, W2, hg1, hg2, b2⟩
  have X2 := X0.belo b2
  have B2 := bl_go B0 b2
  have hsz := X0.lt
  have hgx : w.heap.size < g := by omega
  clear X0 B0 b2 x0 x1 x2 CC
  obtain ⟨x0, x1, x2⟩ := id X2
  go_wp2_with fail
  refine (CS.out _).mono ?_
  rintro e w3 ⟨rfl, b3⟩
  have B3 := bl_go B2 b3
  have W3 := W2.belo b3
  clear X2 B2 b3 x0 x1 x2 CS W2
  have hkl : k < L.length := by rw [HL.out]; exact hk
  have hsl : s < L.length := by rw [HL.out]; exact hs
  obtain ⟨g', eg, -, hgs, hfr⟩ := W3.form (by intro e; rw [List.map_eq_nil_iff] at e; rw [e] at hkl; simp at hkl)
  injection eg with eg; injection eg with eg
  subst eg
  have f1 := hfr k
  have f2 := hfr s
  have c1 := W3.rd.cellEM hkl
  have c2 := W3.rd.cellEM hsl
  rw [Nat.zero_add] at c1 c2
  have W4 := W3.store k (.int .i64 q)
  rw [← List.map_set] at W4
  have c3 := W4.rd.cellEM (k := s) (by rw [List.length_set]; exact hsl)
  rw [Nat.zero_add] at c3
  obtain ⟨o3, hc3⟩ : ∃ o3, (w3.setCell ⟨g, k, none⟩ (.int .i64 q)).cell? ⟨g, s, none⟩ = some o3 := ⟨_, c3⟩
  have W5 := W4.store s (.int .i64 (backZ q))
  rw [← List.map_set] at W5
  have hsI : (s : Int) < (n : Int) := by omega
  have hkI : (k : Int) < (n : Int) := by omega
  clear c3
  go_wp2_with (first | (go_at_call 113; refine (iback_any _ _ (by omega) (by omega)).mono ?_; rintro e w' ⟨rfl, rfl⟩))
  go_ret
  refine ⟨g, rfl, by rw [HLL.out]; exact W5.lower (by omega), by omega, by simp [World.setCell]; exact hgs, (B3.setCell (by simp; omega) _).setCell (by simp; omega) _⟩
theorem tlsF_len (W T : Int) (bs : List Bool) : ∀ (f : Nat) (L : List Int), (tlsF W T bs f L).length ≤ 2 ^ f
  | 0, L => by unfold tlsF; split <;> simp
  | f + 1, L => by
    have h1 := tlsF_len W T bs f (layL W T L (fsL bs L) 1)
    have h2 := tlsF_len W T bs f (layL W T L (fsL bs L) 2)
    have h0 : 1 ≤ 2 ^ f := Nat.one_le_two_pow
    unfold tlsF
    rw [Nat.pow_succ]
    split
    · simp; omega
    · rw [List.length_append]
      have h3 : (if mayL W T bs L (fsL bs L) 1 = true then tlsF W T bs f (layL W T L (fsL bs L) 1) else []).length ≤ 2 ^ f := by
        split
        · exact h1
        · simp
      have h4 : (if mayL W T bs L (fsL bs L) 2 = true then tlsF W T bs f (layL W T L (fsL bs L) 2) else []).length ≤ 2 ^ f := by
        split
        · exact h2
        · simp
      omega
def brE (W T : Int) (bs : List Bool) (f : Nat) (L : List Int) (k : Nat) (q : Int) : List (List Int) := if mayL W T bs L k q = true then tlsF W T bs f (layL W T L k q) else []
theorem tls_leaf {W T : Int} {bs : List Bool} {f : Nat} {L : List Int} (h : fsL bs L = bs.length) : tlsF W T bs f L = [L] := by
  cases f <;> (unfold tlsF; rw [if_pos h])
theorem tls_branch {W T : Int} {bs : List Bool} {f : Nat} {L : List Int} {k : Nat} (h : fsL bs L = k) (hk : k < bs.length) : tlsF W T bs (f + 1) L = brE W T bs f L k 1 ++ brE W T bs f L k 2 := by
  unfold tlsF
  rw [if_neg (by omega), h]
  rfl
theorem em_pos {bs : List Bool} {L : List Int} {k : Nat} (h : emK bs L k = true) : 1 ≤ cnt (emF bs L) := by
  have hk := emK_lt h
  have h1 : k < (emF bs L).length := by rw [emF_len]; exact hk
  have h2 := emF_get (bs := bs) (L := L) h1
  rw [h] at h2
  unfold cnt
  have : (emF bs L)[k] ∈ (emF bs L).filter id := List.mem_filter.2 ⟨List.getElem_mem h1, by rw [h2]; rfl⟩
  have := List.length_pos_of_mem this
  omega
/-- a list of tilings under way -/
structure EaSt (w0 : World) (B bO : Nat) (v : Value) (xs : List Value) (R : List (List Int)) (w : World) : Prop where
  ok : Below w0.heap.size w0 w
  out : w.heap[bO]? = some (.cells #[v] 71 (0, 0))
  gr : GrL w B v xs R
  at1 : ∀ b, AtL xs b → b ≠ bO
  lo : w0.heap.size ≤ bO
  hi : bO < B
  big : B ≤ w.heap.size
structure FrmE (bO : Nat) (v : Value) (w : World) (v' : Value) (w' : World) : Prop where
  size : w.heap.size ≤ w'.heap.size
  block : ∀ b, b < w.heap.size → b ≠ bO → v.ownBlock ≠ some b → w'.heap[b]? = w.heap[b]?
  own : v'.ownBlock = v.ownBlock ∨ ∃ b, v'.ownBlock = some b ∧ w.heap.size ≤ b
theorem hlt_E {w : World} {b : Nat} {o : Obj} (h : w.heap[b]? = some o) : b < w.heap.size := (Array.getElem?_eq_some_iff.1 h).1
theorem FrmE.refl (bO : Nat) (v : Value) (w : World) : FrmE bO v w v w := ⟨Nat.le_refl _, fun _ _ _ _ => rfl, .inl rfl⟩
theorem FrmE.trans {bO : Nat} {v v1 v2 : Value} {w w1 w2 : World} (h : FrmE bO v w v1 w1) (k : FrmE bO v1 w1 v2 w2) : FrmE bO v w v2 w2 := by
  refine ⟨Nat.le_trans h.size k.size, fun b h1 h2 h3 => ?_, ?_⟩
  · rw [k.block b (Nat.lt_of_lt_of_le h1 h.size) h2 (fun e => ?_), h.block b h1 h2 h3]
    rcases h.own with e1 | ⟨b', e1, e2⟩
    · rw [e1] at e; exact h3 e
    · rw [e1] at e; injection e with e; omega
  · rcases k.own with e1 | ⟨b', e1, e2⟩
    · rcases h.own with e3 | ⟨b3, e3, e4⟩
      · exact .inl (e1.trans e3)
      · exact .inr ⟨b3, e1.trans e3, e4⟩
    · exact .inr ⟨b', e1, Nat.le_trans h.size e2⟩
theorem FrmE.below {bO : Nat} {v v1 : Value} {w w1 w2 : World} (h : FrmE bO v w v1 w1) (k : Below w1.heap.size w1 w2) : FrmE bO v w v1 w2 :=
  h.trans ⟨k.size, fun b h1 _ _ => k.block b h1, .inl rfl⟩
theorem FrmE.cell {bO : Nat} {v v' : Value} {w w' : World} (h : FrmE bO v w v' w') {p : Addr} {u : Value} (hc : w.cell? p = some u) (h1 : p.block ≠ bO) (h2 : v.ownBlock ≠ some p.block) : w'.cell? p = some u := by
  rw [World.cell?_of_block (h.block p.block (World.block_lt_of_cell? w _ hc) h1 h2)]; exact hc
theorem FrmE.rd {bO : Nat} {v v' : Value} {w w' : World} (h : FrmE bO v w v' w') {A : Option Addr} {xs : List Value} (hr : Rd w A xs) (hA : ∀ ad, A = some ad → ad.block ≠ bO ∧ v.ownBlock ≠ some ad.block) : Rd w' A xs := fun hne => by
  obtain ⟨ad, e, hc⟩ := hr hne
  obtain ⟨h1, h2⟩ := hA ad e
  exact ⟨ad, e, fun j u hu => h.cell (hc j u hu) (by rw [blk_add]; exact h1) (by rw [blk_add]; exact h2)⟩
section
variable {w0 : World} {B bO : Nat} {v : Value} {xs : List Value} {R : List (List Int)} {w w' : World}
theorem EaSt.belo (h : EaSt w0 B bO v xs R w) (hb : Below w.heap.size w w') : EaSt w0 B bO v xs R w' :=
  ⟨bl_trans h.ok hb (by have := h.ok.size; exact this), (hb.block bO (hlt_E h.out)).trans h.out, h.gr.belo hb, h.at1, h.lo, h.hi, Nat.le_trans h.big hb.size⟩
theorem EaSt.box (h : EaSt w0 B bO v xs R w) : w.cell? ⟨bO, 0, none⟩ = some v ∧ w.frozen? ⟨bO, 0, none⟩ = false :=
  ⟨cell_of_row _ _ _ _ _ _ h.out, frozen_of_row _ _ _ _ _ h.out⟩
end
theorem one_atE (w : World) (x : Value) (t : TypeId) : ∀ j u, [x][j]? = some u → (w.alloc (.cells #[x] t)).cell? ((⟨w.heap.size, 0, none⟩ : Addr).add j) = some u := fun j u hu => by
  rw [offI, Nat.zero_add, cell_of_row _ _ _ _ _ _ (heap_alloc_new w _)]; simpa using hu
theorem one_oneE (B : Option Addr) (n c : Nat) : ∀ u ∈ [Value.slice B n c], u.oneCell' = true := fun u hu => by
  simp at hu; subst hu; rfl
def EaRes (w0 : World) (B bO : Nat) (v : Value) (R : List (List Int)) (w : World) (e : Ending) (w' : World) : Prop :=
  e = .returned (.bool true) ∧ ∃ v' xs', EaSt w0 B bO v' xs' R w' ∧ FrmE bO v w v' w'
set_option maxRecDepth 100000 in
set_option maxHeartbeats 2000000 in
theorem call_any {w0 : World} {B bO n d : Nat} {v : Value} {xs : List Value} {R : List (List Int)} {L : List Int} {ad : Addr} (w : World) (S : EaSt w0 B bO v xs R w) (hd : Rd w (some ad) (L.map (.int .i64))) (hl : L.length = n) (hn : n ≤ 1000000) (hnd : n ≤ d) (hb : R.length ≤ 100000000000)
    (h1 : ad.block ≠ bO) (h2 : v.ownBlock ≠ some ad.block) (h3 : ad.block < w.heap.size) :
    Calls Tryz.prog 90 #[.slice (some ad) n d, .pointer (some ⟨bO, 0, none⟩)] w (EaRes w0 B bO v (R ++ [L]) w) := by
  have hxl : xs.length + 1 ≤ 1000000000000 := by have := S.gr.hd.1; omega
  have b1 := bl_alloc (Below.refl w.heap.size w) (.cells #[.slice (some ad) n d] 29)
  have S1 := S.belo b1
  have hd1 := hd.belo b1
  obtain ⟨xo, fo⟩ := S.box
  have hH : HeadI (w.alloc (.cells #[.slice (some ad) n d] 29)) (.slice (some ad) n d) L := ⟨some ad, d, by rw [hl], by omega, by omega, hd1⟩
  have HT := Lib.hid (fun (v' : Value) (w' : World) (o3 : OwnL w' B v' (xs ++ [.slice (some ad) n d])) (g3 : (w.alloc (.cells #[.slice (some ad) n d] 29)).grownBy w' v.ownBlock) (e3 : v'.ownBlock = v.ownBlock ∨ v'.ownBlock = some (w.alloc (.cells #[.slice (some ad) n d] 29)).heap.size) =>
    show w'.heap[bO]? = some (.cells #[v] 71 (0, 0)) ∧ EaRes w0 B bO v (R ++ [L]) w (.returned (.bool true)) (w'.setCell ⟨bO, 0, none⟩ v') from by
      have hown := S1.gr.own.lt
      have hbO : some bO ≠ v.ownBlock := fun e => by have := (hown bO e.symm).1; have := S.hi; omega
      have ho := (g3.block bO (hlt_E S1.out) hbO).trans S1.out
      have hpt : ∀ b, AtL [.slice (some ad) n d] b → b < (w.alloc (.cells #[.slice (some ad) n d] 29)).heap.size ∧ v.ownBlock ≠ some b := fun b hb => by
        obtain ⟨ad', e, rfl⟩ := hb.one
        injection e with e
        subst e
        exact ⟨by have := b1.size; omega, h2⟩
      have G := S1.gr.app (HeadsI.one hH) hpt o3 g3 e3
      have hsz : w.heap.size ≤ w'.heap.size := Nat.le_trans b1.size g3.size
      have hsize : (w'.setCell ⟨bO, 0, none⟩ v').heap.size = w'.heap.size := by simp [World.setCell]
      have hat : ∀ b, AtL (xs ++ [.slice (some ad) n d]) b → b ≠ bO := fun b hb => by
        rcases hb.app with e | e
        · exact S.at1 b e
        · obtain ⟨ad', e9, rfl⟩ := e.one
          injection e9 with e9
          subst e9
          exact h1
      have hvo : ∀ b, v'.ownBlock = some b → b ≠ bO := fun b e => by
        have := (o3.lt b e).1
        have := S.hi
        omega
      refine ⟨ho, rfl, v', _, ⟨?_, heap_setCell_same _ _ 0 _ _ _ ho, G.keep (by omega) (fun b e => Below.heap_setCell _ _ _ _ (hvo b e)) (fun b e => Below.heap_setCell _ _ _ _ (hat b e)), hat, S.lo, S.hi, by have := S.big; omega⟩, ⟨by omega, fun b hb1 hb2 hb3 => ?_, ?_⟩⟩
      · exact (S1.ok.grown g3 S1.ok.size (fun k hk => by have := (hown k hk).1; have := S.lo; have := S.hi; omega)).setCell S.lo _
      · rw [Below.heap_setCell _ _ _ _ hb2, g3.block b (by have := b1.size; omega) (fun e => hb3 e.symm)]
        exact b1.block b hb1
      · rcases e3 with e | e
        · exact .inl e
        · exact .inr ⟨_, e, b1.size⟩)
  have hown := S1.gr.own
  have hbig := S1.big
  clear hH hd hd1 S b1
  go_enter Tryz.func90, Tryz.ntmps90
  go_wp2_with (at_builtin; refine wpList_headsL _ rfl _ _ rfl B v xs rfl hown ⟨w.heap.size, 0, none⟩ 1 1 [.slice (some ad) n d] rfl rfl (one_atE _ _ _) (one_oneE _ _ _) hxl hbig ?_; intro v3 w3 o3 g3 e3; obtain ⟨A3, c3, rfl, -⟩ := id o3; have ht := HT.out _ w3 o3 g3 e3; have xo3 := cell_of_row _ _ 0 _ _ _ ht.1; have fo3 := frozen_of_row _ _ 0 _ _ ht.1)
  go_ret
  have hlen : (xs ++ [Value.slice (some ad) n d]).length = xs.length + 1 := by simp
  rw [hlen] at ht
  exact ht.2
def EachOk (W T : Int) (n c : Nat) (bs : List Bool) (A : Option Addr) (w0 : World) (B bO m : Nat) : Prop :=
  ∀ (w : World) (L : List Int) (v : Value) (xs : List Value) (R : List (List Int)) (ad : Addr) (d : Nat), EaSt w0 B bO v xs R w → Rd w (some ad) (L.map (.int .i64)) → L.length = n → n ≤ d → cnt (emF bs L) ≤ m → R.length + (tlsF W T bs m L).length ≤ 100000000000 →
    ad.block ≠ bO → v.ownBlock ≠ some ad.block → ad.block < w.heap.size →
    Calls Tryz.prog 76 #[.agg #[.int .i64 W, .int .i64 T, .slice A n c], .slice (some ad) n d, .func (.func 90) #[] #[.pointer (some ⟨bO, 0, none⟩)]] w (EaRes w0 B bO v (R ++ tlsF W T bs m L) w)
set_option maxRecDepth 100000 in
set_option maxHeartbeats 4000000 in
theorem each_step {W T : Int} {n c : Nat} {bs : List Bool} {A : Option Addr} {w0 : World} {B bO m : Nat} (hr0 : Rd w0 A (bs.map .bool)) (hf : FldF W T n) (hn : bs.length = n) (IH : ∀ m', m = m' + 1 → EachOk W T n c bs A w0 B bO m') : EachOk W T n c bs A w0 B bO m := by
  intro w L v xs R ad d S hd hl hnd hm hb h1 h2 h3
  have n36 : n ≤ 36 := hf.bd
  obtain ⟨w1, w6, t1, t6, hlen⟩ := id hf
  have hfg : FldG W T bs.length := ⟨w1, t1, by rw [hn]; exact hlen⟩
  have HF := Lib.hid hf
  have HFG := Lib.hid hfg
  have HIH := Lib.hid IH
  have HN := Lib.hid hn
  have HL := Lib.hid hl
  have HM := Lib.hid hm
  have HB := Lib.hid hb
  have b0 := bl_alloc (Below.refl w.heap.size w) (.cells #[.int .i64 W, .int .i64 T, .slice A n c] 25)
  have X0 := C3.new w (.int .i64 W) (.int .i64 T) (.slice A n c) 25
  have S0 := S.belo b0
  have D0 := hd.belo b0
  have F0 := (FrmE.refl bO v w).below b0
  have h30 : ad.block < (w.alloc (.cells #[.int .i64 W, .int .i64 T, .slice A n c] 25)).heap.size := Nat.lt_of_lt_of_le h3 b0.size
  have hbx : w.heap.size ≠ bO ∧ v.ownBlock ≠ some w.heap.size := ⟨by have := S.hi; have := S.big; omega, fun e => by have := (S.gr.own.lt _ e).2; omega⟩
  obtain ⟨x0, x1, x2⟩ := id X0
  have hR0 := hr0.below S0.ok (Nat.le_refl _)
  clear hfg hlen hf IH hn hm hb hl b0 S hd h3
  go_enter Tryz.func76, Tryz.ntmps76
  go_wp2_with fail
  generalize hwb : w.alloc (.cells #[.int .i64 W, .int .i64 T, .slice A n c] 25) = wb at *
  obtain ⟨bx, hbxe⟩ : ∃ bx, w.heap.size = bx := ⟨_, rfl⟩
  rw [hbxe] at X0 hbx x0 x1 x2
  simp only [hbxe]
  clear hwb
  go_loop [7] (fun i => ∃ k : Nat, k ≤ n ∧ i = .int .i64 k ∧ Hid (∀ j, j < k → emK bs L j = false)) (fun i => n - (intOf i).toNat)
  case atStart => exact ⟨0, Nat.zero_le _, rfl, Lib.hid (fun j h => absurd h (Nat.not_lt_zero _))⟩
  case round =>
    obtain ⟨k, hk, rfl, HK⟩ := hrel
    by_cases hlt : k < n
    · have hkb : k < bs.length := by rw [HN.out]; exact hlt
      have hkl : k < L.length := by rw [HL.out]; exact hlt
      obtain ⟨ab, rfl, c1⟩ := hR0.atM hkb
      have c2 := D0.atM hkl
      obtain ⟨ad', e', c2⟩ := c2
      injection e' with e'
      subst e'
      have HE := Lib.hid (show emK bs L k = (bs[k] && decide (L[k] = 0)) by unfold emK; rw [getD_at _ _ hkb, getD_at _ _ hkl])
      generalize bs[k] = p1 at *
      generalize L[k] = l1 at *
      have hkI : (k : Int) < (n : Int) := by omega
      cases p1 with
      | false =>
        have HF0 := Lib.hid (show emK bs L k = false by rw [HE.out]; rfl)
        go_wp2_with fail
        go_round
        case rel => exact ⟨k + 1, by omega, by go_num, Lib.hid (fun j hj => by
            rcases Nat.lt_or_ge j k with h | h
            · exact HK.out j h
            · obtain rfl : j = k := by omega
              exact HF0.out)⟩
        case measure => simp [intOf]; omega
      | true =>
        by_cases hl0 : l1 = 0
        · subst hl0
          have hem : emK bs L k = true := by rw [HE.out]; rfl
          have hfs : fsL bs L = k := fsL_eq (by omega) HK.out (fun _ => hem)
          have hpos := em_pos hem
          obtain ⟨m', rfl⟩ : ∃ m', m = m' + 1 := ⟨m - 1, by have := HM.out; omega⟩
          have HBR := Lib.hid (tls_branch (W := W) (T := T) (f := m') hfs hkb)
          have HI := Lib.hid (HIH.out m' rfl)
          have HEM := Lib.hid (fun (q : Int) (hq : 1 ≤ q ∧ q ≤ 4) (hm : mayL W T bs L k q = true) => em_lt HFG.out (by rw [HL.out, HN.out]) hq hm)
          have hkn : ((k : Int) == (n : Int)) = false := by rw [beq_eq_false_iff_ne]; omega
          clear hem hpos hfs
          have b1 := bl_alloc (Below.refl wb.heap.size wb) (.cells #[.int .i64 1, .int .i64 2] 3)
          have S1 := S0.belo b1
          have D1 := D0.belo b1
          have F1 := F0.below b1
          have hbw : wb.heap.size ≠ bO ∧ v.ownBlock ≠ some wb.heap.size := ⟨by have := S0.hi; have := S0.big; omega, fun e => by have := (S0.gr.own.lt _ e).2; omega⟩
          have X1 := X0.belo b1
          have w0c : (wb.alloc (.cells #[.int .i64 1, .int .i64 2] 3)).cell? ⟨wb.heap.size, 0, none⟩ = some (.int .i64 1) := cell_of_row _ _ _ _ _ _ (heap_alloc_new wb _)
          have w1c : (wb.alloc (.cells #[.int .i64 1, .int .i64 2] 3)).cell? ⟨wb.heap.size, 1, none⟩ = some (.int .i64 2) := cell_of_row _ _ _ _ _ _ (heap_alloc_new wb _)
          go_wp2_with fail
          obtain ⟨bw, hbwe⟩ : ∃ bw, wb.heap.size = bw := ⟨_, rfl⟩
          rw [hbwe] at hbw w0c w1c
          generalize wb.alloc (.cells #[.int .i64 1, .int .i64 2] 3) = ww at *
          simp only [hbwe]
          go_loopw [40] (fun i wr => ∃ (j : Nat) (v' : Value) (xs' : List Value) (R' : List (List Int)), j ≤ 2 ∧ i = .int .i64 j ∧ Hid ((j = 0 → R' = R) ∧ (j = 1 → R' = R ++ brE W T bs m' L k 1) ∧ (j = 2 → R' = (R ++ brE W T bs m' L k 1) ++ brE W T bs m' L k 2)) ∧ EaSt w0 B bO v' xs' R' wr ∧ FrmE bO v ww v' wr) (fun i _ => 2 - (intOf i).toNat)
          case atStart => exact ⟨0, v, xs, R, by omega, rfl, Lib.hid ⟨fun _ => rfl, fun h => by omega, fun h => by omega⟩, S1, FrmE.refl _ _ _⟩
          case round =>
            obtain ⟨j, v', xs', R', hj, rfl, HR, S2, F2⟩ := hrel
            by_cases hltj : j < 2
            · have h2b : v'.ownBlock ≠ some bx := by
                rcases F2.own with e | ⟨b', e, e2⟩
                · rw [e]; exact hbx.2
                · rw [e]; intro e3; injection e3 with e3; have := X1.lt; omega
              have hC : C3 wr bx (.int .i64 W) (.int .i64 T) (.slice (some ab) n c) := by
                obtain ⟨y0, y1, y2⟩ := id X1
                exact ⟨F2.cell y0 hbx.1 hbx.2, F2.cell y1 hbx.1 hbx.2, F2.cell y2 hbx.1 hbx.2⟩
              have D2 := F2.rd D1 (fun ad' e => by injection e with e; subst e; exact ⟨h1, h2⟩)
              have R2 := hr0.below S2.ok (Nat.le_refl _)
              have hq : 1 ≤ (j : Int) + 1 ∧ (j : Int) + 1 ≤ 4 := by omega
              have cq : wr.cell? ⟨bw, j, none⟩ = some (.int .i64 ((j : Int) + 1)) := by
                rcases (by omega : j = 0 ∨ j = 1) with rfl | rfl
                · exact F2.cell w0c hbw.1 hbw.2
                · exact F2.cell w1c hbw.1 hbw.2
              have HRN := Lib.hid (show ∀ R2 : List (List Int), R2 = R' ++ brE W T bs m' L k ((j : Int) + 1) → ((j + 1 = 0 → R2 = R) ∧ (j + 1 = 1 → R2 = R ++ brE W T bs m' L k 1) ∧ (j + 1 = 2 → R2 = (R ++ brE W T bs m' L k 1) ++ brE W T bs m' L k 2)) from fun R2 e => by
                subst e
                refine ⟨fun h => by omega, fun h => ?_, fun h => ?_⟩
                · obtain rfl : j = 0 := by omega
                  rw [HR.out.1 rfl]; rfl
                · obtain rfl : j = 1 := by omega
                  rw [HR.out.2.1 rfl]; rfl)
              have CF := Lib.hid (fun (z : World) (Z : Below wr.heap.size wr z) => free_any W T (some ab) (some ad) c d n bs L k ((j : Int) + 1) z (R2.belo Z) (D2.belo Z) HF.out HN.out HL.out hlt hq)
              have hjI : (j : Int) < 2 := by omega
              cases hmay : mayL W T bs L k ((j : Int) + 1) with
              | false =>
                have HB0 := Lib.hid (show R' = R' ++ brE W T bs m' L k ((j : Int) + 1) by unfold brE; rw [hmay]; simp)
                rw [hmay] at CF
                have hlx := hC.lt
                obtain ⟨y0, y1, y2⟩ := id hC
                have L0 : ∀ z : BW wr, z.wo.cell? ⟨bx, 0, none⟩ = some (.int .i64 W) := fun z => z.cell hlx y0
                have L1 : ∀ z : BW wr, z.wo.cell? ⟨bx, 1, none⟩ = some (.int .i64 T) := fun z => z.cell hlx y1
                have L2 : ∀ z : BW wr, z.wo.cell? ⟨bx, 2, none⟩ = some (.slice (some ab) n c) := fun z => z.cell hlx y2
                clear hmay x0 x1 x2 w0c w1c
                go_upto_region 9 with fail
                clear cq y0 y1 y2
                (refine region_bw (by kernel_rfl) (by kernel_rfl) ?_; (repeat (first | go_big_quiet_skip | (go_big_quiet_want; go_big_quiet_op; first | go_big_quiet_on | (refine ⟨.bool false, fun zz => ?_, ?_⟩; (go_at_call 108; with_reducible exact zz.on (CF.out _ zz.ok)); go_big_quiet_on)))); refine wpQuiet_nil ?_; intro wz hw'; obtain ⟨zw, hw''⟩ := hw'; subst hw'')
                go_wp2_with fail
                go_roundw
                case rel => exact ⟨j + 1, v', xs', R', by omega, by go_num, Lib.hid (HRN.out _ HB0.out), S2.belo zw.ok, F2.below zw.ok⟩
                case measure => simp [intOf]; omega
              | true =>
                have HBE : brE W T bs m' L k ((j : Int) + 1) = tlsF W T bs m' (layL W T L k ((j : Int) + 1)) := by unfold brE; rw [hmay]; rfl
                have CL := Lib.hid (fun (z : World) (Z : Below wr.heap.size wr z) => lay_any W T (some ab) (some ad) c d n bs L k ((j : Int) + 1) z (D2.belo Z) HF.out HN.out HL.out hlt hq hmay)
                have hbnd : R'.length + (tlsF W T bs m' (layL W T L k ((j : Int) + 1))).length ≤ 100000000000 := by
                  have h9 := HB.out
                  rw [HBR.out, List.length_append] at h9
                  rw [← HBE]
                  rcases (by omega : j = 0 ∨ j = 1) with rfl | rfl
                  · rw [HR.out.1 rfl]
                    have : (brE W T bs m' L k ((0 : Nat) + 1 : Int)).length = (brE W T bs m' L k 1).length := rfl
                    omega
                  · rw [HR.out.2.1 rfl, List.length_append]
                    have : (brE W T bs m' L k ((1 : Nat) + 1 : Int)).length = (brE W T bs m' L k 2).length := rfl
                    omega
                have hcm : cnt (emF bs (layL W T L k ((j : Int) + 1))) ≤ m' := by
                  have := HEM.out _ hq hmay
                  have := HM.out
                  omega
                have CE := Lib.hid (fun (z : World) (g : Nat) (Z : Below wr.heap.size wr z) (Rz : Rd z (some ⟨g, 0, none⟩) ((layL W T L k ((j : Int) + 1)).map (.int .i64))) (hg1 : wr.heap.size ≤ g) (hg2 : g < z.heap.size) =>
                  HI.out z (layL W T L k ((j : Int) + 1)) v' xs' R' ⟨g, 0, none⟩ n (S2.belo Z) Rz (by rw [layL_len]; exact HL.out) (Nat.le_refl _) hcm hbnd
                    (fun e => by have e : g = bO := e; have := S2.hi; have := S2.big; omega) (fun e => by have e : v'.ownBlock = some g := e; have := (S2.gr.own.lt _ e).2; omega) hg2)
                have HRT := Lib.hid (HRN.out _ (congrArg (R' ++ ·) HBE.symm))
                rw [hmay] at CF
                have KS := Lib.hid (fun (z : World) (Z : Below wr.heap.size wr z) => show z.cell? ⟨bx, 0, none⟩ = some (.int .i64 W) ∧ z.cell? ⟨bx, 1, none⟩ = some (.int .i64 T) ∧ z.cell? ⟨bx, 2, none⟩ = some (.slice (some ab) n c) from hC.belo Z)
                have KE := Lib.hid (fun (z z' : World) (v6 : Value) (Z : Below wr.heap.size wr z) (F : FrmE bO v' z v6 z') => show z'.cell? ⟨bx, 0, none⟩ = some (.int .i64 W) ∧ z'.cell? ⟨bx, 1, none⟩ = some (.int .i64 T) ∧ z'.cell? ⟨bx, 2, none⟩ = some (.slice (some ab) n c) from by
                  obtain ⟨y0, y1, y2⟩ := KS.out z Z
                  exact ⟨F.cell y0 hbx.1 h2b, F.cell y1 hbx.1 h2b, F.cell y2 hbx.1 h2b⟩)
                generalize layL W T L k ((j : Int) + 1) = LL at *
                clear hmay x0 x1 x2 w0c w1c hbnd hcm HBE
                obtain ⟨x0, x1, x2⟩ := id hC
                go_upto_region 9 with fail
                clear cq
                have Z0 : Below wr.heap.size wr wr.drew := (Below.refl _ _).drew
                go_region_held3 (fun w' => w'.cell? ⟨bx, 0, none⟩ = some (.int .i64 W) ∧ w'.cell? ⟨bx, 1, none⟩ = some (.int .i64 T) ∧ w'.cell? ⟨bx, 2, none⟩ = some (.slice (some ab) n c))
                  (first | (with_reducible exact Y6) | (with_reducible exact KS.out _ Z5) | (with_reducible exact KS.out _ Z4) | (with_reducible exact KS.out _ Z0) | (with_reducible exact ⟨x0, x1, x2⟩) | go_keep)
                  (first
                  | (go_at_call 108; (with_reducible refine (CF.out _ Z0).mono ?_); rintro e w4 ⟨rfl, b4⟩; have Z4 := Z0.trans (b4.mono Z0.size))
                  | (go_at_call 109; (with_reducible refine (CL.out _ Z4).mono ?_); rintro e w5 ⟨g5, rfl, W5, hg5, hgs5, b5⟩; have Z5 := Z4.trans (b5.mono Z4.size); have R5 := W5.rd)
                  | (go_at_call 76; (with_reducible refine (CE.out _ _ Z5 R5 (Nat.le_trans Z4.size hg5) hgs5).mono ?_); rintro e w6 ⟨rfl, v6, xs6, S6, F6⟩; have Y6 := KE.out _ _ _ Z5 F6))
                go_wp2_with fail
                go_roundw
                case rel => exact ⟨j + 1, v6, xs6, _, by omega, by go_num, Lib.hid HRT.out, S6, (F2.below Z5).trans F6⟩
                case measure => simp [intOf]; omega
            · obtain rfl : j = 2 := by omega
              have HRR := Lib.hid (show R ++ tlsF W T bs (m' + 1) L = R' by rw [HBR.out, HR.out.2.2 rfl, List.append_assoc])
              go_wp2_with fail
              go_ret
              rw [HRR.out]
              exact ⟨rfl, v', xs', S2, F1.trans F2⟩
        · have HF0 := Lib.hid (show emK bs L k = false by rw [HE.out, decide_eq_false hl0]; rfl)
          have hl1 : (l1 != 0) = true := by rw [bne_iff_ne]; exact hl0
          clear hl0
          go_wp2_with fail
          go_round
          case rel => exact ⟨k + 1, by omega, by go_num, Lib.hid (fun j hj => by
            rcases Nat.lt_or_ge j k with h | h
            · exact HK.out j h
            · obtain rfl : j = k := by omega
              exact HF0.out)⟩
          case measure => simp [intOf]; omega
    · obtain rfl : k = n := by omega
      have HFS := Lib.hid (show fsL bs L = bs.length from by
        rw [HN.out]
        exact fsL_eq (by rw [HN.out]; exact Nat.le_refl _) HK.out (fun h => by have := HN.out; omega))
      have HTL := Lib.hid (tls_leaf (W := W) (T := T) (f := m) HFS.out)
      have hRb : R.length ≤ 100000000000 := by have := HB.out; omega
      have HCA := Lib.hid (call_any wb S0 D0 HL.out (by omega) hnd hRb h1 h2 h30)
      go_wp2_with fail
      refine HCA.out.mono ?_
      rintro e w9 ⟨rfl, v9, xs9, S9, F9⟩
      go_wp2_with fail
      go_ret
      rw [HTL.out]
      exact ⟨rfl, v9, xs9, S9, F0.trans F9⟩
theorem each_all {W T : Int} {n c : Nat} {bs : List Bool} {A : Option Addr} {w0 : World} {B bO : Nat} (hr0 : Rd w0 A (bs.map .bool)) (hf : FldF W T n) (hn : bs.length = n) : ∀ m, EachOk W T n c bs A w0 B bO m
  | 0 => each_step hr0 hf hn (fun m' e => by omega)
  | m + 1 => each_step hr0 hf hn (fun m' e => by obtain rfl : m = m' := by omega
                                                 exact each_all hr0 hf hn m)
theorem make_intE (W : World) (n : Nat) (hn : n ≤ 1000000) : ∃ w' : World, (Instr.makeSlice 29 (.int .i64 n) (.int .i64 n)).run Tryz.prog W = .ok (.slice (some ⟨W.heap.size, 0, none⟩) n n) w' ∧ Wr w' W.heap.size 3 (some ⟨W.heap.size, 0, none⟩) ((List.replicate n (0 : Int)).map (.int .i64)) ∧ Below W.heap.size W w' ∧ W.heap.size < w'.heap.size := by
  obtain ⟨i0, hi, hz0, hz1, hz2⟩ := info_parts Tryz.infoI
  obtain ⟨w', hrun, r1, r2⟩ := run_make_full (P := Tryz.prog) W W.heap.size 29 3 i0 (.int .i64 0) 1 Tryz.underlying29 hi hz0 hz1 .i64 .i64 n (by rw [hz2]; omega) (by unfold maxLen; omega) (Nat.le_refl _)
  refine ⟨w', hrun, ?_, ((Below.refl W.heap.size W).grown r2 (Nat.le_refl _) (fun k hk => by cases hk)), own_lt r1 _ rfl⟩
  have h0 := Wr.of_own r1
  rw [show (Value.int .i64 0).cells = #[.int .i64 0] from rfl, toList_madeCells_one] at h0
  simpa using h0
set_option maxHeartbeats 400000 in
theorem clipEa (A : Option Addr) (n c : Nat) (w : World) (h : n ≤ c) :
    Calls Tryz.prog 91 #[.slice A n c] w fun e w' => e = .returned (.slice A n n) ∧ w = w' := by
  go_enter Tryz.func91, Tryz.ntmps91
  go_wp2
  go_ret
  exact ⟨rfl, rfl⟩
set_option maxRecDepth 100000 in
set_option maxHeartbeats 4000000 in
theorem tilings_any (W T : Int) (A : Option Addr) (c n : Nat) (bs : List Bool) (w : World) (hr : Rd w A (bs.map .bool)) (hf : FldF W T n) (hn : bs.length = n) :
    Calls Tryz.prog 50 #[.agg #[.int .i64 W, .int .i64 T, .slice A n c]] w (NewLL (tlsV W T bs) w) := by
  have n36 : n ≤ 36 := hf.bd
  have n1 : 1 ≤ n := by obtain ⟨w1, w6, t1, t6, hlen⟩ := id hf; have := (mul_bd w1 w6 t1 t6).1; omega
  have hlen : (tlsV W T bs).length ≤ 100000000000 := by
    have h1 := tlsF_len W T bs bs.length (List.replicate bs.length 0)
    have h2 : 2 ^ bs.length ≤ 2 ^ 36 := Nat.pow_le_pow_right (by omega) (by omega)
    unfold tlsV
    omega
  have X0 := C3.new w (.int .i64 W) (.int .i64 T) (.slice A n c) 25
  have B0 := bl_alloc (Below.refl w.heap.size w) (.cells #[.int .i64 W, .int .i64 T, .slice A n c] 25)
  have hu0 : (w.alloc (.cells #[.int .i64 W, .int .i64 T, .slice A n c] 25)).heap.size = w.heap.size + 1 := by first | exact Array.size_push _ | simp only [World.alloc, Array.size_push]
  obtain ⟨x0, x1, x2⟩ := id X0
  go_enter Tryz.func50, Tryz.ntmps50
  go_upto_region 2 with fail
  generalize hu : w.alloc (.cells #[.int .i64 W, .int .i64 T, .slice A n c] 25) = u at *
  have RU := hr.belo B0
  have bl := bl_alloc (Below.refl u.heap.size u) (.cells #[.slice none 0 0] 71)
  have XU := X0.belo bl
  have hO := heap_alloc_new u (.cells #[.slice none 0 0] 71)
  have hs2 : (u.alloc (.cells #[.slice none 0 0] 71)).heap.size = u.heap.size + 1 := by first | exact Array.size_push _ | simp only [World.alloc, Array.size_push]
  generalize hu2 : u.alloc (.cells #[.slice none 0 0] 71) = u2 at *
  obtain ⟨u3, hrun3, W3', b3, z3⟩ := make_intE u2.drew n (by omega)
  have W3 : Wr u3 u2.heap.size 3 (some ⟨u2.heap.size, 0, none⟩) ((List.replicate n (0 : Int)).map (.int .i64)) := W3'
  have B3 : Below u2.heap.size u2 u3 := (Below.refl u2.heap.size u2).drew.trans b3
  have z3 : u2.heap.size < u3.heap.size := z3
  clear W3'
  have S3 : EaSt u u2.heap.size u.heap.size (.slice none 0 0) [] [] u3 :=
    ⟨bl_trans bl B3 (by omega), (B3.block _ (hlt_E hO)).trans hO, GrL.nil u3 _, fun b hb => absurd hb AtL.nil, Nat.le_refl _, by omega, by omega⟩
  have hcm : cnt (emF bs (List.replicate n 0)) ≤ n := by
    unfold cnt
    have h1 := List.length_filter_le id (emF bs (List.replicate n 0))
    rw [emF_len] at h1
    omega
  have hT : tlsF W T bs n (List.replicate n 0) = tlsV W T bs := by unfold tlsV; rw [hn]
  have R3 := W3.rd
  have CE := Lib.hid (each_all (c := c) RU hf hn n u3 (List.replicate n 0) (.slice none 0 0) [] [] ⟨u2.heap.size, 0, none⟩ n S3 R3 (by simp) (Nat.le_refl _) hcm (by rw [hT]; simpa using hlen)
    (fun e => by have e : u2.heap.size = u.heap.size := e; omega) (fun e => by cases e) z3)
  rw [List.nil_append, hT] at CE
  have KS := Lib.hid (fun (z : World) (Z : Below u2.heap.size u2 z) => show z.cell? ⟨w.heap.size, 0, none⟩ = some (.int .i64 W) ∧ z.cell? ⟨w.heap.size, 1, none⟩ = some (.int .i64 T) ∧ z.cell? ⟨w.heap.size, 2, none⟩ = some (.slice A n c) from XU.belo Z)
  have KE := Lib.hid (fun (z' : World) (v6 : Value) (F : FrmE u.heap.size (.slice none 0 0) u3 v6 z') => show z'.cell? ⟨w.heap.size, 0, none⟩ = some (.int .i64 W) ∧ z'.cell? ⟨w.heap.size, 1, none⟩ = some (.int .i64 T) ∧ z'.cell? ⟨w.heap.size, 2, none⟩ = some (.slice A n c) from by
    obtain ⟨y0, y1, y2⟩ := KS.out u3 B3
    have hne : w.heap.size ≠ u.heap.size := by omega
    exact ⟨F.cell y0 hne (fun e => by cases e), F.cell y1 hne (fun e => by cases e), F.cell y2 hne (fun e => by cases e)⟩)
  have Z0 : Below u2.heap.size u2 u2.drew := (Below.refl _ _).drew
  have HRES := Lib.hid (fun (v6 : Value) (xs6 : List Value) (w6 : World) (S6 : EaSt u u2.heap.size u.heap.size v6 xs6 (tlsV W T bs) w6) => show w6.cell? ⟨u.heap.size, 0, none⟩ = some v6 ∧ ∃ (A6 : Option Addr) (c6 : Nat), v6 = .slice A6 (tlsV W T bs).length c6 ∧ (tlsV W T bs).length ≤ c6 ∧ RdLL w6 A6 (tlsV W T bs) ∧ Below w.heap.size w w6 from by
    obtain ⟨A6, c6, e6, hc6, R6, -⟩ := S6.gr.form
    exact ⟨S6.box.1, A6, c6, e6, hc6, R6, bl_go B0 S6.ok⟩)
  rw [hu0] at CE KE HRES
  obtain ⟨x0, x1, x2⟩ := id XU
  clear S3 R3 hcm hT hlen hO hs2 W3 z3 bl b3 RU hr hf hn XU X0 B0
  go_region_held3 (fun w' => w'.cell? ⟨w.heap.size, 0, none⟩ = some (.int .i64 W) ∧ w'.cell? ⟨w.heap.size, 1, none⟩ = some (.int .i64 T) ∧ w'.cell? ⟨w.heap.size, 2, none⟩ = some (.slice A n c))
    (first | (with_reducible exact Y6) | (with_reducible exact KS.out _ B3) | (with_reducible exact KS.out _ Z0) | (with_reducible exact ⟨x0, x1, x2⟩) | go_keep)
    ((go_at_call 76; (with_reducible refine CE.out.mono ?_); rintro e w6 ⟨rfl, v6, xs6, S6, F6⟩; have Y6 := KE.out _ _ F6; obtain ⟨xo, A6, c6, rfl, hc6, R6, B6⟩ := HRES.out _ _ _ S6; clear S6 F6))
  all_goals first
    | (go_ret; exact ⟨A6, _, rfl, Nat.le_refl _, R6, B6⟩)
    | (go_wp2_with (go_at_call 91; refine (clipEa _ _ _ _ hc6).mono ?_; rintro e w' ⟨rfl, rfl⟩); go_ret; exact ⟨A6, _, rfl, Nat.le_refl _, R6, B6⟩)
end Go.Proofs.YtafmpgikdhlknaaGreat

/- Contracts: the program's lowest and highest tilings. -/
namespace Go.Proofs.YtafmpgikdhlknaaGreat
open Go.RowKit

/-- the tiling r and true, or none -/
def ExtP (W T : Int) (bs : List Bool) (n : Nat) (r : List Int) (w : World) (e : Ending) (w' : World) : Prop :=
  ((simpB W T bs = true ∧ tlsV W T bs ≠ []) ∧ ∃ g : Nat, e = .returned (.tuple #[.slice (some ⟨g, 0, none⟩) n n, .bool true]) ∧ Wr w' w.heap.size 3 (some ⟨g, 0, none⟩) (r.map (.int .i64)) ∧ w.heap.size ≤ g ∧ g < w'.heap.size ∧ Below w.heap.size w w') ∨
  (¬ (simpB W T bs = true ∧ tlsV W T bs ≠ []) ∧ e = .returned (.tuple #[.slice none 0 0, .bool false]) ∧ Below w.heap.size w w')
theorem foldH_takeS {W T : Int} {bs : List Bool} {f : Int → Int → Int} {h : List Int} {ts : List (List Int)} {k : Nat} (hk : k < ts.length) : foldH f W T bs h (ts.take (k + 1)) = pickL f (foldH f W T bs h (ts.take k)) (hgtV W T bs ts[k]) := by
  unfold foldH
  rw [List.take_succ_eq_append_getElem hk, List.foldl_append]
  rfl
theorem tlsV_len (W T : Int) {bs : List Bool} (h : bs.length ≤ 36) : (tlsV W T bs).length ≤ 100000000000 := by
  have h1 := tlsF_len W T bs bs.length (List.replicate bs.length 0)
  have h2 : 2 ^ bs.length ≤ 2 ^ 36 := Nat.pow_le_pow_right (by omega) h
  unfold tlsV
  omega
theorem headD_zero (l : List (List Int)) (h : 0 < l.length) : l.headD [] = l[0] := by
  cases l with
  | nil => simp at h
  | cons a l => rfl
set_option maxRecDepth 100000 in
set_option maxHeartbeats 4000000 in
theorem ext_min (W T : Int) (A : Option Addr) (c n : Nat) (bs : List Bool) (w : World) (hr : Rd w A (bs.map .bool)) (hn : bs.length = n) (hm : n ≤ maxLen) :
    Calls Tryz.prog 103 #[.agg #[.int .i64 W, .int .i64 T, .slice A n c], .func (.func 59) #[] #[]] w (ExtP W T bs n (lowT W T bs) w) := by
  have X0 := C3.new w (.int .i64 W) (.int .i64 T) (.slice A n c) 25
  have B0 := bl_alloc (Below.refl w.heap.size w) (.cells #[.int .i64 W, .int .i64 T, .slice A n c] 25)
  have CS := Lib.hid (fun (z : World) (R : Rd z A (bs.map .bool)) => iSimple_any W T A c n bs z R hn hm)
  have HEN := Lib.hid (fun (z : World) (h : ¬ (simpB W T bs = true ∧ tlsV W T bs ≠ [])) (b : Below w.heap.size w z) => (show ExtP W T bs n (lowT W T bs) w (.returned (.tuple #[.slice none 0 0, .bool false])) z from .inr ⟨h, rfl, b⟩))
  have hw := X0.lt
  obtain ⟨x0, x1, x2⟩ := id X0
  go_enter Tryz.func103, Tryz.ntmps103
  go_wp2_with fail
  have R0 := hr.belo B0
  generalize w.alloc (.cells #[.int .i64 W, .int .i64 T, .slice A n c] 25) = u at *
  refine (CS.out _ R0).mono ?_
  rintro e w2 ⟨rfl, b2⟩
  have X2 := X0.belo b2
  have B2 := bl_go B0 b2
  have R2 := R0.belo b2
  clear x0 x1 x2 X0 R0
  obtain ⟨x0, x1, x2⟩ := id X2
  cases hs : simpB W T bs with
  | false =>
    have HE := Lib.hid (HEN.out w2 (fun h => by rw [hs] at h; cases h.1) B2)
    go_wp2_with fail
    go_ret2
    exact HE.out
  | true =>
    obtain ⟨hval, -, -⟩ := simp_iff.1 hs
    obtain ⟨⟨w1, w6⟩, ⟨t1, t6⟩, hlen, -⟩ := validB_iff.1 hval
    have hf : FldF W T n := ⟨w1, w6, t1, t6, by rw [← hn]; exact hlen⟩
    obtain ⟨-, hN1, hN49⟩ := nc_bd hf
    have CT := Lib.hid (fun (z : World) (R : Rd z A (bs.map .bool)) => tilings_any W T A c n bs z R hf hn)
    go_wp2_with fail
    refine (CT.out _ R2).mono ?_
    rintro e w3 ⟨A3, c3, rfl, hc3, R3, b3⟩
    have X3 := X2.belo b3
    have B3 := bl_go B2 b3
    have RA3 := R2.belo b3
    clear x0 x1 x2 X2 R2
    by_cases hts : tlsV W T bs = []
    · have HE := Lib.hid (HEN.out w3 (fun h => h.2 hts) B3)
      rw [hts]
      have h00 : (((([] : List (List Int)).length : Nat) : Int) == 0) = true := rfl
      go_wp2_with fail
      go_ret2
      exact HE.out
    · have HALL := Lib.hid (fun t ht => (tlsV_mem hval (M := t)).1 ht)
      have h0 : tilingB W T bs ((tlsV W T bs).headD []) = true := HALL.out _ (head_mem (d := []) hts)
      have HGD := Lib.hid (fun (k : Nat) => fold_good hs (f := min) (fun a b ha hb => good_min hs ha hb) ((tlsV W T bs).take k) _ (hgtV_good hs h0) (fun t ht => HALL.out t (List.mem_of_mem_take ht)))
      have HGL := Lib.hid (fun (k : Nat) (hk : k < (tlsV W T bs).length) => (hgtV_good hs (HALL.out _ (List.getElem_mem hk))).len)
      have HV := Lib.hid (show lowT W T bs = tilH W T bs (foldH min W T bs (hgtV W T bs ((tlsV W T bs).headD [])) (tlsV W T bs)) from rfl)
      have HFIN := Lib.hid (fun (g : Nat) (z : World) (W9 : Wr z w.heap.size 3 (some ⟨g, 0, none⟩) ((lowT W T bs).map (.int .i64))) (h1 : w.heap.size ≤ g) (h2 : g < z.heap.size) (b : Below w.heap.size w z) => (show ExtP W T bs n (lowT W T bs) w (.returned (.tuple #[.slice (some ⟨g, 0, none⟩) n n, .bool true])) z from .inl ⟨⟨hs, hts⟩, g, rfl, W9, h1, h2, b⟩))
      have hpos : 0 < (tlsV W T bs).length := List.length_pos_iff.2 hts
      have HLN := Lib.hid (fun (k : Nat) (hk : k < (tlsV W T bs).length) => show ((tlsV W T bs)[k]).length = n by rw [← hn]; exact (tiling_til (HALL.out _ (List.getElem_mem hk))).2.1)
      have CH := Lib.hid (fun (z : World) (k : Nat) (hk : k < (tlsV W T bs).length) (D : Option Addr) (d : Nat) (R : Rd z A (bs.map .bool)) (RD : Rd z D ((tlsV W T bs)[k].map (.int .i64))) => heights_any W T A D c d n bs (tlsV W T bs)[k] z R RD hs (HALL.out _ (List.getElem_mem hk)) hn)
      have CB := Lib.hid (fun (z : World) (D : Option Addr) (d k : Nat) (R : Rd z A (bs.map .bool)) (RD : Rd z D ((foldH min W T bs (hgtV W T bs ((tlsV W T bs).headD [])) ((tlsV W T bs).take k)).map (.int .i64))) => by_any W T A D c d n bs _ z R RD hs (HGD.out k) hn)
      have hbig := tlsV_len W T (bs := bs) (by rw [hn]; exact hf.bd)
      generalize tlsV W T bs = ts at *
      obtain ⟨N, hN⟩ : ∃ N, ncN W T = N := ⟨_, rfl⟩
      rw [hN] at CH CB hN1 hN49
      have HN := Lib.hid hN
      have HGL2 := Lib.hid (fun (k : Nat) (hk : k < ts.length) => (HGL.out k hk).trans hN)
      have HGD2 := Lib.hid (fun (k : Nat) => (HGD.out k).len.trans hN)
      have HH0 := Lib.hid (headD_zero ts hpos)
      clear hts hs hval hf hlen h0 CS CT HEN hN HGL HALL
      obtain ⟨b, off, Bx, cB, rfl, hcell, -, -, RB⟩ := R3.at_ hpos
      rw [HLN.out 0 hpos] at hcell
      have hcell : w3.cell? ⟨b, off, none⟩ = some (.slice Bx n cB) := hcell
      have hz : ((ts.length : Int) == 0) = false := by rw [beq_eq_false_iff_ne]; omega
      have hbl := World.block_lt_of_cell? w3 _ hcell
      have KS := Lib.hid (fun (z : World) (Z : Below w3.heap.size w3 z) => show (z.cell? ⟨w.heap.size, 0, none⟩ = some (.int .i64 W) ∧ z.cell? ⟨w.heap.size, 1, none⟩ = some (.int .i64 T) ∧ z.cell? ⟨w.heap.size, 2, none⟩ = some (.slice A n c)) ∧ z.cell? ⟨b, off, none⟩ = some (.slice Bx n cB) from ⟨X3.belo Z, ((bcell Z).1 b _ hbl).trans hcell⟩)
      have Z0 : Below w3.heap.size w3 w3.drew := (Below.refl _ _).drew
      have CH1 := Lib.hid (CH.out w3.drew 0 hpos Bx cB (RA3.belo Z0) (RB.belo Z0))
      have HS0 := KS.out _ (Below.refl _ _)
      obtain ⟨x0, x1, x2⟩ := id X3
      go_upto_region 6 with fail
      go_region_held3 (fun w' => (w'.cell? ⟨w.heap.size, 0, none⟩ = some (.int .i64 W) ∧ w'.cell? ⟨w.heap.size, 1, none⟩ = some (.int .i64 T) ∧ w'.cell? ⟨w.heap.size, 2, none⟩ = some (.slice A n c)) ∧ w'.cell? ⟨b, off, none⟩ = some (.slice Bx n cB))
        (first | (with_reducible exact KS.out _ Z7) | (with_reducible exact KS.out _ Z0) | (with_reducible exact HS0) | go_keep)
        ((go_at_call 56; (with_reducible refine CH1.out.mono ?_); rintro e w7 ⟨g7, rfl, W7, hg7, hgs7, b7⟩; have Z7 := Z0.trans (b7.mono Z0.size)))
      have R7 := W7.rd
      have RL7 := R3.belo Z7
      have X7 := X3.belo Z7
      have A7 := RA3.belo Z7
      have B7 := bl_go B3 Z7
      clear HS0 KS hcell RB CH1 x0 x1 x2 W7 X3 RA3 R3 B3 b7 Z0 hg7 hgs7 b2 b3 B2 hbl
      have HST := Lib.hid (fun (k : Nat) (hk : k < ts.length) => foldH_takeS (W := W) (T := T) (bs := bs) (f := min) (h := hgtV W T bs (ts.headD [])) hk)
      have HF0 := Lib.hid (show foldH min W T bs (hgtV W T bs (ts.headD [])) (ts.take 0) = hgtV W T bs ts[0] by rw [HH0.out]; rfl)
      rw [← HF0.out] at R7
      have HFT := Lib.hid (show foldH min W T bs (hgtV W T bs (ts.headD [])) (ts.take ts.length) = foldH min W T bs (hgtV W T bs (ts.headD [])) ts by rw [List.take_length])
      clear HF0 HH0 hcell HGD
      generalize ts.headD [] = hd at *
      go_wp2_with fail
      go_loopw [7, 25] (fun hv i wr => ∃ (k g : Nat), k ≤ ts.length ∧ i = .int .i64 k ∧ hv = .slice (some ⟨g, 0, none⟩) N N ∧ Rd wr (some ⟨g, 0, none⟩) ((foldH min W T bs (hgtV W T bs hd) (ts.take k)).map (.int .i64)) ∧ Below w7.heap.size w7 wr) (fun _ i _ => ts.length - (intOf i).toNat)
      case atStart => exact ⟨0, g7, Nat.zero_le _, rfl, rfl, R7, Below.refl _ _⟩
      case round =>
        obtain ⟨k, g, hk, rfl, rfl, RM, BR⟩ := hrel
        have XR := X7.belo BR
        have AR := A7.belo BR
        by_cases hlt : k < ts.length
        · obtain ⟨b', off', By, cy, e9, hcy, -, -, RY⟩ := (RL7.belo BR).at_ hlt
          injection e9 with e9; injection e9 with e9 e9'
          subst e9; subst e9'
          rw [HLN.out k hlt] at hcy
          have CHk := Lib.hid (CH.out wr k hlt By cy AR RY)
          have hkI : (k : Int) < (ts.length : Int) := by omega
          obtain ⟨x0, x1, x2⟩ := id XR
          clear RY
          go_wp2_with fail
          refine CHk.out.mono ?_
          rintro e w8 ⟨g8, rfl, W8, hg8, hgs8, b8⟩
          have B8 := BR.trans (b8.mono BR.size)
          clear x0 x1 x2 hcy CHk
          have CP := Lib.hid (pick_min (some ⟨g, 0, none⟩) (some ⟨g8, 0, none⟩) N N N _ _ w8 (RM.belo b8) W8.rd (HGD2.out k) (HGL2.out k hlt) hN1 (by omega))
          rw [← HST.out k hlt] at CP
          go_wp2_with fail
          refine CP.out.mono ?_
          rintro e w9 ⟨g9, rfl, W9, hg9, hgs9, b9⟩
          have B9 := B8.trans (b9.mono B8.size)
          go_wp2_with fail
          go_roundw
          case rel => exact ⟨k + 1, g9, by omega, by go_num, rfl, W9.rd, B9⟩
          case measure => simp [intOf]; omega
        · obtain rfl : k = ts.length := by omega
          have CBk := Lib.hid (CB.out wr (some ⟨g, 0, none⟩) N ts.length AR RM)
          rw [HFT.out, ← HV.out] at CBk
          obtain ⟨x0, x1, x2⟩ := id XR
          go_wp2_with fail
          refine CBk.out.mono ?_
          rintro e w8 ⟨g8, rfl, W8, hg8, hgs8, b8⟩
          have B8 := bl_go B7 (BR.trans (b8.mono BR.size))
          have hle : w.heap.size ≤ wr.heap.size := (bl_go B7 BR).size
          clear x0 x1 x2
          go_wp2_with fail
          go_ret2
          exact HFIN.out g8 _ (W8.lower hle) (Nat.le_trans hle hg8) hgs8 B8
set_option maxRecDepth 100000 in
set_option maxHeartbeats 4000000 in
theorem ext_max (W T : Int) (A : Option Addr) (c n : Nat) (bs : List Bool) (w : World) (hr : Rd w A (bs.map .bool)) (hn : bs.length = n) (hm : n ≤ maxLen) :
    Calls Tryz.prog 103 #[.agg #[.int .i64 W, .int .i64 T, .slice A n c], .func (.func 53) #[] #[]] w (ExtP W T bs n (highT W T bs) w) := by
  have X0 := C3.new w (.int .i64 W) (.int .i64 T) (.slice A n c) 25
  have B0 := bl_alloc (Below.refl w.heap.size w) (.cells #[.int .i64 W, .int .i64 T, .slice A n c] 25)
  have CS := Lib.hid (fun (z : World) (R : Rd z A (bs.map .bool)) => iSimple_any W T A c n bs z R hn hm)
  have HEN := Lib.hid (fun (z : World) (h : ¬ (simpB W T bs = true ∧ tlsV W T bs ≠ [])) (b : Below w.heap.size w z) => (show ExtP W T bs n (highT W T bs) w (.returned (.tuple #[.slice none 0 0, .bool false])) z from .inr ⟨h, rfl, b⟩))
  have hw := X0.lt
  obtain ⟨x0, x1, x2⟩ := id X0
  go_enter Tryz.func103, Tryz.ntmps103
  go_wp2_with fail
  have R0 := hr.belo B0
  generalize w.alloc (.cells #[.int .i64 W, .int .i64 T, .slice A n c] 25) = u at *
  refine (CS.out _ R0).mono ?_
  rintro e w2 ⟨rfl, b2⟩
  have X2 := X0.belo b2
  have B2 := bl_go B0 b2
  have R2 := R0.belo b2
  clear x0 x1 x2 X0 R0
  obtain ⟨x0, x1, x2⟩ := id X2
  cases hs : simpB W T bs with
  | false =>
    have HE := Lib.hid (HEN.out w2 (fun h => by rw [hs] at h; cases h.1) B2)
    go_wp2_with fail
    go_ret2
    exact HE.out
  | true =>
    obtain ⟨hval, -, -⟩ := simp_iff.1 hs
    obtain ⟨⟨w1, w6⟩, ⟨t1, t6⟩, hlen, -⟩ := validB_iff.1 hval
    have hf : FldF W T n := ⟨w1, w6, t1, t6, by rw [← hn]; exact hlen⟩
    obtain ⟨-, hN1, hN49⟩ := nc_bd hf
    have CT := Lib.hid (fun (z : World) (R : Rd z A (bs.map .bool)) => tilings_any W T A c n bs z R hf hn)
    go_wp2_with fail
    refine (CT.out _ R2).mono ?_
    rintro e w3 ⟨A3, c3, rfl, hc3, R3, b3⟩
    have X3 := X2.belo b3
    have B3 := bl_go B2 b3
    have RA3 := R2.belo b3
    clear x0 x1 x2 X2 R2
    by_cases hts : tlsV W T bs = []
    · have HE := Lib.hid (HEN.out w3 (fun h => h.2 hts) B3)
      rw [hts]
      have h00 : (((([] : List (List Int)).length : Nat) : Int) == 0) = true := rfl
      go_wp2_with fail
      go_ret2
      exact HE.out
    · have HALL := Lib.hid (fun t ht => (tlsV_mem hval (M := t)).1 ht)
      have h0 : tilingB W T bs ((tlsV W T bs).headD []) = true := HALL.out _ (head_mem (d := []) hts)
      have HGD := Lib.hid (fun (k : Nat) => fold_good hs (f := max) (fun a b ha hb => good_max hs ha hb) ((tlsV W T bs).take k) _ (hgtV_good hs h0) (fun t ht => HALL.out t (List.mem_of_mem_take ht)))
      have HGL := Lib.hid (fun (k : Nat) (hk : k < (tlsV W T bs).length) => (hgtV_good hs (HALL.out _ (List.getElem_mem hk))).len)
      have HV := Lib.hid (show highT W T bs = tilH W T bs (foldH max W T bs (hgtV W T bs ((tlsV W T bs).headD [])) (tlsV W T bs)) from rfl)
      have HFIN := Lib.hid (fun (g : Nat) (z : World) (W9 : Wr z w.heap.size 3 (some ⟨g, 0, none⟩) ((highT W T bs).map (.int .i64))) (h1 : w.heap.size ≤ g) (h2 : g < z.heap.size) (b : Below w.heap.size w z) => (show ExtP W T bs n (highT W T bs) w (.returned (.tuple #[.slice (some ⟨g, 0, none⟩) n n, .bool true])) z from .inl ⟨⟨hs, hts⟩, g, rfl, W9, h1, h2, b⟩))
      have hpos : 0 < (tlsV W T bs).length := List.length_pos_iff.2 hts
      have HLN := Lib.hid (fun (k : Nat) (hk : k < (tlsV W T bs).length) => show ((tlsV W T bs)[k]).length = n by rw [← hn]; exact (tiling_til (HALL.out _ (List.getElem_mem hk))).2.1)
      have CH := Lib.hid (fun (z : World) (k : Nat) (hk : k < (tlsV W T bs).length) (D : Option Addr) (d : Nat) (R : Rd z A (bs.map .bool)) (RD : Rd z D ((tlsV W T bs)[k].map (.int .i64))) => heights_any W T A D c d n bs (tlsV W T bs)[k] z R RD hs (HALL.out _ (List.getElem_mem hk)) hn)
      have CB := Lib.hid (fun (z : World) (D : Option Addr) (d k : Nat) (R : Rd z A (bs.map .bool)) (RD : Rd z D ((foldH max W T bs (hgtV W T bs ((tlsV W T bs).headD [])) ((tlsV W T bs).take k)).map (.int .i64))) => by_any W T A D c d n bs _ z R RD hs (HGD.out k) hn)
      have hbig := tlsV_len W T (bs := bs) (by rw [hn]; exact hf.bd)
      generalize tlsV W T bs = ts at *
      obtain ⟨N, hN⟩ : ∃ N, ncN W T = N := ⟨_, rfl⟩
      rw [hN] at CH CB hN1 hN49
      have HN := Lib.hid hN
      have HGL2 := Lib.hid (fun (k : Nat) (hk : k < ts.length) => (HGL.out k hk).trans hN)
      have HGD2 := Lib.hid (fun (k : Nat) => (HGD.out k).len.trans hN)
      have HH0 := Lib.hid (headD_zero ts hpos)
      clear hts hs hval hf hlen h0 CS CT HEN hN HGL HALL
      obtain ⟨b, off, Bx, cB, rfl, hcell, -, -, RB⟩ := R3.at_ hpos
      rw [HLN.out 0 hpos] at hcell
      have hcell : w3.cell? ⟨b, off, none⟩ = some (.slice Bx n cB) := hcell
      have hz : ((ts.length : Int) == 0) = false := by rw [beq_eq_false_iff_ne]; omega
      have hbl := World.block_lt_of_cell? w3 _ hcell
      have KS := Lib.hid (fun (z : World) (Z : Below w3.heap.size w3 z) => show (z.cell? ⟨w.heap.size, 0, none⟩ = some (.int .i64 W) ∧ z.cell? ⟨w.heap.size, 1, none⟩ = some (.int .i64 T) ∧ z.cell? ⟨w.heap.size, 2, none⟩ = some (.slice A n c)) ∧ z.cell? ⟨b, off, none⟩ = some (.slice Bx n cB) from ⟨X3.belo Z, ((bcell Z).1 b _ hbl).trans hcell⟩)
      have Z0 : Below w3.heap.size w3 w3.drew := (Below.refl _ _).drew
      have CH1 := Lib.hid (CH.out w3.drew 0 hpos Bx cB (RA3.belo Z0) (RB.belo Z0))
      have HS0 := KS.out _ (Below.refl _ _)
      obtain ⟨x0, x1, x2⟩ := id X3
      go_upto_region 6 with fail
      go_region_held3 (fun w' => (w'.cell? ⟨w.heap.size, 0, none⟩ = some (.int .i64 W) ∧ w'.cell? ⟨w.heap.size, 1, none⟩ = some (.int .i64 T) ∧ w'.cell? ⟨w.heap.size, 2, none⟩ = some (.slice A n c)) ∧ w'.cell? ⟨b, off, none⟩ = some (.slice Bx n cB))
        (first | (with_reducible exact KS.out _ Z7) | (with_reducible exact KS.out _ Z0) | (with_reducible exact HS0) | go_keep)
        ((go_at_call 56; (with_reducible refine CH1.out.mono ?_); rintro e w7 ⟨g7, rfl, W7, hg7, hgs7, b7⟩; have Z7 := Z0.trans (b7.mono Z0.size)))
      have R7 := W7.rd
      have RL7 := R3.belo Z7
      have X7 := X3.belo Z7
      have A7 := RA3.belo Z7
      have B7 := bl_go B3 Z7
      clear HS0 KS hcell RB CH1 x0 x1 x2 W7 X3 RA3 R3 B3 b7 Z0 hg7 hgs7 b2 b3 B2 hbl
      have HST := Lib.hid (fun (k : Nat) (hk : k < ts.length) => foldH_takeS (W := W) (T := T) (bs := bs) (f := max) (h := hgtV W T bs (ts.headD [])) hk)
      have HF0 := Lib.hid (show foldH max W T bs (hgtV W T bs (ts.headD [])) (ts.take 0) = hgtV W T bs ts[0] by rw [HH0.out]; rfl)
      rw [← HF0.out] at R7
      have HFT := Lib.hid (show foldH max W T bs (hgtV W T bs (ts.headD [])) (ts.take ts.length) = foldH max W T bs (hgtV W T bs (ts.headD [])) ts by rw [List.take_length])
      clear HF0 HH0 hcell HGD
      generalize ts.headD [] = hd at *
      go_wp2_with fail
      go_loopw [7, 25] (fun hv i wr => ∃ (k g : Nat), k ≤ ts.length ∧ i = .int .i64 k ∧ hv = .slice (some ⟨g, 0, none⟩) N N ∧ Rd wr (some ⟨g, 0, none⟩) ((foldH max W T bs (hgtV W T bs hd) (ts.take k)).map (.int .i64)) ∧ Below w7.heap.size w7 wr) (fun _ i _ => ts.length - (intOf i).toNat)
      case atStart => exact ⟨0, g7, Nat.zero_le _, rfl, rfl, R7, Below.refl _ _⟩
      case round =>
        obtain ⟨k, g, hk, rfl, rfl, RM, BR⟩ := hrel
        have XR := X7.belo BR
        have AR := A7.belo BR
        by_cases hlt : k < ts.length
        · obtain ⟨b', off', By, cy, e9, hcy, -, -, RY⟩ := (RL7.belo BR).at_ hlt
          injection e9 with e9; injection e9 with e9 e9'
          subst e9; subst e9'
          rw [HLN.out k hlt] at hcy
          have CHk := Lib.hid (CH.out wr k hlt By cy AR RY)
          have hkI : (k : Int) < (ts.length : Int) := by omega
          obtain ⟨x0, x1, x2⟩ := id XR
          clear RY
          go_wp2_with fail
          refine CHk.out.mono ?_
          rintro e w8 ⟨g8, rfl, W8, hg8, hgs8, b8⟩
          have B8 := BR.trans (b8.mono BR.size)
          clear x0 x1 x2 hcy CHk
          have CP := Lib.hid (pick_max (some ⟨g, 0, none⟩) (some ⟨g8, 0, none⟩) N N N _ _ w8 (RM.belo b8) W8.rd (HGD2.out k) (HGL2.out k hlt) hN1 (by omega))
          rw [← HST.out k hlt] at CP
          go_wp2_with fail
          refine CP.out.mono ?_
          rintro e w9 ⟨g9, rfl, W9, hg9, hgs9, b9⟩
          have B9 := B8.trans (b9.mono B8.size)
          go_wp2_with fail
          go_roundw
          case rel => exact ⟨k + 1, g9, by omega, by go_num, rfl, W9.rd, B9⟩
          case measure => simp [intOf]; omega
        · obtain rfl : k = ts.length := by omega
          have CBk := Lib.hid (CB.out wr (some ⟨g, 0, none⟩) N ts.length AR RM)
          rw [HFT.out, ← HV.out] at CBk
          obtain ⟨x0, x1, x2⟩ := id XR
          go_wp2_with fail
          refine CBk.out.mono ?_
          rintro e w8 ⟨g8, rfl, W8, hg8, hgs8, b8⟩
          have B8 := bl_go B7 (BR.trans (b8.mono BR.size))
          have hle : w.heap.size ≤ wr.heap.size := (bl_go B7 BR).size
          clear x0 x1 x2
          go_wp2_with fail
          go_ret2
          exact HFIN.out g8 _ (W8.lower hle) (Nat.le_trans hle hg8) hgs8 B8
set_option maxHeartbeats 1000000 in
theorem iLowest_any (W T : Int) (A : Option Addr) (c n : Nat) (bs : List Bool) (w : World) (hr : Rd w A (bs.map .bool)) (hn : bs.length = n) (hm : n ≤ maxLen) :
    Calls Tryz.prog 67 #[.agg #[.int .i64 W, .int .i64 T, .slice A n c]] w (ExtP W T bs n (lowT W T bs) w) := by
  have X0 := C3.new w (.int .i64 W) (.int .i64 T) (.slice A n c) 25
  have B0 := bl_alloc (Below.refl w.heap.size w) (.cells #[.int .i64 W, .int .i64 T, .slice A n c] 25)
  have hw := X0.lt
  obtain ⟨x0, x1, x2⟩ := id X0
  go_enter Tryz.func67, Tryz.ntmps67
  go_wp2_with fail
  have C := Lib.hid (ext_min W T A c n bs _ (hr.belo B0) hn hm)
  generalize w.alloc (.cells #[.int .i64 W, .int .i64 T, .slice A n c] 25) = u at *
  clear x0 x1 x2
  refine C.out.mono ?_
  rintro e w2 (⟨h, g, rfl, W2, hg, hgs, b2⟩ | ⟨h, rfl, b2⟩)
  · have H := Lib.hid (show ExtP W T bs n (lowT W T bs) w (.returned (.tuple #[.slice (some ⟨g, 0, none⟩) n n, .bool true])) w2 from .inl ⟨h, g, rfl, W2.lower (Nat.le_of_lt hw), by omega, hgs, bl_go B0 b2⟩)
    go_wp2_with fail
    go_ret2
    exact H.out
  · have H := Lib.hid (show ExtP W T bs n (lowT W T bs) w (.returned (.tuple #[.slice none 0 0, .bool false])) w2 from .inr ⟨h, rfl, bl_go B0 b2⟩)
    go_wp2_with fail
    go_ret2
    exact H.out
set_option maxHeartbeats 1000000 in
theorem iHighest_any (W T : Int) (A : Option Addr) (c n : Nat) (bs : List Bool) (w : World) (hr : Rd w A (bs.map .bool)) (hn : bs.length = n) (hm : n ≤ maxLen) :
    Calls Tryz.prog 68 #[.agg #[.int .i64 W, .int .i64 T, .slice A n c]] w (ExtP W T bs n (highT W T bs) w) := by
  have X0 := C3.new w (.int .i64 W) (.int .i64 T) (.slice A n c) 25
  have B0 := bl_alloc (Below.refl w.heap.size w) (.cells #[.int .i64 W, .int .i64 T, .slice A n c] 25)
  have hw := X0.lt
  obtain ⟨x0, x1, x2⟩ := id X0
  go_enter Tryz.func68, Tryz.ntmps68
  go_wp2_with fail
  have C := Lib.hid (ext_max W T A c n bs _ (hr.belo B0) hn hm)
  generalize w.alloc (.cells #[.int .i64 W, .int .i64 T, .slice A n c] 25) = u at *
  clear x0 x1 x2
  refine C.out.mono ?_
  rintro e w2 (⟨h, g, rfl, W2, hg, hgs, b2⟩ | ⟨h, rfl, b2⟩)
  · have H := Lib.hid (show ExtP W T bs n (highT W T bs) w (.returned (.tuple #[.slice (some ⟨g, 0, none⟩) n n, .bool true])) w2 from .inl ⟨h, g, rfl, W2.lower (Nat.le_of_lt hw), by omega, hgs, bl_go B0 b2⟩)
    go_wp2_with fail
    go_ret2
    exact H.out
  · have H := Lib.hid (show ExtP W T bs n (highT W T bs) w (.returned (.tuple #[.slice none 0 0, .bool false])) w2 from .inr ⟨h, rfl, bl_go B0 b2⟩)
    go_wp2_with fail
    go_ret2
    exact H.out
end Go.Proofs.YtafmpgikdhlknaaGreat

/- Contracts: whether pushes lead all tilings to one, and how many of the last ones do, in the program. -/
namespace Go.Proofs.YtafmpgikdhlknaaGreat
open Go.RowKit

/-- the tiling to which the lowest one is led, and whether the highest one is led to it -/
def CouP (W T : Int) (bs : List Bool) (n : Nat) (ps : List Pu) (w : World) (e : Ending) (w' : World) : Prop :=
  (tlsV W T bs ≠ [] ∧ ∃ g : Nat, e = .returned (.tuple #[.slice (some ⟨g, 0, none⟩) n n, .bool (meetB W T bs ps)]) ∧ Wr w' w.heap.size 3 (some ⟨g, 0, none⟩) ((runLow W T bs ps).map (.int .i64)) ∧ w.heap.size ≤ g ∧ g < w'.heap.size ∧ Below w.heap.size w w') ∨
  (tlsV W T bs = [] ∧ e = .returned (.tuple #[.slice none 0 0, .bool false]) ∧ Below w.heap.size w w')
theorem CouP.tell {W T : Int} {bs : List Bool} {n : Nat} {ps : List Pu} {w w' : World} {e : Ending} (h : CouP W T bs n ps w e w') (hp : psvB W T bs ps = true) :
    Below w.heap.size w w' ∧ ((coupB W T bs ps = true ∧ ∃ g : Nat, e = .returned (.tuple #[.slice (some ⟨g, 0, none⟩) n n, .bool true]) ∧ Wr w' w.heap.size 3 (some ⟨g, 0, none⟩) ((runLow W T bs ps).map (.int .i64)) ∧ w.heap.size ≤ g ∧ g < w'.heap.size) ∨
      (coupB W T bs ps = false ∧ ∃ (D : Option Addr) (d c : Nat), e = .returned (.tuple #[.slice D d c, .bool false]))) := by
  rcases h with ⟨h1, g, he, hw, h2, h3, hb⟩ | ⟨h1, he, hb⟩
  · refine ⟨hb, ?_⟩
    cases hm : meetB W T bs ps with
    | true => exact .inl ⟨coup_iff.2 ⟨hp, h1, hm⟩, g, by rw [he, hm], hw, h2, h3⟩
    | false => exact .inr ⟨by { rw [Bool.eq_false_iff]; intro hc; have h9 := (coup_iff.1 hc).2.2; rw [hm] at h9; exact Bool.false_ne_true h9 }, _, _, _, by rw [he, hm]⟩
  · exact ⟨hb, .inr ⟨by { rw [Bool.eq_false_iff]; intro hc; exact (coup_iff.1 hc).2.1 h1 }, _, _, _, he⟩⟩
set_option maxRecDepth 100000 in
set_option maxHeartbeats 4000000 in
theorem coupled_any (W T : Int) (A P : Option Addr) (c cp n m : Nat) (bs : List Bool) (ps : List Pu) (w : World) (hr : Rd w A (bs.map .bool)) (hp : RdP w P ps) (hn : bs.length = n) (hnm : n ≤ maxLen) (hm : ps.length = m) (hps : psvB W T bs ps = true) :
    Calls Tryz.prog 26 #[.agg #[.int .i64 W, .int .i64 T, .slice A n c], .slice P m cp] w (CouP W T bs n ps w) := by
  obtain ⟨hs, h128, hpv⟩ := psv_iff.1 hps
  have X0 := C3.new w (.int .i64 W) (.int .i64 T) (.slice A n c) 25
  have B0 := bl_alloc (Below.refl w.heap.size w) (.cells #[.int .i64 W, .int .i64 T, .slice A n c] 25)
  have r0 := hr.belo B0
  have p0 := hp.belo B0
  have CL := Lib.hid (iLowest_any W T A c n bs _ r0 hn hnm)
  have CH := Lib.hid (fun (z : World) (R : Rd z A (bs.map .bool)) => iHighest_any W T A c n bs z R hn hnm)
  have CRU := Lib.hid (fun (L : List Int) (hL : tilingB W T bs L = true) (g : Nat) (z : World) (R : Rd z A (bs.map .bool)) (D : Rd z (some ⟨g, 0, none⟩) (L.map (.int .i64))) (Q : RdP z P ps) => run_any W T A P ⟨g, 0, none⟩ c n n m cp bs L ps z R D Q hs hL hn hpv hm (by omega))
  have HLO := Lib.hid (fun (hne : tlsV W T bs ≠ []) => low_hgt hs hne)
  have HRT := Lib.hid (fun (L : List Int) (hL : tilingB W T bs L = true) => show (runL W T L (psN ps)).length = n from by rw [(tiling_til (run_til hs (psN ps) L hL)).2.1]; exact hn)
  have n36 : n ≤ 36 := by
    obtain ⟨⟨w1, w6⟩, ⟨t1, t6⟩, hlen, -⟩ := validB_iff.1 (simp_iff.1 hs).1
    have := (mul_bd w1 w6 t1 t6).2
    omega
  have HMB := Lib.hid (show decide (runL W T (lowT W T bs) (psN ps) = runL W T (highT W T bs) (psN ps)) = meetB W T bs ps from rfl)
  have HLW := Lib.hid (show runL W T (lowT W T bs) (psN ps) = runLow W T bs ps from rfl)
  have HS := Lib.hid hs
  have hwl := X0.lt
  obtain ⟨x0, x1, x2⟩ := id X0
  clear hpv hr hp hs
  go_enter Tryz.func26, Tryz.ntmps26
  go_wp2_with fail
  generalize w.alloc (.cells #[.int .i64 W, .int .i64 T, .slice A n c] 25) = u at *
  refine CL.out.mono ?_
  rintro e w2 (⟨⟨-, hne⟩, g2, rfl, W2, hg2, hgs2, b2⟩ | ⟨hno, rfl, b2⟩)
  · have X2 := X0.belo b2
    have R2 := r0.belo b2
    have P2 := p0.belo b2
    have B2 := bl_go B0 b2
    have D2 := W2.rd
    obtain ⟨hl1, hl2, -⟩ := HLO.out hne
    have HNE := Lib.hid hne
    clear x0 x1 x2 X0 r0 p0 CL W2 HLO hne
    obtain ⟨x0, x1, x2⟩ := id X2
    go_wp2_with fail
    refine (CH.out _ R2).mono ?_
    rintro e w3 (⟨-, g3, rfl, W3, hg3, hgs3, b3⟩ | ⟨hno, rfl, b3⟩)
    · have X3 := X2.belo b3
      have R3 := R2.belo b3
      have P3 := P2.belo b3
      have B3 := bl_go B2 b3
      have D3 := D2.belo b3
      have E3 := W3.rd
      have C1 := Lib.hid (fun (z : World) (Z : Below w3.heap.size w3 z) => CRU.out _ hl1 g2 z (R3.belo Z) (D3.belo Z) (P3.belo Z))
      have C2 := Lib.hid (fun (z : World) (Z : Below w3.heap.size w3 z) => CRU.out _ hl2 g3 z (R3.belo Z) (E3.belo Z) (P3.belo Z))
      have L1 := HRT.out _ hl1
      have L2 := HRT.out _ hl2
      have KS := Lib.hid (fun (z : World) (Z : Below w3.heap.size w3 z) => show z.cell? ⟨w.heap.size, 0, none⟩ = some (.int .i64 W) ∧ z.cell? ⟨w.heap.size, 1, none⟩ = some (.int .i64 T) ∧ z.cell? ⟨w.heap.size, 2, none⟩ = some (.slice A n c) from X3.belo Z)
      have Z0 : Below w3.heap.size w3 w3.drew := (Below.refl _ _).drew
      have HS0 := KS.out _ (Below.refl _ _)
      clear x0 x1 x2 X2 R2 P2 D2 CH CRU W3 HRT D3 E3 R3 P3
      obtain ⟨x0, x1, x2⟩ := id X3
      go_upto_region 5 with fail
      go_region_held3 (fun w' => w'.cell? ⟨w.heap.size, 0, none⟩ = some (.int .i64 W) ∧ w'.cell? ⟨w.heap.size, 1, none⟩ = some (.int .i64 T) ∧ w'.cell? ⟨w.heap.size, 2, none⟩ = some (.slice A n c))
        (first | (with_reducible exact KS.out _ Z5) | (with_reducible exact KS.out _ Z4) | (with_reducible exact KS.out _ Z0) | (with_reducible exact HS0) | go_keep)
        ((go_at_call 38; first
          | ((with_reducible refine (C1.out _ Z0).mono ?_); rintro e w4 ⟨g4, rfl, W4, hg4, hgs4, b4⟩; have Z4 := Z0.trans (b4.mono Z0.size))
          | ((with_reducible refine (C2.out _ Z4).mono ?_); rintro e w5 ⟨g5, rfl, W5, hg5, hgs5, b5⟩; have Z5 := Z4.trans (b5.mono Z4.size))))
      have A5 := W4.belo b5
      have BF := bl_go B3 Z5
      have h54 := b5.size
      have h43 := Z4.size
      have h3w := B3.size
      have CE := Lib.hid (equalI_any (some ⟨g4, 0, none⟩) (some ⟨g5, 0, none⟩) n n n _ _ w5 A5.rd W5.rd (by omega) L1 L2)
      rw [HMB.out] at CE
      have hg4w : w.heap.size ≤ g4 := by
        have hg4' : w3.heap.size ≤ g4 := hg4
        omega
      have A6 := A5.lower (show w.heap.size ≤ w3.drew.heap.size from h3w)
      rw [HLW.out] at A6
      have hg45 : g4 < w5.heap.size := by omega
      clear x0 x1 x2 X3 KS HS0 C1 C2 W4 W5 Z0 Z4 Z5 A5 L1 L2 b4 b5 hg4
      go_wp2_with fail
      refine CE.out.mono ?_
      rintro e w6 ⟨rfl, q, rfl⟩
      have HRES := Lib.hid (show CouP W T bs n ps w (.returned (.tuple #[.slice (some ⟨g4, 0, none⟩) n n, .bool (meetB W T bs ps)])) (w5.drewN q) from .inl ⟨HNE.out, g4, rfl, A6.belo (below_drewN' (Below.refl _ _) q), hg4w, hg45, below_drewN' BF q⟩)
      go_wp2_with fail
      go_ret2
      exact HRES.out
    · exact absurd ⟨HS.out, HNE.out⟩ hno
  · have he : tlsV W T bs = [] := Classical.byContradiction fun h => hno ⟨HS.out, h⟩
    have HE := Lib.hid he
    have X2 := X0.belo b2
    have R2 := r0.belo b2
    have B2 := bl_go B0 b2
    clear x0 x1 x2 X0 r0 p0 CL HLO hno he
    obtain ⟨x0, x1, x2⟩ := id X2
    go_wp2_with fail
    refine (CH.out _ R2).mono ?_
    rintro e w3 (⟨⟨-, h⟩, -⟩ | ⟨-, rfl, b3⟩)
    · exact absurd HE.out h
    · have HRES := Lib.hid (show CouP W T bs n ps w (.returned (.tuple #[.slice none 0 0, .bool false])) w3 from .inr ⟨HE.out, rfl, bl_go B2 b3⟩)
      clear x0 x1 x2
      go_wp2_with fail
      go_ret2
      exact HRES.out
end Go.Proofs.YtafmpgikdhlknaaGreat

/- Contracts: the program's Coupled and FromPast. -/
namespace Go.Proofs.YtafmpgikdhlknaaGreat
open Go.RowKit

/-- what FromPast returns -/
def FpP (n : Nat) (V : List Int × Int × Bool) (w : World) (e : Ending) (w' : World) : Prop :=
  Below w.heap.size w w' ∧ ((V.2.2 = true ∧ ∃ g : Nat, e = .returned (.tuple #[.slice (some ⟨g, 0, none⟩) n n, .int .i64 V.2.1, .bool true]) ∧ Wr w' w.heap.size 3 (some ⟨g, 0, none⟩) (V.1.map (.int .i64)) ∧ w.heap.size ≤ g ∧ g < w'.heap.size ∧ V.1.length = n) ∨
    (V = ([], 0, false) ∧ e = .returned (.tuple #[.slice none 0 0, .int .i64 0, .bool false])))
theorem from_no {W T : Int} {bs : List Bool} {ps : List Pu} (h : psvB W T bs ps = false) : fromV W T bs ps = ([], 0, false) := by
  unfold fromV; rw [if_neg (by rw [h]; exact Bool.false_ne_true)]
theorem from_some {W T : Int} {bs : List Bool} {ps : List Pu} (h : psvB W T bs ps = true) {n : Nat} (hn : n ≤ ps.length) (h0 : ∀ j, j < n → coupB W T bs (sufP ps j) = false) (h1 : coupB W T bs (sufP ps n) = true) : fromV W T bs ps = (runLow W T bs (sufP ps n), (n : Int), true) := by
  unfold fromV fromN
  rw [if_pos h, findN_some (q := fun n => coupB W T bs (sufP ps n)) hn h0 h1]
theorem from_none {W T : Int} {bs : List Bool} {ps : List Pu} (h : psvB W T bs ps = true) (h0 : ∀ j, j ≤ ps.length → coupB W T bs (sufP ps j) = false) : fromV W T bs ps = ([], 0, false) := by
  unfold fromV fromN
  rw [if_pos h, findN_none (q := fun n => coupB W T bs (sufP ps n)) h0]
theorem suf_len {ps : List Pu} {n : Nat} (h : n ≤ ps.length) : (sufP ps n).length = n := by unfold sufP; rw [List.length_drop]; omega
/-- the last pushes lie at the end of the list -/
theorem RdP.suf {w : World} {P : Option Addr} {ps : List Pu} {m cp k : Nat} (h : RdP w P ps) (hm : ps.length = m) (hk : k ≤ m) (hc : m ≤ cp) : RdP w (if cp = m - k then P else Option.map (fun x : Addr => x.add ((m - k) * 2)) P) (sufP ps k) := by
  intro hn
  have h0 : 0 < k := by
    rcases Nat.eq_zero_or_pos k with e | e
    · exfalso; apply hn; subst e; unfold sufP; rw [Nat.sub_zero, List.drop_length]; rfl
    · exact e
  rw [if_neg (by omega)]
  obtain ⟨ad, e, hcell⟩ := h (by intro e; have h1 := pushV_len ps; rw [e] at h1; simp at h1; omega)
  subst e
  refine ⟨_, rfl, fun j u hu => ?_⟩
  rw [add_add']
  apply hcell
  have e2 : pushV ps = pushV (ps.take (m - k)) ++ pushV (sufP ps k) := by unfold sufP; rw [hm, ← pushV_append, List.take_append_drop]
  have hl : (pushV (ps.take (m - k))).length = (m - k) * 2 := by rw [pushV_len, List.length_take]; omega
  rw [e2, List.getElem?_append_right (by omega), hl, Nat.add_sub_cancel_left]
  exact hu
theorem CouP.one {W T : Int} {bs : List Bool} {n : Nat} {ps : List Pu} {w w' : World} {e : Ending} (h : CouP W T bs n ps w e w') (hp : psvB W T bs ps = true) :
    ∃ (D : Option Addr) (d c : Nat), e = .returned (.tuple #[.slice D d c, .bool (coupB W T bs ps)]) ∧ Below w.heap.size w w' ∧ (coupB W T bs ps = true → d = n ∧ c = n ∧ ∃ g : Nat, D = some ⟨g, 0, none⟩ ∧ Wr w' w.heap.size 3 (some ⟨g, 0, none⟩) ((runLow W T bs ps).map (.int .i64)) ∧ w.heap.size ≤ g ∧ g < w'.heap.size) := by
  obtain ⟨hb, ⟨h1, g, he, h2⟩ | ⟨h1, D, d, c, he⟩⟩ := h.tell hp
  · exact ⟨_, _, _, by rw [he, h1], hb, fun _ => ⟨rfl, rfl, g, rfl, h2⟩⟩
  · exact ⟨D, d, c, by rw [he, h1], hb, fun h => by rw [h1] at h; cases h⟩
theorem coup_no {W T : Int} {bs : List Bool} {ps : List Pu} (h : psvB W T bs ps = false) : coupB W T bs ps = false := by unfold coupB; rw [h]; rfl
set_option maxRecDepth 100000 in
set_option maxHeartbeats 1000000 in
theorem iCoupled_any (W T : Int) (A P : Option Addr) (c cp n m : Nat) (bs : List Bool) (ps : List Pu) (w : World) (hr : Rd w A (bs.map .bool)) (hp : RdP w P ps) (hn : bs.length = n) (hnm : n ≤ maxLen) (hm : ps.length = m) (hmm : m ≤ maxLen) :
    Calls Tryz.prog 9 #[.agg #[.int .i64 W, .int .i64 T, .slice A n c], .slice P m cp] w fun e w' => e = .returned (.bool (coupB W T bs ps)) ∧ Below w.heap.size w w' := by
  have X0 := C3.new w (.int .i64 W) (.int .i64 T) (.slice A n c) 25
  have B0 := bl_alloc (Below.refl w.heap.size w) (.cells #[.int .i64 W, .int .i64 T, .slice A n c] 25)
  have r0 := hr.belo B0
  have p0 := hp.belo B0
  have CV := Lib.hid (iPushesValid_any W T A P c cp n m bs ps _ r0 p0 hn hnm hm hmm)
  obtain ⟨x0, x1, x2⟩ := id X0
  cases hv : psvB W T bs ps with
  | false =>
    have HF := Lib.hid (coup_no hv)
    rw [hv] at CV
    go_enter Tryz.func9, Tryz.ntmps9
    go_wp2_with fail
    refine CV.out.mono ?_
    rintro e w1 ⟨rfl, b1⟩
    clear x0 x1 x2
    go_wp2_with fail
    go_ret
    exact ⟨ret_b HF.out.symm, bl_go B0 b1⟩
  | true =>
    have CC := Lib.hid (fun (z : World) (R : Rd z A (bs.map .bool)) (Q : RdP z P ps) => coupled_any W T A P c cp n m bs ps z R Q hn hnm hm hv)
    have HT := Lib.hid (fun (z z' : World) (e : Ending) (h : CouP W T bs n ps z e z') => h.tell hv)
    rw [hv] at CV
    go_enter Tryz.func9, Tryz.ntmps9
    go_wp2_with fail
    refine CV.out.mono ?_
    rintro e w1 ⟨rfl, b1⟩
    have X1 := X0.belo b1
    have C1 := Lib.hid (CC.out _ (r0.belo b1) (p0.belo b1))
    clear x0 x1 x2
    obtain ⟨x0, x1, x2⟩ := id X1
    go_wp2_with fail
    refine C1.out.mono ?_
    intro e w2 hc
    obtain ⟨b2, h⟩ := HT.out _ _ _ hc
    have B2 := bl_go (bl_go B0 b1) b2
    clear hc x0 x1 x2 C1 CC
    rcases h with ⟨hb, g, rfl, -⟩ | ⟨hb, D, d, c', rfl⟩
    · have HB := Lib.hid hb
      clear hb
      go_wp2_with fail
      go_ret
      exact ⟨ret_b HB.out.symm, B2⟩
    · have HB := Lib.hid hb
      clear hb
      go_wp2_with fail
      go_ret
      exact ⟨ret_b HB.out.symm, B2⟩
set_option maxRecDepth 100000 in
set_option maxHeartbeats 4000000 in
theorem iFromPast_any (W T : Int) (A P : Option Addr) (c cp n m : Nat) (bs : List Bool) (ps : List Pu) (w : World) (hr : Rd w A (bs.map .bool)) (hp : RdP w P ps) (hn : bs.length = n) (hnm : n ≤ maxLen) (hm : ps.length = m) (hmm : m ≤ maxLen) (hcp : m ≤ cp) :
    Calls Tryz.prog 6 #[.agg #[.int .i64 W, .int .i64 T, .slice A n c], .slice P m cp] w (FpP n (fromV W T bs ps) w) := by
  have X0 := C3.new w (.int .i64 W) (.int .i64 T) (.slice A n c) 25
  have B0 := bl_alloc (Below.refl w.heap.size w) (.cells #[.int .i64 W, .int .i64 T, .slice A n c] 25)
  have r0 := hr.belo B0
  have p0 := hp.belo B0
  have CV := Lib.hid (iPushesValid_any W T A P c cp n m bs ps _ r0 p0 hn hnm hm hmm)
  obtain ⟨x0, x1, x2⟩ := id X0
  cases hv : psvB W T bs ps with
  | false =>
    have HF := Lib.hid (from_no hv)
    rw [hv] at CV
    clear hv
    go_enter Tryz.func6, Tryz.ntmps6
    go_wp2_with fail
    refine CV.out.mono ?_
    rintro e w1 ⟨rfl, b1⟩
    clear x0 x1 x2
    have B1 := bl_go B0 b1
    go_wp2_with fail
    refine bodyPost_ret (v := .tuple #[.slice none 0 0, .int .i64 0, .bool false]) (by simp [results, Tryz.results6, go_sem]) rfl ⟨B1, .inr ⟨HF.out, rfl⟩⟩
  | true =>
    obtain ⟨hs, h128, -⟩ := psv_iff.1 hv
    have CC := Lib.hid (fun (z : World) (k : Nat) (R : Rd z A (bs.map .bool)) (Q : RdP z P ps) (hk : k ≤ m) => coupled_any W T A (if cp = m - k then P else Option.map (fun x : Addr => x.add ((m - k) * 2)) P) c (cp - (m - k)) n (m - (m - k)) bs (sufP ps k) z R (Q.suf hm hk hcp) hn hnm (by rw [suf_len (by omega)]; omega) (psv_suf hv k))
    have HT := Lib.hid (fun (k : Nat) (z z' : World) (e : Ending) (h : CouP W T bs n (sufP ps k) z e z') => h.one (psv_suf hv k))
    have HSOME := Lib.hid (fun (k : Nat) (hk : k ≤ m) (h0 : ∀ j, j < k → coupB W T bs (sufP ps j) = false) (h1 : coupB W T bs (sufP ps k) = true) => from_some hv (by omega) h0 h1)
    have HNONE := Lib.hid (fun (h0 : ∀ j, j ≤ m → coupB W T bs (sufP ps j) = false) => from_none hv (by rw [hm]; exact h0))
    have HRL := Lib.hid (fun (k : Nat) (h : coupB W T bs (sufP ps k) = true) => show (runL W T (lowT W T bs) (psN (sufP ps k))).length = n from by
      rw [(tiling_til (run_til hs (psN (sufP ps k)) _ (low_hgt hs (coup_iff.1 h).2.1).1)).2.1]; exact hn)
    rw [hv] at CV
    have hm128 : m ≤ 128 := by omega
    have hwl := X0.lt
    have HM := Lib.hid hm
    clear hv hs h128 hm
    go_enter Tryz.func6, Tryz.ntmps6
    go_wp2_with fail
    generalize w.alloc (.cells #[.int .i64 W, .int .i64 T, .slice A n c] 25) = u at *
    refine CV.out.mono ?_
    rintro e w1 ⟨rfl, b1⟩
    have X1 := X0.belo b1
    have R1 := r0.belo b1
    have P1 := p0.belo b1
    have B1 := bl_go B0 b1
    clear x0 x1 x2 X0 r0 p0 CV b1 B0
    go_wp2_with fail
    go_loopw [7] (fun i wr => ∃ k : Nat, k ≤ m + 1 ∧ i = .int .i64 k ∧ Hid (∀ j, j < k → coupB W T bs (sufP ps j) = false) ∧ Below w1.heap.size w1 wr) (fun i _ => m + 1 - (intOf i).toNat)
    case atStart => exact ⟨0, Nat.zero_le _, rfl, fun j h => by omega, Below.refl _ _⟩
    case round =>
      obtain ⟨k, hk, rfl, HK, BR⟩ := hrel
      by_cases hlt : k ≤ m
      · obtain ⟨wq, hwq⟩ : ∃ wq : World, wq = wr := ⟨_, rfl⟩
        subst hwq
        have hlI : (k : Int) ≤ (m : Int) := by omega
        have XR := X1.belo BR
        have RR := R1.belo BR
        have PR := P1.belo BR
        have hks : IntKind.i64.wrap ((m : Int) - (k : Int)) = ((m - k : Nat) : Int) := by rw [Int.ofNat_sub hlt]; exact IntWalk.i64_in _ (by omega)
        obtain ⟨x0, x1, x2⟩ := id XR
        go_upto_region 6 with fail
        have Z0 : Below wq.heap.size wq wq.drew := (Below.refl _ _).drew
        have KS := Lib.hid (fun (z : World) (Z : Below wq.heap.size wq z) => show z.cell? ⟨w.heap.size, 0, none⟩ = some (.int .i64 W) ∧ z.cell? ⟨w.heap.size, 1, none⟩ = some (.int .i64 T) ∧ z.cell? ⟨w.heap.size, 2, none⟩ = some (.slice A n c) from XR.belo Z)
        have HS0 := KS.out _ (Below.refl _ _)
        have CK := Lib.hid (CC.out wq.drew k (RR.belo Z0) (PR.belo Z0) hlt)
        have hkI2 : ((m - k : Nat) : Int) ≤ (m : Int) := by omega
        have hkI3 : ((m - k : Nat) : Int) ≤ (cp : Int) := by omega
        by_cases hce : cp = m - k
        · have hz : cp - (m - k) = 0 := by omega
          rw [if_pos hce, hz] at CK
          have hce' : (cp = m - k) = True := eq_true hce
          clear hce
          go_region_held3 (fun w' => w'.cell? ⟨w.heap.size, 0, none⟩ = some (.int .i64 W) ∧ w'.cell? ⟨w.heap.size, 1, none⟩ = some (.int .i64 T) ∧ w'.cell? ⟨w.heap.size, 2, none⟩ = some (.slice A n c))
            (first | (with_reducible exact KS.out _ Z4) | (with_reducible exact KS.out _ Z0) | (with_reducible exact HS0) | go_keep)
            ((go_at_call 26; (with_reducible refine CK.out.mono ?_); intro e w4 hc; obtain ⟨D, d, c', rfl, b4, h4⟩ := HT.out _ _ _ _ hc; have Z4 := bl_go Z0 b4))
          cases hb : coupB W T bs (sufP ps k) with
          | true =>
            obtain ⟨hd, hcc, g, rfl, W4, hg4, hgs4⟩ := h4 hb
            have hd := hd.symm
            have hcc := hcc.symm
            subst hd
            subst hcc
            have HRES := Lib.hid (show FpP n (fromV W T bs ps) w (.returned (.tuple #[.slice (some ⟨g, 0, none⟩) n n, .int .i64 (k : Int), .bool true])) w4 from by
              rw [HSOME.out k hlt HK.out hb]
              have h9 := (bl_go B1 BR).size
              have h8 := Z0.size
              exact ⟨bl_go (bl_go B1 BR) Z4, .inl ⟨rfl, g, rfl, W4.lower (Nat.le_trans h9 h8), Nat.le_trans (Nat.le_trans h9 h8) hg4, hgs4, HRL.out k hb⟩⟩)
            clear x0 x1 x2 HS0 KS CK hb h4
            go_wp2_with fail
            refine bodyPost_ret (v := .tuple #[.slice (some ⟨g, 0, none⟩) n n, .int .i64 (k : Int), .bool true]) (by simp [results, Tryz.results6, go_sem]) rfl HRES.out
          | false =>
            have HB := Lib.hid hb
            clear x0 x1 x2 HS0 KS CK hb h4
            go_wp2_with fail
            go_roundw
            case rel => exact ⟨k + 1, by omega, by go_num, fun j hj => by
              rcases Nat.lt_or_ge j k with h | h
              · exact HK.out j h
              · obtain rfl : j = k := by omega
                exact HB.out, bl_go BR Z4⟩
            case measure => simp [intOf]; omega
        · rw [if_neg hce] at CK
          go_region_held3 (fun w' => w'.cell? ⟨w.heap.size, 0, none⟩ = some (.int .i64 W) ∧ w'.cell? ⟨w.heap.size, 1, none⟩ = some (.int .i64 T) ∧ w'.cell? ⟨w.heap.size, 2, none⟩ = some (.slice A n c))
            (first | (with_reducible exact KS.out _ Z4) | (with_reducible exact KS.out _ Z0) | (with_reducible exact HS0) | go_keep)
            ((go_at_call 26; (with_reducible refine CK.out.mono ?_); intro e w4 hc; obtain ⟨D, d, c', rfl, b4, h4⟩ := HT.out _ _ _ _ hc; have Z4 := bl_go Z0 b4))
          cases hb : coupB W T bs (sufP ps k) with
          | true =>
            obtain ⟨hd, hcc, g, rfl, W4, hg4, hgs4⟩ := h4 hb
            have hd := hd.symm
            have hcc := hcc.symm
            subst hd
            subst hcc
            have HRES := Lib.hid (show FpP n (fromV W T bs ps) w (.returned (.tuple #[.slice (some ⟨g, 0, none⟩) n n, .int .i64 (k : Int), .bool true])) w4 from by
              rw [HSOME.out k hlt HK.out hb]
              have h9 := (bl_go B1 BR).size
              have h8 := Z0.size
              exact ⟨bl_go (bl_go B1 BR) Z4, .inl ⟨rfl, g, rfl, W4.lower (Nat.le_trans h9 h8), Nat.le_trans (Nat.le_trans h9 h8) hg4, hgs4, HRL.out k hb⟩⟩)
            clear x0 x1 x2 HS0 KS CK hb h4
            go_wp2_with fail
            refine bodyPost_ret (v := .tuple #[.slice (some ⟨g, 0, none⟩) n n, .int .i64 (k : Int), .bool true]) (by simp [results, Tryz.results6, go_sem]) rfl HRES.out
          | false =>
            have HB := Lib.hid hb
            clear x0 x1 x2 HS0 KS CK hb h4
            go_wp2_with fail
            go_roundw
            case rel => exact ⟨k + 1, by omega, by go_num, fun j hj => by
              rcases Nat.lt_or_ge j k with h | h
              · exact HK.out j h
              · obtain rfl : j = k := by omega
                exact HB.out, bl_go BR Z4⟩
            case measure => simp [intOf]; omega
      · have HRES := Lib.hid (show FpP n (fromV W T bs ps) w (.returned (.tuple #[.slice none 0 0, .int .i64 0, .bool false])) wr from
          ⟨bl_go B1 BR, .inr ⟨HNONE.out (fun j hj => HK.out j (by omega)), rfl⟩⟩)
        go_wp2_with fail
        refine bodyPost_ret (v := .tuple #[.slice none 0 0, .int .i64 0, .bool false]) (by simp [results, Tryz.results6, go_sem]) rfl HRES.out
end Go.Proofs.YtafmpgikdhlknaaGreat
