/- The walk of the law FnExactPieceForms. -/
import Derived.Test.YtcghbpnhdpmilaaFormJ
import Derived.Test.YtcghbpnhdpmilaaFormU
import Derived.Test.YtcghbpnhdpmilaaMarkSS
namespace Go.Proofs.Ytcghbpnhdpmilaa
open Go.RowKit

set_option maxHeartbeats 4000000 in
theorem fnExactPieceForms_walk {w0 : World} (A : Option Addr) (c : Nat) (ps : List Ce) (hn : ps.length ≤ maxLen) (_hc : ps.length ≤ c) (hr : RdC w0 A ps) :
    Calls Try.prog 6 #[.slice A ps.length c] w0 fun e w' => e = .returned (.bool true) ∧ Below w0.heap.size w0 w' := by
  clear _hc
  by_cases hs : ps.length ≤ 1048576
  · have hs1 : (ps.length : Int) ≤ 1048576 := by omega
    have hXl : (formsV ps).length ≤ 1000 := (by have := formsV_len_le ps; omega)
    have hXt : totR ((formsV ps).map cellsV) ≤ 1000000 := (by have h1 := tot_le 5 (formsV ps) (fun x hx => by have h2 := formsV_each hx; have := (ok_of_pieceB h2.2).1.2; omega); have := formsV_len_le ps; omega)
    obtain ⟨V, hV⟩ : ∃ V, formsV ps = V := ⟨_, rfl⟩
    have cS := fun (w : World) (A : Option Addr) (c : Nat) (R : RdC w A ps) (cap : ps.length ≤ c) => sPieceForms_any A c ps w R hn cap
    have cI := fun (w : World) (A : Option Addr) (c : Nat) (R : RdC w A ps) (cap : ps.length ≤ c) => iPieceForms_any A c ps w R hn cap
    rw [hV] at hXl hXt
    simp only [hV] at cS cI
    clear hV
    have CS := Lib.hid cS
    have CI := Lib.hid cI
    clear cS cI
    have hXm : V.length ≤ maxLen := by unfold maxLen; omega
    obtain ⟨T, hT⟩ : ∃ T, totR (V.map cellsV) = T := ⟨_, rfl⟩
    have HT := Lib.hid hT
    rw [hT] at hXt
    clear hT
    have HVL := Lib.hid (show (V.map cellsV).length = V.length from List.length_map _)
    have hne : ((1 : Int) + (T : Int) != 1 + (T : Int)) = false := by simp
    have hng : ¬ ((1 : Int) + (T : Int) < 0) := by omega
    have Z0 := Below.refl w0.heap.size w0
    go_enter Try.func6, Try.ntmps6
    go_wp2_with fail
    refine (szCellS_t _ _ _ _ _ (by omega) hs1).mono ?_
    rintro e w1 ⟨rfl, rfl⟩
    go_wp2_with fail
    refine (toCellS_any _ _ _ _ hr (by omega)).mono ?_
    rintro e w2 ⟨A2, rfl, o2, b2⟩
    have Z2 := bl_go Z0 b2
    have S2 := OwnC.rd o2
    clear o2 b2 Z0
    go_wp2_with fail
    refine (CS.out _ _ _ S2 (Nat.le_refl _)).mono ?_
    rintro e w3 ⟨b3a, c3, xs3, rfl, -, rd3, hd3, b3⟩
    have Z3 := bl_go Z2 b3
    have P3 := RdSN.ofN rd3 hd3
    have R3 := hr.belo Z3
    clear S2 b3 Z2 rd3 hd3
    go_wp2_with fail
    refine (toCellS_any _ _ _ _ R3 (by omega)).mono ?_
    rintro e w4 ⟨A4, rfl, o4, b4⟩
    have Z4 := bl_go Z3 b4
    obtain ⟨A4', c4', eq4, o4'⟩ := o4
    have eA4 : A4 = A4' := by injection eq4
    have ec4 : ps.length = c4' := by injection eq4
    subst eA4; subst ec4
    clear eq4
    have Q4 := Wr.of_ownC o4'
    have l4 := own_ltS o4'
    have S4 : RdC w4 A4 ps := Q4.rd
    have D4 := b4
    have t4 : w3.heap.size ≤ w4.heap.size := D4.size
    have s3 := Z3.size
    clear b4 o4' Z3 R3
    go_wp2_with fail
    refine (CI.out _ _ _ S4 (Nat.le_refl _)).mono ?_
    rintro e w5 ⟨A5, xs5, rfl, rd5, at5, hd5, fr5, b5⟩
    have Z5 := bl_go Z4 b5
    have Q5 := Q4.belo b5
    have D5 := bl_go D4 b5
    have P5 := P3.belo D5
    have G5 := RowsW.of hd5.1 fr5
    have at5' : ∀ ad, A5 = some ad → w4.heap.size ≤ ad.block := fun ad h => (at5 ad h).1
    clear b5 Q4 D4 Z4 S4 fr5 at5
    go_wp2_with fail
    refine (eqCellSN_t _ _ _ _ V _ (RdSN.ofR rd5 hd5) P5 hXm).mono ?_
    rintro e w6 ⟨rfl, b6⟩
    have Z6 := bl_go Z5 b6
    have Q6 := Q5.belo b6
    have D6 := bl_go D5 b6
    have G6 := G5.belo b6
    have rd6 := rd5.belo b6
    have hd6 := hd5.belo b6
    have R6 := hr.belo Z6
    clear b6 Q5 P5 G5 Z5 D5 rd5 hd5
    go_wp2_with fail
    refine (toCellS_any _ _ _ _ R6 (by omega)).mono ?_
    rintro e w7 ⟨A7, rfl, o7, b7⟩
    have S7 := OwnC.rd o7
    have T7 : RdC w7 A4 ps := Q6.rd.belo b7
    have Q7 := Q6.belo b7
    have D7 := bl_go D6 b7
    have G7 := G6.belo b7
    have rd7 := rd6.belo b7
    have hd7 := hd6.belo b7
    have Z7 := bl_go Z6 b7
    clear o7 b7 Z6 Q6 D6 G6 R6 rd6 hd6
    go_wp2_with fail
    refine (eqCellS_t _ _ _ _ _ _ T7 S7 hn).mono ?_
    rintro e w8 ⟨rfl, b8⟩
    have Q8 := Q7.belo b8
    have D8 := bl_go D7 b8
    have G8 := G7.belo b8
    have rd8 := rd7.belo b8
    have hd8 := hd7.belo b8
    have Z8 := bl_go Z7 b8
    clear b8 Z7 Q7 D7 G7 S7 T7 rd7 hd7
    have hcl := cellsV_len ps
    go_wp2_with fail
    refine (markCellS_any _ _ _ _ _ _ _ Q8 hcl (by omega) (by omega) (by omega)).mono ?_
    rintro e w9 ⟨rfl, _, m9⟩
    have Z9 := marked_below Z8 m9 Q8 s3 Z8.size
    have D9 := marked_below D8 m9 Q8 (Nat.le_refl _) D8.size
    have G9 := G8.elder m9 (fun ad h => by have := l4 ad h; omega)
    have rd9 : Rd w9 A5 xs5 := rd8.grownBelow m9 (fun _ ad h e => by
      have h1 := at5' ad h
      cases hA4 : A4 with
      | none => rw [hA4] at e; cases e
      | some a4 =>
        rw [hA4] at e
        have h2 := l4 a4 hA4
        have e2 : ad.block = a4.block := Option.some.inj e
        omega)
    have hd9 : HeadsR w9 xs5 V := ⟨hd8.1, fun k hk => by
      obtain ⟨B, c', e1, e2, e3, e4⟩ := hd8.2 k hk
      obtain ⟨gk, nk, a1, -, a3, -⟩ := G9.2 k (by simpa using hk)
      rw [e1] at a1
      injection a1 with a1
      injection a1 with f1 f2 f3
      subst f1
      rw [List.getElem_map] at a3
      exact ⟨_, c', e1, e2, e3, a3.rd⟩⟩
    have P9 := P3.belo D9
    clear Z8 G8 D8 Q8 m9 hcl rd8 hd8
    go_wp2_with fail
    refine (eqCellSN_t _ _ _ _ V _ (RdSN.ofR rd9 hd9) P9 hXm).mono ?_
    rintro e w10 ⟨rfl, b10⟩
    have Z10 := bl_go Z9 b10
    have D10 := bl_go D9 b10
    have G10 := G9.belo b10
    have rd10 := rd9.belo b10
    clear Z9 D9 P9 G9 b10 rd9 hd9
    go_wp2_with fail
    refine (markCellSS_any _ V.length _ _ _ 1 _ _ G10 rd10 HVL.out (by rw [HT.out]; omega) (by omega) (by omega) (by omega)).mono ?_
    rintro e w11 ⟨rfl, G11, rd11, ab11, sz11⟩
    rw [HT.out]
    have Z11 := ab11 _ _ (Nat.le_trans s3 t4) Z10.size Z10
    have D11 := ab11 _ _ t4 D10.size D10
    have P11 := P3.belo D11
    clear Z10 D10 G10 rd10 ab11 sz11
    go_wp2_with fail
    refine (heldCellSS_any _ V.length _ _ _ 1 _ _ G11 rd11 HVL.out (by rw [HT.out]; omega) (by omega) (by omega) (by omega)).mono ?_
    rintro e w' ⟨rfl, rfl⟩
    rw [HT.out]
    have R11 := hr.belo Z11
    go_wp2_with fail
    refine (toCellS_any _ _ _ _ R11 (by omega)).mono ?_
    rintro e w12 ⟨A12, rfl, o12, b12⟩
    have B12 := bl_go Z11 b12
    have P12 := P11.belo b12
    have G12 := G11.belo b12
    have rd12 := rd11.belo b12
    go_wp2_with fail
    refine (CI.out _ _ _ (OwnC.rd o12) (Nat.le_refl _)).mono ?_
    rintro e w13 ⟨A13, xs13, rfl, rd13, -, hd13, -, b13⟩
    have B13 := bl_go B12 b13
    go_wp2_with fail
    refine (eqCellSN_t _ _ _ _ V _ (RdSN.ofR rd13 hd13) (P12.belo b13) hXm).mono ?_
    rintro e w14 ⟨rfl, b14⟩
    have B14 := bl_go B13 b14
    have G14 := (G12.belo b13).belo b14
    have rd14 := (rd12.belo b13).belo b14
    go_wp2_with fail
    refine (heldCellSS_any _ V.length _ _ _ 1 _ _ G14 rd14 HVL.out (by rw [HT.out]; omega) (by omega) (by omega) (by omega)).mono ?_
    rintro e w' ⟨rfl, rfl⟩
    rw [HT.out]
    go_wp2
    go_ret
    exact ⟨rfl, B14⟩
  · have hs1 : (1048576 : Int) < ps.length := by omega
    go_enter Try.func6, Try.ntmps6
    go_wp2_with fail
    refine (szCellS_f _ _ _ _ _ (by omega) hn hs1).mono ?_
    rintro e w1 ⟨rfl, rfl⟩
    go_wp2
    go_ret
    exact ⟨rfl, Below.refl _ _⟩
end Go.Proofs.Ytcghbpnhdpmilaa
