/- Contracts: LackMost and LackSet, of the program and of the reference. -/
import Derived.Test.YtadejjpcdpmpkaaLackI
import Derived.Test.YtadejjpcdpmpkaaAscend
namespace Go.Proofs.Ytadejjpcdpmpkaa
open Go.RowKit

def lackOk (W T : Int) (bs : List Bool) : Bool := validB W T bs && decide ((darkL W bs true).length ≤ 12)
def lackMostV (W T : Int) (bs : List Bool) : Int := if lackOk W T bs = true then (bestTo W T bs (darkL W bs true) (2 ^ (darkL W bs true).length)).2 else -1
def lackSetV (W T : Int) (bs : List Bool) : List Int := if lackOk W T bs = true then selTo (darkL W bs true) (bestTo W T bs (darkL W bs true) (2 ^ (darkL W bs true).length)).1 (darkL W bs true).length else []
theorem bit_rem (s k : Nat) : (((s : Int) / 2 ^ k).tmod 2 == 1) = s.testBit k := by
  rw [shr_nat, Int.tmod_eq_emod_of_nonneg (Int.natCast_nonneg _), Nat.testBit_eq_decide_div_mod_eq]
  rcases Nat.mod_two_eq_zero_or_one (s / 2 ^ k) with e | e
  · rw [e]
    have : ((s / 2 ^ k : Nat) : Int) % 2 = 0 := by omega
    rw [this]; rfl
  · rw [e]
    have : ((s / 2 ^ k : Nat) : Int) % 2 = 1 := by omega
    rw [this]; rfl
set_option maxHeartbeats 1000000 in
theorem lackable_any (W T : Int) (A : Option Addr) (c : Nat) (bs : List Bool) (w : World) (hr : Rd w A (bs.map .bool)) (hn : bs.length ≤ maxLen) :
    Calls Try.prog 41 #[.agg #[.int .i64 W, .int .i64 T, .slice A bs.length c]] w fun e w' => e = .returned (.bool (lackOk W T bs)) ∧ Below w.heap.size w w' := by
  have X0 := C3.new w (.int .i64 W) (.int .i64 T) (.slice A bs.length c) 25
  cases hv : validB W T bs with
  | true =>
    obtain ⟨h1, h2, h3, h4, h5, -⟩ := valid_len hv
    rw [show lackOk W T bs = decide (cntTo (inCol W 2 0 bs) bs.length ≤ 12) by unfold lackOk; rw [hv, Bool.true_and, ← darkL_len]; congr 1; apply propext; omega]
    have HV := Lib.hid hv
    clear hv
    go_enter Try.func41, Try.ntmps41
    go_wp2_with (first
      | (go_at_call 48; refine (iRegionValid_any _ _ _ _ _ _ (hr.alloc _) hn).mono ?_; rintro e w1 ⟨rfl, b1⟩; rw [HV.out]; have B1 := bl_go (bl_alloc (Below.refl w.heap.size w) _) b1; obtain ⟨x0, x1, x2⟩ := X0.belo b1)
      | (go_at_call 72; refine (darks_any _ _ _ _ _ _ (hr.belo B1) h1 h2 h5).mono ?_; rintro e w2 ⟨rfl, b2⟩))
    go_ret
    exact ⟨rfl, bl_go B1 b2⟩
  | false =>
    rw [show lackOk W T bs = false by unfold lackOk; rw [hv]; rfl]
    have HV := Lib.hid hv
    clear hv
    go_enter Try.func41, Try.ntmps41
    go_wp2_with (go_at_call 48; refine (iRegionValid_any _ _ _ _ _ _ (hr.alloc _) hn).mono ?_; rintro e w1 ⟨rfl, b1⟩; rw [HV.out]; have B1 := bl_go (bl_alloc (Below.refl w.heap.size w) _) b1)
    go_ret
    exact ⟨rfl, B1⟩
theorem lackOk_t {W T : Int} {bs : List Bool} (h : lackOk W T bs = true) : validB W T bs = true ∧ (darkL W bs true).length ≤ 12 := by
  unfold lackOk at h
  rw [Bool.and_eq_true, decide_eq_true_eq] at h
  exact h
set_option maxHeartbeats 1000000 in
theorem iLackMost_any (W T : Int) (A : Option Addr) (c : Nat) (bs : List Bool) (w : World) (hr : Rd w A (bs.map .bool)) (hn : bs.length ≤ maxLen) :
    Calls Try.prog 13 #[.agg #[.int .i64 W, .int .i64 T, .slice A bs.length c]] w fun e w' => e = .returned (.int .i64 (lackMostV W T bs)) ∧ Below w.heap.size w w' := by
  have X0 := C3.new w (.int .i64 W) (.int .i64 T) (.slice A bs.length c) 25
  cases hk : lackOk W T bs with
  | true =>
    obtain ⟨hv, hd⟩ := lackOk_t hk
    obtain ⟨h1, h2, h3, h4, h5, h6⟩ := valid_len hv
    have HR := Lib.hid (show lackMostV W T bs = (bestTo W T bs (darkL W bs true) (2 ^ (darkL W bs true).length)).2 by unfold lackMostV; rw [if_pos hk])
    have HV := Lib.hid hk
    have HL := Lib.hid h6
    have HD := Lib.hid hd
    clear hv hk h6 hd
    go_enter Try.func13, Try.ntmps13
    go_wp2_with fail
    refine (lackable_any _ _ _ _ _ _ (hr.alloc _) hn).mono ?_
    rintro e w1 ⟨rfl, b1⟩
    rw [HV.out]
    have B1 := bl_go (bl_alloc (Below.refl w.heap.size w) _) b1
    obtain ⟨x0, x1, x2⟩ := X0.belo b1
    go_wp2_with fail
    refine (lack_any _ _ _ _ _ _ (hr.belo B1) h1 h2 h3 h4 HL.out h5 HD.out).mono ?_
    rintro e w2 ⟨A2, L, rfl, -, -, b2⟩
    rw [← HR.out]
    go_wp2
    go_ret
    exact ⟨rfl, bl_go B1 b2⟩
  | false =>
    rw [show lackMostV W T bs = -1 by unfold lackMostV; rw [hk]; rfl]
    have HV := Lib.hid hk
    clear hk
    go_enter Try.func13, Try.ntmps13
    go_wp2_with fail
    refine (lackable_any _ _ _ _ _ _ (hr.alloc _) hn).mono ?_
    rintro e w1 ⟨rfl, b1⟩
    rw [HV.out]
    have B1 := bl_go (bl_alloc (Below.refl w.heap.size w) _) b1
    go_wp2
    go_ret
    exact ⟨rfl, B1⟩
set_option maxHeartbeats 1000000 in
theorem iLackSet_any (W T : Int) (A : Option Addr) (c : Nat) (bs : List Bool) (w : World) (hr : Rd w A (bs.map .bool)) (hn : bs.length ≤ maxLen) :
    Calls Try.prog 10 #[.agg #[.int .i64 W, .int .i64 T, .slice A bs.length c]] w (NewW (lackSetV W T bs) w) := by
  have X0 := C3.new w (.int .i64 W) (.int .i64 T) (.slice A bs.length c) 25
  cases hk : lackOk W T bs with
  | true =>
    obtain ⟨hv, hd⟩ := lackOk_t hk
    obtain ⟨h1, h2, h3, h4, h5, h6⟩ := valid_len hv
    have HR := Lib.hid (show lackSetV W T bs = selTo (darkL W bs true) (bestTo W T bs (darkL W bs true) (2 ^ (darkL W bs true).length)).1 (darkL W bs true).length by unfold lackSetV; rw [if_pos hk])
    have HV := Lib.hid hk
    have HL := Lib.hid h6
    have HD := Lib.hid hd
    clear hv hk h6 hd
    go_enter Try.func10, Try.ntmps10
    go_wp2_with fail
    refine (lackable_any _ _ _ _ _ _ (hr.alloc _) hn).mono ?_
    rintro e w1 ⟨rfl, b1⟩
    rw [HV.out]
    have B1 := bl_go (bl_alloc (Below.refl w.heap.size w) _) b1
    obtain ⟨x0, x1, x2⟩ := X0.belo b1
    go_wp2_with fail
    refine (lack_any _ _ _ _ _ _ (hr.belo B1) h1 h2 h3 h4 HL.out h5 HD.out).mono ?_
    rintro e w2 ⟨A2, L, rfl, hL, hw, b2⟩
    rw [← HR.out] at hL
    have HE := Lib.hid hL
    clear hL
    go_wp2
    go_ret
    rw [← HE.out]
    exact ⟨A2, rfl, hw.lower B1.size, bl_go B1 b2⟩
  | false =>
    rw [show lackSetV W T bs = [] by unfold lackSetV; rw [hk]; rfl]
    have HV := Lib.hid hk
    clear hk
    go_enter Try.func10, Try.ntmps10
    go_wp2_with fail
    refine (lackable_any _ _ _ _ _ _ (hr.alloc _) hn).mono ?_
    rintro e w1 ⟨rfl, b1⟩
    rw [HV.out]
    have B1 := bl_go (bl_alloc (Below.refl w.heap.size w) _) b1
    go_wp2
    go_ret
    exact ⟨none, rfl, Wr.none_ _ _ _, B1⟩
set_option maxRecDepth 100000 in
set_option maxHeartbeats 2000000 in
theorem l7Lack_any (W T : Int) (A A2 : Option Addr) (c c2 : Nat) (bs : List Bool) (D : List Int) (s : Nat) (w : World) (hr : Rd w A (bs.map .bool)) (hD : Rd w A2 (D.map (.int .i64))) (hv : validB W T bs = true) (hd : D.length ≤ 36) :
    Calls Try.prog 45 #[.agg #[.int .i64 W, .int .i64 T, .slice A bs.length c], .slice A2 D.length c2, .int .i64 (s : Int)] w fun e w' => e = .returned (.int .i64 (lackZ W T bs D s)) ∧ Below w.heap.size w w' := by
  obtain ⟨h1, h2, h3, h4, h5, h6⟩ := valid_len hv
  have HB := Lib.hid (fun l => show besV W T bs l = besL W T bs l by unfold besV; rw [if_pos hv])
  clear hv h6 h1 h2 h3 h4
  have X0 := (C3.new w (.int .i64 W) (.int .i64 T) (.slice A bs.length c) 25).alloc (.cells #[] 3)
  have O0 : OwnI ((w.alloc (.cells #[.int .i64 W, .int .i64 T, .slice A bs.length c] 25)).alloc (.cells #[] 3)) (w.heap.size + 1) (.slice (some ⟨w.heap.size + 1, 0, none⟩) 0 0) [] := by
    have := OwnI.empty (w.alloc (.cells #[.int .i64 W, .int .i64 T, .slice A bs.length c] 25))
    simpa using this
  have B0 := bl_alloc (bl_alloc (Below.refl w.heap.size w) (.cells #[.int .i64 W, .int .i64 T, .slice A bs.length c] 25)) (.cells #[] 3)
  go_enter Try.func45, Try.ntmps45
  go_wp2_with fail
  go_loopw [7, 8] (fun v i wr => ∃ (k : Nat) (L : List Int), Hid (L = selTo D s k) ∧ k ≤ D.length ∧ i = .int .i64 k ∧ OwnI wr (w.heap.size + 1) v L ∧ Below w.heap.size w wr ∧ C3 wr w.heap.size (.int .i64 W) (.int .i64 T) (.slice A bs.length c) ∧ w.heap.size + 1 ≤ wr.heap.size) (fun _ i _ => D.length - (intOf i).toNat)
  case atStart => exact ⟨0, [], rfl, Nat.zero_le _, rfl, O0, B0, X0, by simp⟩
  case round =>
    clear X0 O0 B0
    obtain ⟨k, L, HA, hk, rfl, hown, B1, X1, hsz⟩ := hrel
    have hLk : L.length ≤ 36 := by rw [HA.out, sel_len]; have := bits_bd k s; omega
    by_cases hlt : k < D.length
    · obtain ⟨ad, rfl, hc0⟩ := (hD.belo B1).atM hlt
      have HBT := bit_rem s k
      obtain ⟨q, hq⟩ : ∃ q, D[k] = q := ⟨_, rfl⟩
      have hgd : D.getD k 0 = q := by rw [List.getD_eq_getElem?_getD, List.getElem?_eq_getElem hlt, hq]; rfl
      have hkI : (k : Int) < (D.length : Int) := by omega
      rw [hq] at hc0
      clear hq
      obtain ⟨A3, c3, rfl, hw3⟩ := id hown
      clear hw3
      cases hb : s.testBit k with
      | true =>
        rw [hb] at HBT
        have HS := Lib.hid (sel_t (D := D) hb)
        have HG := Lib.hid hgd
        clear hb hgd
        go_wp2_with (at_builtin; refine app_int _ rfl _ _ rfl (w.heap.size + 1) _ _ rfl hown _ rfl (by omega) (by omega) ?_; intro A' c' w4 hown4 hg4)
        have b4 := app_below (Below.refl (w.heap.size + 1) wr) (Nat.le_refl _) (by omega) hown hg4
        go_roundw
        case rel => exact ⟨k + 1, L ++ [q], by show _ = _; rw [HS.out, HA.out, HG.out], by omega, by go_num, by simpa using hown4, B1.trans (b4.mono (by omega)), X1.below b4 (by omega), by have := b4.size; omega⟩
        case measure => simp [intOf]; omega
      | false =>
        rw [hb] at HBT
        have HS := Lib.hid (sel_f (D := D) hb)
        clear hb hgd
        go_wp2_with fail
        go_roundw
        case rel => exact ⟨k + 1, L, by show _ = _; rw [HS.out, HA.out], by omega, by go_num, hown, B1, X1, hsz⟩
        case measure => simp [intOf]; omega
    · obtain rfl : k = D.length := by omega
      obtain ⟨x0, x1, x2⟩ := id X1
      obtain ⟨A3, c3, rfl, hw3⟩ := id hown
      have CB := sCellsBeside_any W T A A3 c c3 bs L wr (hr.belo B1) hown.rd.2 (by unfold maxLen; omega) (by omega)
      rw [HB.out] at CB
      have HLZ := Lib.hid (show lackZ W T bs D s = (L.length : Int) - (besL W T bs L).length by unfold lackZ; rw [HA.out])
      have hbl := besL_len W T bs L
      generalize besL W T bs L = M at CB HLZ hbl
      have CB' := Lib.hid CB
      clear CB hw3
      go_wp2_with fail
      refine CB'.out.mono ?_
      rintro e w2 ⟨A4, c4, rfl, -, b2, -⟩
      go_wp2
      go_ret
      exact ⟨ret_i HLZ.out.symm, bl_go B1 b2⟩
theorem shl_i64 {m : Nat} (h : m ≤ 12) : IntKind.i64.wrap ((2 : Int) ^ m) = ((2 ^ m : Nat) : Int) ∧ 1 ≤ 2 ^ m ∧ 2 ^ m ≤ 4096 := by
  have h1 := Nat.pow_le_pow_right (n := 2) (by omega) h
  have h2 := Nat.pow_pos (n := m) (show 0 < 2 by omega)
  refine ⟨?_, h2, by omega⟩
  rw [show ((2 : Int) ^ m) = ((2 ^ m : Nat) : Int) by rw [Int.natCast_pow]; rfl]
  exact IntWalk.i64_in _ (by omega)
set_option maxRecDepth 100000 in
set_option maxHeartbeats 2000000 in
theorem sLackMost_any (W T : Int) (A : Option Addr) (c : Nat) (bs : List Bool) (w : World) (hr : Rd w A (bs.map .bool)) (hn : bs.length ≤ maxLen) :
    Calls Try.prog 44 #[.agg #[.int .i64 W, .int .i64 T, .slice A bs.length c]] w fun e w' => e = .returned (.int .i64 (lackMostV W T bs)) ∧ Below w.heap.size w w' := by
  have X0 := C3.new w (.int .i64 W) (.int .i64 T) (.slice A bs.length c) 25
  have B0 := bl_alloc (Below.refl w.heap.size w) (.cells #[.int .i64 W, .int .i64 T, .slice A bs.length c] 25)
  have R0 := hr.alloc (.cells #[.int .i64 W, .int .i64 T, .slice A bs.length c] 25)
  have CD := Lib.hid (fun (z : World) (R : Rd z A (bs.map .bool)) => sDarkCells_any W T A c bs z R hn)
  cases hv : validB W T bs with
  | true =>
    obtain ⟨h1, h2, h3, h4, h5, -⟩ := valid_len hv
    rw [show darkV W T bs = darkL W bs true by unfold darkV; rw [if_pos hv]] at CD
    have HV := Lib.hid hv
    have hdl : (darkL W bs true).length ≤ 36 := Nat.le_trans (pick_len _ _) h5
    by_cases hd : (darkL W bs true).length ≤ 12
    · have HR := Lib.hid (show lackMostV W T bs = (bestTo W T bs (darkL W bs true) (2 ^ (darkL W bs true).length)).2 by unfold lackMostV lackOk; rw [hv]; simp [hd])
      clear hv
      generalize darkL W bs true = D at CD hdl hd HR
      obtain ⟨hshl, hp1, hp2⟩ := shl_i64 hd
      generalize 2 ^ D.length = N at hshl hp1 hp2 HR
      have hgt : decide ((12 : Int) < (D.length : Int)) = false := by simp; omega
      go_enter Try.func44, Try.ntmps44
      go_wp2_with fail
      refine (CD.out _ R0).mono ?_
      rintro e w1 ⟨A1, c1, rfl, P1, b1, -⟩
      have R1 := R0.belo b1
      have B1 := bl_go B0 b1
      have X1 := X0.belo b1
      clear R0 B0 X0 b1
      obtain ⟨x0, x1, x2⟩ := id X1
      go_wp2_with (go_at_call 76; refine (sRegionValid_any _ _ _ _ _ _ R1 hn).mono ?_; rintro e w2 ⟨rfl, b2⟩; rw [HV.out])
      have R2 := R1.belo b2
      have B2 := bl_go B1 b2
      have X2 := X1.belo b2
      have P2 := P1.belo b2
      clear R1 B1 X1 P1 b2 x0 x1 x2
      go_loopw [4, 5] (fun be i wr => ∃ s : Nat, s ≤ N ∧ i = .int .i64 s ∧ be = .int .i64 (bestTo W T bs D s).2 ∧ Rd wr A (bs.map .bool) ∧ Rd wr A1 (D.map (.int .i64)) ∧ Below w.heap.size w wr ∧ C3 wr w.heap.size (.int .i64 W) (.int .i64 T) (.slice A bs.length c)) (fun _ i _ => N - (intOf i).toNat)
      case atStart => exact ⟨0, Nat.zero_le _, rfl, rfl, R2, P2, B2, X2⟩
      case round =>
        clear R2 P2 B2 X2
        obtain ⟨s, hs, rfl, rfl, R2, P2, B2, X2⟩ := hrel
        obtain ⟨x0, x1, x2⟩ := id X2
        by_cases hlt : s < N
        · have hsI : (s : Int) < (N : Int) := by omega
          have CL := Lib.hid (l7Lack_any W T A A1 c c1 bs D s wr R2 P2 HV.out hdl)
          have HM := Lib.hid (best_max W T bs D s)
          go_wp2_with fail
          refine CL.out.mono ?_
          rintro e w3 ⟨rfl, b3⟩
          go_wp2_with fail
          go_roundw
          case rel => exact ⟨s + 1, by omega, by go_num, by rw [HM.out], R2.belo b3, P2.belo b3, bl_go B2 b3, X2.belo b3⟩
          case measure => simp [intOf]; omega
        · obtain rfl : s = N := by omega
          rw [← HR.out]
          go_wp2
          go_ret
          exact ⟨rfl, B2⟩
    · have hgt : decide ((12 : Int) < ((darkL W bs true).length : Int)) = true := by simp; omega
      rw [show lackMostV W T bs = -1 by unfold lackMostV lackOk; simp [hd]]
      clear hv
      generalize darkL W bs true = D at CD hdl hd hgt
      go_enter Try.func44, Try.ntmps44
      go_wp2_with fail
      refine (CD.out _ R0).mono ?_
      rintro e w1 ⟨A1, c1, rfl, P1, b1, -⟩
      have R1 := R0.belo b1
      have B1 := bl_go B0 b1
      have X1 := X0.belo b1
      obtain ⟨x0, x1, x2⟩ := id X1
      go_wp2_with (go_at_call 76; refine (sRegionValid_any _ _ _ _ _ _ R1 hn).mono ?_; rintro e w2 ⟨rfl, b2⟩; rw [HV.out])
      go_ret
      exact ⟨rfl, bl_go B1 b2⟩
  | false =>
    rw [show darkV W T bs = [] by unfold darkV; rw [hv]; rfl] at CD
    rw [show lackMostV W T bs = -1 by unfold lackMostV lackOk; rw [hv]; rfl]
    have HV := Lib.hid hv
    clear hv
    go_enter Try.func44, Try.ntmps44
    go_wp2_with fail
    refine (CD.out _ R0).mono ?_
    rintro e w1 ⟨A1, c1, rfl, P1, b1, -⟩
    have R1 := R0.belo b1
    have B1 := bl_go B0 b1
    have X1 := X0.belo b1
    obtain ⟨x0, x1, x2⟩ := id X1
    go_wp2_with (go_at_call 76; refine (sRegionValid_any _ _ _ _ _ _ R1 hn).mono ?_; rintro e w2 ⟨rfl, b2⟩; rw [HV.out])
    go_ret
    exact ⟨rfl, bl_go B1 b2⟩
end Go.Proofs.Ytadejjpcdpmpkaa
