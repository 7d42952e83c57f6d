/- Contracts: the reference's LaidMany and LaidMost. -/
import Derived.Test.YtnciemnlnijhfaaLaidK
import Derived.Test.YtnciemnlnijhfaaBetS
import Derived.Deep.RegionHeld3
namespace Go.Proofs.Ytnciemnlnijhfaa
open Go.RowKit

theorem make_bool (W : World) (n : Nat) (hn : n ≤ 1000000) : ∃ w' : World, (Instr.makeSlice 23 (.int .i64 n) (.int .i64 n)).run Try.prog W = .ok (.slice (some ⟨W.heap.size, 0, none⟩) n n) w' ∧ Wr w' W.heap.size 4 (some ⟨W.heap.size, 0, none⟩) ((List.replicate n false).map .bool) ∧ Below W.heap.size W w' ∧ W.heap.size < w'.heap.size := by
  obtain ⟨i0, hi, hz0, hz1, hz2⟩ := info_parts Try.infoB
  obtain ⟨w', hrun, r1, r2⟩ := run_make_full (P := Try.prog) W W.heap.size 23 4 i0 (.bool false) 1 Try.underlying23 hi hz0 hz1 .i64 .i64 n (by rw [hz2]; omega) (by unfold maxLen; omega) (Nat.le_refl _)
  refine ⟨w', hrun, ?_, ((Below.refl W.heap.size W).grown r2 (Nat.le_refl _) (fun k hk => by cases hk)), own_lt r1 _ rfl⟩
  have h0 := Wr.of_own r1
  rw [show (Value.bool false).cells = #[.bool false] from rfl, toList_madeCells_one] at h0
  simpa using h0
set_option maxRecDepth 100000 in
set_option maxHeartbeats 2000000 in
theorem sLaidMany_t (W T : Int) (A A' : Option Addr) (c c' n : Nat) (bs : List Bool) (L : List Int) (w : World) (hr : Rd w A (bs.map .bool)) (hr' : Rd w A' (L.map (.int .i64))) (hn : L.length = n) (hb : bs.length = n) (hv : validB W T bs = true) (hl : laysB W T bs L = true) :
    Calls Try.prog 59 #[.agg #[.int .i64 W, .int .i64 T, .slice A n c], .slice A' n c'] w fun e w' => e = .returned (.int .i64 (cntX isE L n)) ∧ Below w.heap.size w w' := by
  have hn36 : n ≤ 36 := by have := (valid_len hv).2.2.2.2.1; omega
  have CL := Lib.hid (fun (z : World) (R : Rd z A (bs.map .bool)) (R2 : Rd z A' (L.map (.int .i64))) => (show Calls Try.prog 115 #[.agg #[.int .i64 W, .int .i64 T, .slice A n c], .slice A' n c'] z fun e w' => e = .returned (.bool true) ∧ Below z.heap.size z w' by
    have h := sLaidOk_any W T A A' c c' bs L z R R2 (by unfold maxLen; omega) (by unfold maxLen; omega)
    rw [hn, hb, show laidOkB W T bs L = true by unfold laidOkB; rw [hv, hl]; rfl] at h
    exact h))
  have R0 := hr.alloc (.cells #[.int .i64 W, .int .i64 T, .slice A n c] 25)
  have L0 := hr'.alloc (.cells #[.int .i64 W, .int .i64 T, .slice A n c] 25)
  have B0 := bl_alloc (Below.refl w.heap.size w) (.cells #[.int .i64 W, .int .i64 T, .slice A n c] 25)
  have HN := Lib.hid hn
  clear hv hl hb hr hr' hn
  go_enter Try.func59, Try.ntmps59
  go_wp2_with fail
  refine (CL.out _ R0 L0).mono ?_
  rintro e w1 ⟨rfl, b1⟩
  have L1 := L0.belo b1
  have B1 := bl_go B0 b1
  clear R0 L0 B0 b1 CL
  go_wp2_with fail
  go_loop [5, 6] (fun s i => ∃ k : Nat, k ≤ n ∧ i = .int .i64 k ∧ s = .int .i64 (cntX isE L k)) (fun _ i => n - (intOf i).toNat)
  case atStart => exact ⟨0, Nat.zero_le _, rfl, rfl⟩
  case round =>
    obtain ⟨k, hk, rfl, rfl⟩ := hrel
    have hcb : cntX isE L k ≤ k := by unfold cntX; exact Nat.le_trans List.countP_le_length (by simp)
    by_cases hlt : k < n
    · have hkI : (k : Int) < (n : Int) := by omega
      have hkL : k < L.length := by rw [HN.out]; exact hlt
      obtain ⟨ba, oa, rfl, hc⟩ := L1.atEM hkL
      have hS := cntX_succ isE L k
      rw [show L.getD k 0 = L[k] by rw [List.getD_eq_getElem?_getD, List.getElem?_eq_getElem hkL]; rfl] at hS
      generalize L[k] = v at hc hS
      have HS := Lib.hid hS
      clear hS
      generalize cntX isE L k = q at *
      by_cases h1 : v = 1
      · subst h1
        have HT := Lib.hid (show cntX isE L (k + 1) = q + 1 by rw [HS.out]; rfl)
        go_wp2
        go_round
        case rel => exact ⟨k + 1, by omega, by go_num, by rw [HT.out]; go_num⟩
        case measure => simp [intOf]; omega
      · have h1' : (v == 1) = false := by simpa using h1
        by_cases h2 : v = 2
        · subst h2
          have HT := Lib.hid (show cntX isE L (k + 1) = q + 1 by rw [HS.out]; rfl)
          go_wp2
          go_round
          case rel => exact ⟨k + 1, by omega, by go_num, by rw [HT.out]; go_num⟩
          case measure => simp [intOf]; omega
        · have h2' : (v == 2) = false := by simpa using h2
          have HT := Lib.hid (show cntX isE L (k + 1) = q by rw [HS.out, if_neg (by rw [isE_iff]; omega)]; rfl)
          go_wp2
          go_round
          case rel => exact ⟨k + 1, by omega, by go_num, by rw [HT.out]⟩
          case measure => simp [intOf]; omega
    · obtain rfl : k = n := by omega
      go_wp2
      go_ret
      exact ⟨rfl, B1⟩
set_option maxRecDepth 100000 in
set_option maxHeartbeats 4000000 in
theorem sLaidMost_any (W T : Int) (A : Option Addr) (c : Nat) (bs : List Bool) (w : World) (hr : Rd w A (bs.map .bool)) (hn : bs.length ≤ maxLen) :
    Calls Try.prog 12 #[.agg #[.int .i64 W, .int .i64 T, .slice A bs.length c]] w fun e w' => e = .returned (.int .i64 (laidZ W T bs)) ∧ Below w.heap.size w w' := by
  have X0 := C3.new w (.int .i64 W) (.int .i64 T) (.slice A bs.length c) 25
  have R0 := hr.alloc (.cells #[.int .i64 W, .int .i64 T, .slice A bs.length c] 25)
  have B0 := bl_alloc (Below.refl w.heap.size w) (.cells #[.int .i64 W, .int .i64 T, .slice A bs.length c] 25)
  have cV := fun (z : World) (R : Rd z A (bs.map .bool)) => sRegionValid_any W T A c bs z R hn
  have cB := fun (z : World) (R : Rd z A (bs.map .bool)) => sLaidBare_any W T A c bs z R hn
  have cD := fun (z : World) (R : Rd z A (bs.map .bool)) => sDarkCells_any W T A c bs z R hn
  cases hv : validB W T bs with
  | false =>
    rw [show laidZ W T bs = -1 by unfold laidZ; rw [hv]; rfl]
    have HV := Lib.hid hv
    have CV := Lib.hid cV
    clear hv cB cD cV hr hn
    go_enter Try.func12, Try.ntmps12
    go_wp2_with fail
    refine (CV.out _ R0).mono ?_
    rintro e w1 ⟨rfl, b1⟩
    rw [HV.out]
    go_wp2
    go_ret
    exact ⟨rfl, bl_go B0 b1⟩
  | true =>
    rw [show laidZ W T bs = (laidN W T bs : Int) by unfold laidZ; rw [if_pos hv]]
    obtain ⟨h1, h2, h3, h4, hn36, h6⟩ := valid_len hv
    have hf := fld_of hv
    rw [show bareL W T bs = List.replicate bs.length 0 by unfold bareL; rw [if_pos hv]] at cB
    rw [show darkV W T bs = darkL W bs true by unfold darkV; rw [if_pos hv], darkNn_eq] at cD
    obtain ⟨n, hbn⟩ : ∃ n, bs.length = n := ⟨_, rfl⟩
    have hn1 : 1 ≤ n := by have := (mul_bd h1 h2 h3 h4).1; omega
    rw [hbn] at cV cB cD
    have CV := Lib.hid cV
    have CB := Lib.hid cB
    have CD := Lib.hid cD
    have HV := Lib.hid hv
    have hST := LaidK.start (W := W) (T := T) (bs := bs)
    rw [hbn] at hST
    have HST := Lib.hid hST
    clear hST
    have HFR := Lib.hid (fun (L : List Int) (k : Nat) (h : LaidK W T bs L k) hk => h.free hk)
    have HT := Lib.hid (fun (L : List Int) (k : Nat) (h : LaidK W T bs L k) hk (hr : (bet W T bs (n + 1) L ((darkNn W bs)[k]) (List.replicate n false)).2.2 = true) => by have := LaidK.step_t (f := n + 1) hf h hk (by rw [hbn]; exact hr); rw [hbn] at this; exact this)
    have HF := Lib.hid (fun (L : List Int) (k : Nat) (h : LaidK W T bs L k) hk (hr : (bet W T bs (n + 1) L ((darkNn W bs)[k]) (List.replicate n false)).2.2 = false) => LaidK.step_f hf h hk (by rw [hbn]; exact hr))
    have HDN := Lib.hid (fun (L : List Int) (h : LaidK W T bs L (darkNn W bs).length) => LaidK.done hf h)
    have HLL := Lib.hid (fun (L : List Int) (k : Nat) (h : LaidK W T bs L k) => h.lay.len.trans hbn)
    have HLY := Lib.hid (fun (L : List Int) (k : Nat) (h : LaidK W T bs L k) => h.lay.lays)
    have HDM := Lib.hid (fun d (h : d ∈ darkNn W bs) => (darkNn_mem.1 h).1)
    have HDl : (darkNn W bs).length ≤ 36 := by
      unfold darkNn
      exact Nat.le_trans (List.length_filter_le _ _) (by simpa using hn36)
    have CT := Lib.hid (fun (L : List Int) (dk : Nat) (D : Option Addr) (cL sb : Nat) (z : World) (R : Rd z A (bs.map .bool)) (hA : ∀ ad, A = some ad → ad.block ≠ sb) (RL : Rd z D (L.map (.int .i64))) (hD : ∀ ad, D = some ad → ad.block ≠ sb) (Ws : Wr z sb 4 (some ⟨sb, 0, none⟩) ((List.replicate n false).map .bool)) (fr : Free W T bs L dk) =>
      l7Better_any hf hbn (by omega) A c (n + 1) L dk (List.replicate n false) D cL n sb z R hA RL hD Ws fr (by simp) (by rw [unseen_rep]; omega))
    have CM := Lib.hid (fun (L : List Int) (D : Option Addr) (cL : Nat) (z : World) (R : Rd z A (bs.map .bool)) (RL : Rd z D (L.map (.int .i64))) (hl : L.length = n) (hy : laysB W T bs L = true) => sLaidMany_t W T A D c cL n bs L z R RL hl hbn hv hy)
    have HLT := Lib.hid (fun ad (ha : A = some ad) => hr.lt ha (by intro e; rw [List.map_eq_nil_iff] at e; rw [e] at hbn; simp at hbn; omega))
    have HBN := Lib.hid hbn
    have HN36 := Lib.hid (show n ≤ 36 by omega)
    have HRS := Lib.hid hr
    rw [hbn] at X0 R0 B0 HDN ⊢
    clear hv cB cD cV hr hn hf h6
    generalize hDD : darkNn W bs = DD at *
    clear hDD hbn
    go_enter Try.func12, Try.ntmps12
    go_wp2_with fail
    refine (CV.out _ R0).mono ?_
    rintro e w1 ⟨rfl, b1⟩
    rw [HV.out]
    have R1 := R0.belo b1
    have X1 := X0.belo b1
    have B1 := bl_go B0 b1
    obtain ⟨x0, x1, x2⟩ := id X1
    clear R0 X0 B0 b1 CV
    go_wp2_with fail
    refine (CB.out _ R1).mono ?_
    rintro e w2 ⟨D2, c2, rfl, L2, b2, f2⟩
    simp only [List.length_replicate]
    have R2 := R1.belo b2
    have X2 := X1.belo b2
    have B2 := bl_go B1 b2
    clear R1 X1 B1 b2 CB f2 x0 x1 x2
    obtain ⟨x0, x1, x2⟩ := id X2
    go_wp2_with fail
    refine (CD.out _ R2).mono ?_
    rintro e w3 ⟨A3, c3, rfl, D3, b3, f3⟩
    simp only [List.length_map]
    have R3 := R2.belo b3
    have X3 := X2.belo b3
    have B3 := bl_go B2 b3
    have L3 := L2.belo b3
    clear R2 X2 B2 b3 CD f3 x0 x1 x2 L2
    go_wp2_with fail
    go_loopw [3, 5] (fun v3 i wr => ∃ (k : Nat) (L : List Int) (D : Option Addr) (cL : Nat), k ≤ DD.length ∧ i = .int .i64 k ∧ v3 = .slice D n cL ∧ LaidK W T bs L k ∧ Rd wr D (L.map (.int .i64)) ∧ Below w.heap.size w wr ∧ Below w3.heap.size w3 wr) (fun _ i _ => DD.length - (intOf i).toNat)
    case atStart => exact ⟨0, _, _, _, Nat.zero_le _, rfl, rfl, HST.out, L3, B3, Below.refl _ _⟩
    case round =>
      clear L3 B3
      obtain ⟨k, L, D, cL, hk, rfl, rfl, HK, RL, B4, Y4⟩ := hrel
      have HKK := Lib.hid HK
      have R4 := R3.belo Y4
      have X4 := X3.belo Y4
      have D4 := D3.belo Y4
      have hLl := HLL.out L k HK
      have HLn := Lib.hid hLl
      have hLne : L.map (Value.int .i64) ≠ [] := by intro e; rw [List.map_eq_nil_iff] at e; rw [e] at hLl; simp at hLl; omega
      have hDlt := fun ad (ha : D = some ad) => RL.lt ha hLne
      have hAlt := fun ad (ha : A = some ad) => Nat.lt_trans (HLT.out ad ha) X4.lt
      clear HK hLl hLne
      obtain ⟨x0, x1, x2⟩ := id X4
      obtain ⟨wo, hwo⟩ : ∃ wo : World, wo = wr := ⟨_, rfl⟩
      subst hwo
      by_cases hlt : k < DD.length
      · have hkI : (k : Int) < (DD.length : Int) := by omega
        obtain ⟨bd, od, rfl, hc⟩ := D4.atEM (k := k) (by simpa using hlt)
        simp only [List.getElem_map] at hc
        have hdm := HDM.out _ (List.getElem_mem hlt)
        have hfr := HFR.out L k HKK.out hlt
        have hT := HT.out L k HKK.out hlt
        have hF := HF.out L k HKK.out hlt
        generalize DD[k] = dk at hc hdm hfr hT hF
        have CT1 := Lib.hid (fun (z : World) (sb : Nat) (R : Rd z A (bs.map .bool)) (hA : ∀ ad, A = some ad → ad.block ≠ sb) (RL : Rd z D (L.map (.int .i64))) (hD : ∀ ad, D = some ad → ad.block ≠ sb) (Ws : Wr z sb 4 (some ⟨sb, 0, none⟩) ((List.replicate n false).map .bool)) => CT.out L dk D cL sb z R hA RL hD Ws hfr)
        generalize bet W T bs (n + 1) L dk (List.replicate n false) = r at hT hF CT1
        have hz1 := World.block_lt_of_cell? wo _ hc
        have KS := Lib.hid (fun (z : World) (hb : Below wo.heap.size wo z) => And.intro (X4.belo hb) (((bcell hb).1 bd (od + k) hz1).trans hc))
        have KR := Lib.hid (fun (z : World) (hb : Below wo.heap.size wo z) => And.intro (R4.belo hb) (RL.belo hb))
        obtain ⟨w5, hrun5, W5', b5, z5⟩ := make_bool wo.drew n (by have := HN36.out; omega)
        have W5 : Wr w5 wo.heap.size 4 (some ⟨wo.heap.size, 0, none⟩) ((List.replicate n false).map .bool) := W5'
        clear W5'
        have B5 : Below wo.heap.size wo w5 := (Below.refl wo.heap.size wo).drew.trans b5
        go_wp2_with fail
        go_region_held3 (fun w' => (w'.cell? ⟨w.heap.size, 0, none⟩ = some (.int .i64 W) ∧ w'.cell? ⟨w.heap.size, 1, none⟩ = some (.int .i64 T) ∧ w'.cell? ⟨w.heap.size, 2, none⟩ = some (.slice A n c)) ∧ w'.cell? ⟨bd, od + k, none⟩ = some (.int .i64 dk))
          (first | exact KS.out _ B6 | exact KS.out _ B5 | exact KS.out _ B5.drew | exact KS.out _ (Below.refl _ _).drew)
          ((go_at_call 58; (with_reducible refine (CT1.out w5 wo.heap.size (KR.out _ B5).1 (fun ad ha => Nat.ne_of_lt (hAlt ad ha)) (KR.out _ B5).2 (fun ad ha => Nat.ne_of_lt (hDlt ad ha)) W5).mono ?_); rintro e w6 ⟨A6, m6, c6, rfl, hm6, hc6, R6, W6, f6, G6⟩; have B6 : Below wo.heap.size wo w6 := B5.grown G6 B5.size (fun k hk => by injection hk with hk; omega)))
        have R7 := KR.out _ B6
        have B7 := bl_go B4 B6
        have Y7 := bl_go Y4 B6
        obtain ⟨r1, r2, r3⟩ := r
        clear hm6 KS KR B5 B6 b5 W5 W6 G6 CT1 hrun5 z5
        cases r3 with
        | true =>
          have hK1 := hT rfl
          have hl1 := HLL.out _ _ hK1
          have HK1 := Lib.hid hK1
          rw [show (r1, r2, true).fst.length = n from hl1]
          clear hl1 hK1 hT hF
          go_wp2_with fail
          go_roundw
          case rel => exact ⟨k + 1, r1, A6, c6, by omega, by go_num, rfl, HK1.out, R6, B7, Y7⟩
          case measure => simp [intOf]; omega
        | false =>
          have HK1 := Lib.hid (hF rfl)
          clear hT hF
          go_wp2_with fail
          go_roundw
          case rel => exact ⟨k + 1, L, D, cL, by omega, by go_num, rfl, HK1.out, R7.2, B7, Y7⟩
          case measure => simp [intOf]; omega
      · obtain rfl : k = DD.length := by omega
        have hge : ¬ ((DD.length : Int) < (DD.length : Int)) := by omega
        have hdone := HDN.out L HKK.out
        have hly := HLY.out L _ HKK.out
        have CM1 := CM.out L D cL wo R4 RL HLn.out hly
        rw [hdone] at CM1
        have CM2 := Lib.hid CM1
        clear CM1 hdone hly
        go_wp2_with (go_at_call 59; refine CM2.out.mono ?_; rintro e w6 ⟨rfl, b6⟩)
        go_ret
        exact ⟨rfl, bl_go B4 b6⟩
end Go.Proofs.Ytnciemnlnijhfaa
