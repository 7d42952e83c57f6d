
/- Contracts: the program's tiling of heights; heights picked of two. -/
import Derived.Test.YtafmpgikdhlknaaGreatHgtI
namespace Go.Proofs.YtafmpgikdhlknaaGreat
open Go.RowKit

set_option maxRecDepth 100000 in
set_option maxHeartbeats 4000000 in
theorem by_any (W T : Int) (A D : Option Addr) (c d n : Nat) (bs : List Bool) (hs : List Int) (w : World) (hr : Rd w A (bs.map .bool)) (hd : Rd w D (hs.map (.int .i64))) (hs1 : simpB W T bs = true) (hg : GoodH W T bs hs) (hn : bs.length = n) :
    Calls Tryz.prog 93 #[.agg #[.int .i64 W, .int .i64 T, .slice A n c], .slice D (ncN W T) d] w (NewWI (tilH W T bs hs) n w) := by
  obtain ⟨hval, -, -⟩ := simp_iff.1 hs1
  obtain ⟨⟨w1, w6⟩, ⟨t1, t6⟩, hlen, -⟩ := validB_iff.1 hval
  have hf : FldF W T n := ⟨w1, w6, t1, t6, by rw [← hn]; exact hlen⟩
  have hfg := valid_fld hval
  have n36 : n ≤ 36 := hf.bd
  have n1 : 1 ≤ n := by have := hf.len; have := (mul_bd w1 w6 t1 t6).1; omega
  obtain ⟨-, hN1, hN49⟩ := nc_bd hf
  have HFG := Lib.hid hfg
  have HG := Lib.hid hg
  have HBD := Lib.hid (fun (v : Nat) (hv : v < ncN W T) (hc : corK W T bs v) => hg.bd hs1 hv hc)
  have HIN := Lib.hid (fun (v : Nat) (b : Bool) (hv : v < ncN W T) => sd_in hf hv b)
  have CSD := Lib.hid (fun (z : World) (R : Rd z A (bs.map .bool)) => sides_any W T A c n bs z R hf hn)
  have CIN := Lib.hid (fun (v : Nat) (b : Bool) (hv : v < ncN W T) (z : World) (R : Rd z A (bs.map .bool)) => (show Calls Tryz.prog 129 #[.agg #[.int .i64 W, .int .i64 T, .slice A n c], .agg #[.int .i64 (v : Int), .int .i64 (sdT W v b), .int .i64 (slx W v b), .int .i64 (cY W v), .int .i64 (srx W v), .int .i64 (sry W v b)]] z fun e w' => e = .returned (.bool (sdI W T bs v b)) ∧ Below z.heap.size z w' by
    obtain ⟨i1, i2, i3, i4⟩ := sd_in hf hv b
    exact inner_any W T A c n bs (v : Int) (sdT W v b) (slx W v b) (cY W v) (srx W v) (sry W v b) z R hf hn i1 i2 i3 i4))
  have CS := Lib.hid (fun (a : Nat) (ha : a < n) (q : Int) (z : World) => step_any W T (.slice A n c) a q z w1 w6 t1 t6 (by omega) (by have := hf.len; omega))
  have HST := Lib.hid (by_start (W := W) (T := T) (bs := bs) (hs := hs) (P := fun v b => (v, b) ∈ ([] : List (Nat × Bool))) (fun v b => by simp))
  rw [hn] at HST
  have HSI := Lib.hid (fun (v : Nat) (b : Bool) (h : sdI W T bs v b = true) => sd_cells hfg h)
  have HNB := Lib.hid hn
  have HL := Lib.hid hg.len
  obtain ⟨i0, hi, hz0, hz1, hz2⟩ := info_parts Tryz.infoI
  have hb1 : i0.bytes * n ≤ 281474976710656 := by rw [hz2]; omega
  have HZ := Lib.hid (And.intro hz0 (And.intro hz1 hz2))
  have X0 := C3.new w (.int .i64 W) (.int .i64 T) (.slice A n c) 25
  have B0 := bl_alloc (Below.refl w.heap.size w) (.cells #[.int .i64 W, .int .i64 T, .slice A n c] 25)
  obtain ⟨N, hN⟩ : ∃ N, ncN W T = N := ⟨_, rfl⟩
  have HNE := Lib.hid hN
  simp only [hN] at hN1 hN49 ⊢
  obtain ⟨x0, x1, x2⟩ := id X0
  clear hz0 hz1 hz2 hval hlen hf hg hs1 hn hN hfg
  go_enter Tryz.func93, Tryz.ntmps93
  go_wp2_with (at_make; refine wpList_make_full _ rfl _ _ 29 rfl (w.heap.size + 1) 3 i0 (.int .i64 0) 1 Tryz.underlying29 hi HZ.out.1 HZ.out.2.1 .i64 .i64 _ _ n rfl rfl rfl rfl hb1 (by unfold maxLen; omega) (by simp) ?_; intro v1 hown1 hgrow1; have hS1 : Wr v1 (w.heap.size + 1) 3 (some ⟨w.heap.size + 1, 0, none⟩) ((List.replicate n 0).map (.int .i64)) := (by have h0 := Wr.of_own hown1; rw [show (Value.int .i64 0).cells = #[.int .i64 0] from rfl, toList_madeCells_one] at h0; simpa using h0); have VB := (Below.refl (w.alloc (.cells #[.int .i64 W, .int .i64 T, .slice A n c] 25)).heap.size _).grown hgrow1 (Nat.le_refl _) (fun k hk => by cases hk); have X1 := X0.belo VB; obtain ⟨k0, k1, k2⟩ := id X1)
  have B1 := bl_go B0 VB
  have hgs : w.heap.size + 1 < v1.heap.size := by
    obtain ⟨g9, e9, -, hgs, -⟩ := hS1.form (by simp; omega)
    injection e9 with e9; injection e9 with e9
    omega
  refine (CSD.out _ (hr.below B1 (Nat.le_refl _))).mono ?_
  rintro e w2 ⟨As, cs, rfl, SD2, b2, hne2⟩
  obtain ⟨g, hg⟩ : ∃ g, w.heap.size + 1 = g := ⟨_, rfl⟩
  rw [hg] at hgs
  have H2 : HgW w W T A n c g n As (sidesV W T bs) (List.replicate n 0) w2 :=
    ⟨by simp, by rw [← hg]; exact hS1.belo b2, X1.belo b2, bl_go B1 b2, SD2, fun ad e => by have := hne2 ad e; omega, by omega⟩
  simp only [hg]
  have HMS := Lib.hid (fun (k : Nat) (hk : k < (sidesV W T bs).length) => (mem_sides (W := W) (T := T) (bs := bs) (s := (sidesV W T bs)[k])).1 (List.getElem_mem hk))
  have HAL := Lib.hid (fun (v : Nat) (b : Bool) (hv : v < ncN W T) (hu : sdU W T bs v b = true) => (mem_sides (W := W) (T := T) (bs := bs) (s := (v, b))).2 ⟨hv, hu⟩)
  have hSL : (sidesV W T bs).length ≤ 98 := by rw [sides_K]; have := sdK_len W T bs (ncN W T); have := HNE.out; omega
  generalize sidesV W T bs = SL at *
  clear SD2 b2 hne2 X1 B1 k0 k1 k2 VB hS1 hown1 hgrow1 X0 B0 x0 x1 x2 hg CSD hb1
  go_wp2_with fail
  go_loopw [19] (fun i wr => ∃ (k : Nat) (M : List Int), k ≤ SL.length ∧ i = .int .i64 k ∧ Hid (ByI W T bs hs M (fun v b => (v, b) ∈ SL.take k)) ∧ HgW w W T A n c g n As SL M wr) (fun i _ => SL.length - (intOf i).toNat)
  case atStart => exact ⟨0, _, Nat.zero_le _, rfl, by simpa using HST, H2⟩
  case round =>
    clear H2
    obtain ⟨k, M, hk, rfl, HB, H3⟩ := hrel
    by_cases hlt : k < SL.length
    · obtain ⟨bs', off, rfl, c0, c1, c2, c3, c4, c5⟩ := H3.sd.at_ hlt
      have hms := HMS.out k hlt
      have HTK := Lib.hid (fun (v : Nat) (b : Bool) => show (v, b) ∈ SL.take (k + 1) ↔ (v, b) ∈ SL.take k ∨ SL[k] = (v, b) by
        rw [take_one_more _ _ hlt, List.mem_append, List.mem_singleton]
        exact ⟨fun h => h.imp id Eq.symm, fun h => h.imp id Eq.symm⟩)
      obtain ⟨⟨v, b⟩, hvb⟩ : ∃ s, SL[k] = s := ⟨_, rfl⟩
      rw [hvb] at c0 c1 c2 c3 c4 c5 hms HTK
      simp only at c0 c1 c2 c3 c4 c5 hms
      have hvW := hms.1
      obtain ⟨u, eu, hu, -, -, q1, q2⟩ := sd_to HFG.out hvW hms.2
      have huN : u < N := by rw [← HNE.out]; exact hu
      have hvN : v < N := by rw [← HNE.out]; exact hvW
      have hbv := HBD.out v hvW q1
      have hbu := HBD.out u hu q2
      obtain ⟨l1, l2, l3, l4⟩ := HIN.out v b hvW
      have CIN2 := Lib.hid (CIN.out v b hvW)
      have HSI2 := Lib.hid (HSI.out v b)
      have HCR := Lib.hid (show crH W T bs hs v b = (sdI W T bs v b && (decide (hs.getD u 0 - hs.getD v 0 = 3) || decide (hs.getD u 0 - hs.getD v 0 = -3))) by unfold crH crD; rw [eu, Int.toNat_natCast])
      have HSET := Lib.hid (fun (hc : crH W T bs hs v b = true) {a c : Nat} (ha : a < bs.length) (hcl : c < bs.length) (a1 : (a : Int) % W = slx W v b ∧ (a : Int) / W = cY W v) (c1 : (c : Int) % W = srx W v ∧ (c : Int) / W = sry W v b) => by_set HFG.out HG.out.ok HB.out hvW hc ha hcl a1 c1 (P' := fun v b => (v, b) ∈ SL.take (k + 1)) (fun v' b' _ _ hm => ((HTK.out v' b').1 hm).imp id (fun e => by injection e with e1 e2; exact ⟨e1.symm, e2.symm⟩)))
      have HKEEP := Lib.hid (fun (hc : crH W T bs hs v b = false) => by_keep HB.out (P' := fun v b => (v, b) ∈ SL.take (k + 1)) (fun v' b' _ hc' hm => ((HTK.out v' b').1 hm).resolve_right (fun e => by injection e with e1 e2; subst e1; subst e2; rw [hc] at hc'; cases hc')))
      rw [eu] at c1 CIN2
      have hvl : v < hs.length := by rw [HL.out]; exact hvW
      have hul : u < hs.length := by rw [HL.out]; exact hu
      obtain ⟨wq, hwq⟩ : ∃ wq : World, wq = wr := ⟨_, rfl⟩
      subst hwq
      obtain ⟨yb, hyb⟩ : ∃ yb, wq.heap.size = yb := ⟨_, rfl⟩
      generalize crH W T bs hs v b = cr at *
      generalize slx W v b = lx at *
      generalize cY W v = ly at *
      generalize sry W v b = ry at *
      generalize srx W v = rx at *
      generalize sdI W T bs v b = si at *
      have B0 := bl_alloc (Below.refl wq.heap.size wq) (.cells #[.int .i64 (v : Int), .int .i64 (u : Int), .int .i64 lx, .int .i64 ly, .int .i64 rx, .int .i64 ry] 95)
      have C0 := C6.new wq (.int .i64 (v : Int)) (.int .i64 (u : Int)) (.int .i64 lx) (.int .i64 ly) (.int .i64 rx) (.int .i64 ry) 95
      rw [hyb] at C0
      go_upto_region 5 with fail
      have H4 := H3.belo B0
      have hD := hd.below H4.bel (Nat.le_refl _)
      obtain ⟨ad, rfl, hcv⟩ := hD.atM hvl
      obtain ⟨ad2, e2, hcu⟩ := hD.atM hul
      injection e2 with e2
      subst e2
      rw [getD_at _ _ hvl] at hbv
      rw [getD_at _ _ hul] at hbu
      have HCR2 := Lib.hid (show cr = (si && (decide (hs[u] - hs[v] = 3) || decide (hs[u] - hs[v] = -3))) by rw [HCR.out, getD_at _ _ hvl, getD_at _ _ hul])
      generalize hs[v] = hv at *
      generalize hs[u] = hu' at *
      clear HCR eu hvb hms hvl hul hu q1 q2 B0 H3 c0 c1 c2 c3 c4 c5 hD
      have hcvl := World.block_lt_of_cell? _ _ hcv
      have hcul := World.block_lt_of_cell? _ _ hcu
      have hy4 := C0.lt
      obtain ⟨s0, s1, s2, s3, s4, s5⟩ := id C0
      generalize wq.alloc (.cells #[.int .i64 (v : Int), .int .i64 (u : Int), .int .i64 lx, .int .i64 ly, .int .i64 rx, .int .i64 ry] 95) = w4 at *
      clear hyb
      have hvI : (v : Int) < (N : Int) := by omega
      have huI : (u : Int) < (N : Int) := by omega
      have i1 : IntKind.i64.wrap (hu' - hv) = hu' - hv := IntWalk.i64_in _ (by omega)
      have L0 : ∀ z : BW w4, z.wo.cell? ⟨yb, 0, none⟩ = some (.int .i64 (v : Int)) := fun z => z.cell hy4 s0
      have L1 : ∀ z : BW w4, z.wo.cell? ⟨yb, 1, none⟩ = some (.int .i64 (u : Int)) := fun z => z.cell hy4 s1
      have L2 : ∀ z : BW w4, z.wo.cell? (ad.add v) = some (.int .i64 hv) := fun z => (z.ok.cell (p := ad.add v) hcvl).trans hcv
      have L3 : ∀ z : BW w4, z.wo.cell? (ad.add u) = some (.int .i64 hu') := fun z => (z.ok.cell (p := ad.add u) hcul).trans hcu
      (refine region_bw (by kernel_rfl) (by kernel_rfl) ?_; (repeat (first | go_big_quiet_skip | (go_big_quiet_want; go_big_quiet_op; first | go_big_quiet_on | (refine ⟨.bool true, fun zz => ?_, ?_⟩; (fail); go_big_quiet_on)))); refine wpQuiet_nil ?_; intro wz hw'; obtain ⟨zw, hw''⟩ := hw'; subst hw'')
      have H5 := H4.belo zw.ok
      have C5 := C0.belo zw.ok
      generalize zw.wo = w5 at *
      clear L0 L1 L2 L3 s0 s1 s2 s3 s4 s5 hcvl hcul hcv hcu H4 C0 hy4 i1
      obtain ⟨s0, s1, s2, s3, s4, s5⟩ := id C5
      obtain ⟨x0, x1, x2⟩ := id H5.box
      generalize hdd : hu' - hv = dd at *
      clear hdd
      go_upto_region 6 with fail
      go_cut [19, 45] from 19 to 81 (fun s19 s45 wx => s19 = .int .i64 k ∧ s45 = .bool (!cr) ∧ HgW w W T A n c g n (some ⟨bs', off, none⟩) SL M wx ∧ C6 wx yb (.int .i64 (v : Int)) (.int .i64 (u : Int)) (.int .i64 lx) (.int .i64 ly) (.int .i64 rx) (.int .i64 ry))
      case first =>
        go_wp2_with fail
        refine (CIN2.out _ (hr.below H5.bel (Nat.le_refl _))).mono ?_
        rintro e w6 ⟨rfl, b6⟩
        have H6 := H5.belo b6
        have C7 := C5.belo b6
        clear H5 C5 b6 s0 s1 s2 s3 s4 s5 x0 x1 x2
        cases si with
        | false =>
          go_wp2_with fail
          go_meet
          exact ⟨rfl, by rw [HCR2.out]; rfl, H6, C7⟩
        | true =>
          rw [Bool.true_and] at HCR2
          by_cases h3 : dd = 3
          · subst h3
            go_wp2_with fail
            go_meet
            exact ⟨rfl, by rw [HCR2.out]; rfl, H6, C7⟩
          · have h3' : (dd != 3) = true := by rw [bne_iff_ne]; exact h3
            by_cases h4 : dd = -3
            · subst h4
              go_wp2_with fail
              go_meet
              exact ⟨rfl, by rw [HCR2.out]; rfl, H6, C7⟩
            · have h4' : (dd != -3) = true := by rw [bne_iff_ne]; exact h4
              have HF := Lib.hid (show cr = false by rw [HCR2.out, decide_eq_false h3, decide_eq_false h4]; rfl)
              clear h3 h4
              go_wp2_with fail
              go_meet
              exact ⟨rfl, by rw [HF.out]; rfl, H6, C7⟩
      case rest =>
        obtain ⟨rfl, rfl, H6, C6'⟩ := hcut
        clear H5 C5 s0 s1 s2 s3 s4 s5 x0 x1 x2
        cases cr with
        | false =>
          have HK := Lib.hid (HKEEP.out rfl)
          go_wp2_with fail
          go_roundw
          case rel => exact ⟨k + 1, M, by omega, by go_num, HK, H6⟩
          case measure => simp [intOf]; omega
        | true =>
          have hsi : si = true := by
            have := HCR2.out
            cases si
            · cases this
            · rfl
          obtain ⟨ka, kc, ea, ec, hka, hkc, -, ha1, hc1, -, -, hst⟩ := HSI2.out hsi
          have HBS := Lib.hid (HSET.out rfl hka hkc ha1 hc1)
          have HSTP := Lib.hid hst
          have hkan : ka < n := by have := HNB.out; omega
          have hkcn : kc < n := by have := HNB.out; omega
          have m1 := Int.mul_le_mul (show ly ≤ 6 by omega) w6 (by omega) (by omega)
          have m0 : 0 ≤ ly * W := Int.mul_nonneg (by omega) (by omega)
          have k1 : IntKind.i64.wrap (ly * W) = ly * W := IntWalk.i64_in _ (by omega)
          have k2 : IntKind.i64.wrap (ly * W + lx) = (ka : Int) := by rw [ea]; exact IntWalk.i64_in _ (by omega)
          have k3 : IntKind.i64.wrap (ry * W) = ry * W := IntWalk.i64_in _ (by omega)
          have k4 : IntKind.i64.wrap (ry * W + rx) = (kc : Int) := by rw [ec]; exact IntWalk.i64_in _ (by omega)
          obtain ⟨s0, s1, s2, s3, s4, s5⟩ := id C6'
          obtain ⟨x0, x1, x2⟩ := id H6.box
          have hxl := H6.box.lt
          have hyl := C6'.lt
          have L0 : ∀ z : BW wc, z.wo.cell? ⟨w.heap.size, 0, none⟩ = some (.int .i64 W) := fun z => z.cell hxl x0
          have L2 : ∀ z : BW wc, z.wo.cell? ⟨yb, 2, none⟩ = some (.int .i64 lx) := fun z => z.cell hyl s2
          have L3 : ∀ z : BW wc, z.wo.cell? ⟨yb, 3, none⟩ = some (.int .i64 ly) := fun z => z.cell hyl s3
          have L4 : ∀ z : BW wc, z.wo.cell? ⟨yb, 4, none⟩ = some (.int .i64 rx) := fun z => z.cell hyl s4
          have L5 : ∀ z : BW wc, z.wo.cell? ⟨yb, 5, none⟩ = some (.int .i64 ry) := fun z => z.cell hyl s5
          have hd0 : 1 ≤ d0B b ∧ d0B b ≤ 4 := by unfold d0B; split <;> omega
          have CS2 := Lib.hid (fun (q : Int) (z : World) => CS.out ka hkan q z)
          obtain ⟨d0, hd0e⟩ : ∃ d0, d0B b = d0 := ⟨_, rfl⟩
          rw [hd0e] at hd0 HBS HSTP
          clear ea ec ha1 hc1 hst hd0e
          go_wp2_with fail
          (refine region_bw (by kernel_rfl) (by kernel_rfl) ?_; (repeat (first | go_big_quiet_skip | (go_big_quiet_want; go_big_quiet_op; first | go_big_quiet_on | (refine ⟨.bool true, fun zz => ?_, ?_⟩; (fail); go_big_quiet_on)))); refine wpQuiet_nil ?_; intro wz hw'; obtain ⟨zw, hw''⟩ := hw'; subst hw'')
          have H7 := H6.belo zw.ok
          generalize zw.wo = w7 at *
          clear L0 L2 L3 L4 L5 s0 s1 s2 s3 s4 s5 x0 x1 x2 hxl hyl H6 C6' k1 k2 k3 k4 m0 m1
          go_wp2_with fail
          go_loopw [11] (fun i wr => ∃ (q : Nat) (M2 : List Int), i = .int .i64 ((q : Int) + 1) ∧ q ≤ 4 ∧ Hid (((q : Int) < d0 → M2 = M) ∧ (d0 ≤ (q : Int) → M2 = (M.set ka d0).set kc (backZ d0))) ∧ HgW w W T A n c g n (some ⟨bs', off, none⟩) SL M2 wr) (fun i _ => 5 - (intOf i).toNat)
          case atStart => exact ⟨0, M, rfl, by omega, Lib.hid ⟨fun _ => rfl, fun h => absurd h (by omega)⟩, H7⟩
          case round =>
            clear H7
            obtain ⟨q, M2, rfl, hq, HM2, H8⟩ := hrel
            by_cases hq4 : q < 4
            · obtain ⟨x0, x1, x2⟩ := id H8.box
              have HSQ := Lib.hid (HSTP.out ((q : Int) + 1) (by omega) (by omega))
              go_wp2_with fail
              refine (CS2.out _ _).mono ?_
              rintro e w9 ⟨rfl, b9⟩
              have H9 := H8.belo b9
              clear H8 b9 x0 x1 x2
              by_cases hqd : (q : Int) + 1 = d0
              · have hse : stepZ W T ka ((q : Int) + 1) = kc := HSQ.out.2 hqd
                have HM := Lib.hid (show M2 = M from HM2.out.1 (by omega))
                rw [hse]
                have HQD := Lib.hid hqd
                obtain ⟨y1, y2⟩ := H9.cell hkan
                have H10 := H9.set ka ((q : Int) + 1)
                obtain ⟨z1, z2⟩ := H10.cell hkcn
                have H11 := H10.set kc (backZ ((q : Int) + 1))
                have hkaI : (ka : Int) < (n : Int) := by omega
                have hkcI : (kc : Int) < (n : Int) := by omega
                have hkk : ((kc : Int) == (kc : Int)) = true := by simp
                clear hqd hse
                go_wp2_with (first | (go_at_call 113; refine (iback_any _ _ (by omega) (by omega)).mono ?_; rintro e w' ⟨rfl, rfl⟩))
                go_roundw
                case rel => exact ⟨q + 1, _, by go_num, by omega, Lib.hid ⟨fun h => absurd h (by have := HQD.out; omega), fun _ => by rw [HM.out, HQD.out]⟩, H11⟩
                case measure => simp [intOf]; omega
              · have hse : (stepZ W T ka ((q : Int) + 1) == (kc : Int)) = false := by
                  rw [beq_eq_false_iff_ne]
                  exact fun e => hqd (HSQ.out.1 e)
                generalize stepZ W T ka ((q : Int) + 1) = sv at *
                have HQD := Lib.hid hqd
                clear hqd
                go_wp2_with fail
                go_roundw
                case rel => exact ⟨q + 1, M2, by go_num, by omega, Lib.hid ⟨fun h => HM2.out.1 (by omega), fun h => HM2.out.2 (by have := HQD.out; omega)⟩, H9⟩
                case measure => simp [intOf]; omega
            · obtain rfl : q = 4 := by omega
              have HM := Lib.hid (show M2 = (M.set ka d0).set kc (backZ d0) from HM2.out.2 (by omega))
              go_wp2_with fail
              go_roundw
              case rel => exact ⟨k + 1, M2, by omega, by go_num, by rw [HM.out]; exact HBS, H8⟩
              case measure => simp [intOf]; omega
    · obtain rfl : k = SL.length := by omega
      have HE := Lib.hid (show M = tilH W T bs hs from by_all HFG.out HG.out.ok HB.out (fun v b hv hu => by rw [List.take_length]; exact HAL.out v b hv hu))
      have hml : M.length = n := H3.len
      obtain ⟨g', eg, -, hgs3, -⟩ := H3.out.form (by intro e; have := congrArg List.length e; simp at this; rw [this] at hml; simp at hml; omega)
      injection eg with eg; injection eg with eg
      subst eg
      have hlo := H3.lo
      clear hml
      go_wp2_with fail
      go_ret
      exact ⟨g, rfl, by rw [← HE.out]; exact H3.out.lower (Nat.le_succ _), by omega, hgs3, H3.bel⟩
set_option maxHeartbeats 400000 in
theorem lesser_any (x y : Int) (w : World) : Calls Tryz.prog 59 #[.int .i64 x, .int .i64 y] w fun e w' => e = .returned (.int .i64 (min x y)) ∧ w = w' := by
  go_enter Tryz.func59, Tryz.ntmps59
  go_wp2_with fail
  go_ret
  exact ⟨rfl, rfl⟩
set_option maxHeartbeats 400000 in
theorem greater_any (x y : Int) (w : World) : Calls Tryz.prog 53 #[.int .i64 x, .int .i64 y] w fun e w' => e = .returned (.int .i64 (max x y)) ∧ w = w' := by
  go_enter Tryz.func53, Tryz.ntmps53
  go_wp2_with fail
  go_ret
  exact ⟨rfl, rfl⟩
theorem keep2 {b g m : Nat} {u v : Value} {w : World} {ad : Addr} {k : Nat} (h : ad.block < b) (hg : b ≤ g) (e : w.cell? (ad.add k) = some v) : (w.setCell ⟨g, m, none⟩ u).cell? (ad.add k) = some v := by
  rw [World.cell?_setCell_other _ _ _ _ (fun x => by have := congrArg Addr.block x; rw [blk_add] at this; simp at this; omega)]; exact e
set_option maxRecDepth 100000 in
set_option maxHeartbeats 2000000 in
theorem pick_min (A D : Option Addr) (c d N : Nat) (xs ys : List Int) (w : World) (hx : Rd w A (xs.map (.int .i64))) (hy : Rd w D (ys.map (.int .i64))) (hxl : xs.length = N) (hyl : ys.length = N) (h1 : 1 ≤ N) (hN : N ≤ 1000) :
    Calls Tryz.prog 58 #[.slice A N c, .slice D N d, .func (.func 59) #[] #[]] w (NewWI (pickL min xs ys) N w) := by
  have HX := Lib.hid hxl
  have HY := Lib.hid hyl
  obtain ⟨i0, hi, hz0, hz1, hz2⟩ := info_parts Tryz.infoI
  have hb1 : i0.bytes * N ≤ 281474976710656 := by rw [hz2]; omega
  have HZ := Lib.hid (And.intro hz0 (And.intro hz1 hz2))
  clear hz0 hz1 hz2 hxl hyl
  go_enter Tryz.func58, Tryz.ntmps58
  go_wp2_with (at_make; refine wpList_make_full _ rfl _ _ 29 rfl w.heap.size 3 i0 (.int .i64 0) 1 Tryz.underlying29 hi HZ.out.1 HZ.out.2.1 .i64 .i64 _ _ N rfl rfl rfl rfl hb1 (by unfold maxLen; omega) (Nat.le_refl _) ?_; intro v1 hown1 hgrow1)
  have hS1 : Wr v1 w.heap.size 3 (some ⟨w.heap.size, 0, none⟩) ((List.replicate N 0).map (.int .i64)) := by
    have h0 := Wr.of_own hown1
    rw [show (Value.int .i64 0).cells = #[.int .i64 0] from rfl, toList_madeCells_one] at h0
    simpa using h0
  have VB := (Below.refl w.heap.size w).grown hgrow1 (Nat.le_refl _) (fun k hk => by cases hk)
  obtain ⟨g, hg⟩ : ∃ g, w.heap.size = g := ⟨_, rfl⟩
  have hgg : w.heap.size ≤ g := by omega
  have hS2 : Wr v1 w.heap.size 3 (some ⟨g, 0, none⟩) ((List.replicate N 0).map (.int .i64)) := by rw [← hg]; exact hS1
  have HGG := Lib.hid hg
  clear hS1 hown1 hgrow1 hb1
  rw [hg]
  clear hg
  go_loopw [14] (fun i wr => ∃ (k : Nat) (M : List Int), k ≤ N ∧ i = .int .i64 k ∧ Hid (M.length = N ∧ ∀ j, j < k → M.getD j 0 = min (xs.getD j 0) (ys.getD j 0)) ∧ Wr wr w.heap.size 3 (some ⟨g, 0, none⟩) (M.map (.int .i64)) ∧ Below w.heap.size w wr) (fun i _ => N - (intOf i).toNat)
  case atStart => exact ⟨0, _, Nat.zero_le _, rfl, Lib.hid ⟨by simp, fun j h => absurd h (Nat.not_lt_zero _)⟩, hS2, VB⟩
  case round =>
    clear hS2 VB
    obtain ⟨k, M, hk, rfl, HM, W3, B3⟩ := hrel
    by_cases hlt : k < N
    · obtain ⟨ad, rfl, cx⟩ := (hx.below B3 (Nat.le_refl _)).atM (k := k) (by rw [HX.out]; exact hlt)
      obtain ⟨ad2, rfl, cy⟩ := (hy.below B3 (Nat.le_refl _)).atM (k := k) (by rw [HY.out]; exact hlt)
      have hb1 : ad.block < w.heap.size := hx.lt rfl (by intro e; rw [List.map_eq_nil_iff] at e; have := HX.out; rw [e] at this; simp at this; omega)
      have hb2 : ad2.block < w.heap.size := hy.lt rfl (by intro e; rw [List.map_eq_nil_iff] at e; have := HY.out; rw [e] at this; simp at this; omega)
      have HG1 := Lib.hid (show xs.getD k 0 = xs[k]'(by rw [HX.out]; exact hlt) from getD_at _ _ _)
      have HG2 := Lib.hid (show ys.getD k 0 = ys[k]'(by rw [HY.out]; exact hlt) from getD_at _ _ _)
      generalize xs[k]'(by rw [HX.out]; exact hlt) = x at cx HG1
      generalize ys[k]'(by rw [HY.out]; exact hlt) = y at cy HG2
      have hml : k < M.length := by rw [HM.out.1]; exact hlt
      obtain ⟨g', eg, -, -, hfr⟩ := W3.form (by intro e; rw [List.map_eq_nil_iff] at e; rw [e] at hml; simp at hml)
      injection eg with eg; injection eg with eg
      subst eg
      have hfk := hfr k
      obtain ⟨ov, hov⟩ : ∃ ov, wr.cell? ⟨g, k, none⟩ = some ov := ⟨_, by simpa using W3.rd.cellEM (k := k) hml⟩
      have CF := Lib.hid (fun z => lesser_any x y z)
      obtain ⟨fv, hfv⟩ : ∃ fv, min x y = fv := ⟨_, rfl⟩
      rw [hfv] at CF
      have HFV := Lib.hid hfv
      clear hfv
      have hkI : (k : Int) < (N : Int) := by omega
      have W4 := W3.store k (.int .i64 fv)
      rw [← List.map_set] at W4
      go_wp2_with fail
      go_region_held3 (fun w' => w'.cell? (ad.add k) = some (.int .i64 x) ∧ w'.cell? (ad2.add k) = some (.int .i64 y))
        (first | (with_reducible exact ⟨cx, cy⟩) | (exact ⟨keep2 hb1 hgg cx, keep2 hb2 hgg cy⟩) | go_keep)
        ((go_at_call 59; refine (CF.out _).mono ?_; rintro e w5 ⟨rfl, rfl⟩))
      have W5 := W4.belo (Below.refl _ _).drew
      go_wp2_with fail
      go_roundw
      case rel => exact ⟨k + 1, M.set k fv, by omega, by go_num, Lib.hid ⟨by rw [List.length_set]; exact HM.out.1, fun j hj => by
        rw [getD_setJ hml]
        split
        · rename_i e; subst e; rw [HG1.out, HG2.out]; exact HFV.out.symm
        · exact HM.out.2 j (by omega)⟩, by assumption, (B3.setCell (by simpa using hgg) _).drew⟩
      case measure => simp [intOf]; omega
    · obtain rfl : k = N := by omega
      have HE := Lib.hid (show M = pickL min xs ys from by
        have hl : (pickL min xs ys).length = k := by unfold pickL; rw [List.length_zipWith, HX.out, HY.out]; exact Nat.min_self k
        refine List.ext_getElem (by rw [HM.out.1, hl]) fun j h1 h2 => ?_
        have hj : j < k := by rw [← HM.out.1]; exact h1
        rw [← getD_in M 0 h1, ← getD_in _ 0 h2, HM.out.2 j hj, pick_k (by rw [HX.out]; exact hj) (by rw [HY.out]; exact hj)])
      have hml : M.length = k := HM.out.1
      obtain ⟨g', eg, -, hgs3, -⟩ := W3.form (by intro e; rw [List.map_eq_nil_iff] at e; rw [e] at hml; simp at hml; omega)
      injection eg with eg; injection eg with eg
      subst eg
      clear hml
      go_wp2_with fail
      go_ret
      exact ⟨g, rfl, by rw [← HE.out]; exact W3, hgg, hgs3, B3⟩
set_option maxRecDepth 100000 in
set_option maxHeartbeats 2000000 in
theorem pick_max (A D : Option Addr) (c d N : Nat) (xs ys : List Int) (w : World) (hx : Rd w A (xs.map (.int .i64))) (hy : Rd w D (ys.map (.int .i64))) (hxl : xs.length = N) (hyl : ys.length = N) (h1 : 1 ≤ N) (hN : N ≤ 1000) :
    Calls Tryz.prog 58 #[.slice A N c, .slice D N d, .func (.func 53) #[] #[]] w (NewWI (pickL max xs ys) N w) := by
  have HX := Lib.hid hxl
  have HY := Lib.hid hyl
  obtain ⟨i0, hi, hz0, hz1, hz2⟩ := info_parts Tryz.infoI
  have hb1 : i0.bytes * N ≤ 281474976710656 := by rw [hz2]; omega
  have HZ := Lib.hid (And.intro hz0 (And.intro hz1 hz2))
  clear hz0 hz1 hz2 hxl hyl
  go_enter Tryz.func58, Tryz.ntmps58
  go_wp2_with (at_make; refine wpList_make_full _ rfl _ _ 29 rfl w.heap.size 3 i0 (.int .i64 0) 1 Tryz.underlying29 hi HZ.out.1 HZ.out.2.1 .i64 .i64 _ _ N rfl rfl rfl rfl hb1 (by unfold maxLen; omega) (Nat.le_refl _) ?_; intro v1 hown1 hgrow1)
  have hS1 : Wr v1 w.heap.size 3 (some ⟨w.heap.size, 0, none⟩) ((List.replicate N 0).map (.int .i64)) := by
    have h0 := Wr.of_own hown1
    rw [show (Value.int .i64 0).cells = #[.int .i64 0] from rfl, toList_madeCells_one] at h0
    simpa using h0
  have VB := (Below.refl w.heap.size w).grown hgrow1 (Nat.le_refl _) (fun k hk => by cases hk)
  obtain ⟨g, hg⟩ : ∃ g, w.heap.size = g := ⟨_, rfl⟩
  have hgg : w.heap.size ≤ g := by omega
  have hS2 : Wr v1 w.heap.size 3 (some ⟨g, 0, none⟩) ((List.replicate N 0).map (.int .i64)) := by rw [← hg]; exact hS1
  have HGG := Lib.hid hg
  clear hS1 hown1 hgrow1 hb1
  rw [hg]
  clear hg
  go_loopw [14] (fun i wr => ∃ (k : Nat) (M : List Int), k ≤ N ∧ i = .int .i64 k ∧ Hid (M.length = N ∧ ∀ j, j < k → M.getD j 0 = max (xs.getD j 0) (ys.getD j 0)) ∧ Wr wr w.heap.size 3 (some ⟨g, 0, none⟩) (M.map (.int .i64)) ∧ Below w.heap.size w wr) (fun i _ => N - (intOf i).toNat)
  case atStart => exact ⟨0, _, Nat.zero_le _, rfl, Lib.hid ⟨by simp, fun j h => absurd h (Nat.not_lt_zero _)⟩, hS2, VB⟩
  case round =>
    clear hS2 VB
    obtain ⟨k, M, hk, rfl, HM, W3, B3⟩ := hrel
    by_cases hlt : k < N
    · obtain ⟨ad, rfl, cx⟩ := (hx.below B3 (Nat.le_refl _)).atM (k := k) (by rw [HX.out]; exact hlt)
      obtain ⟨ad2, rfl, cy⟩ := (hy.below B3 (Nat.le_refl _)).atM (k := k) (by rw [HY.out]; exact hlt)
      have hb1 : ad.block < w.heap.size := hx.lt rfl (by intro e; rw [List.map_eq_nil_iff] at e; have := HX.out; rw [e] at this; simp at this; omega)
      have hb2 : ad2.block < w.heap.size := hy.lt rfl (by intro e; rw [List.map_eq_nil_iff] at e; have := HY.out; rw [e] at this; simp at this; omega)
      have HG1 := Lib.hid (show xs.getD k 0 = xs[k]'(by rw [HX.out]; exact hlt) from getD_at _ _ _)
      have HG2 := Lib.hid (show ys.getD k 0 = ys[k]'(by rw [HY.out]; exact hlt) from getD_at _ _ _)
      generalize xs[k]'(by rw [HX.out]; exact hlt) = x at cx HG1
      generalize ys[k]'(by rw [HY.out]; exact hlt) = y at cy HG2
      have hml : k < M.length := by rw [HM.out.1]; exact hlt
      obtain ⟨g', eg, -, -, hfr⟩ := W3.form (by intro e; rw [List.map_eq_nil_iff] at e; rw [e] at hml; simp at hml)
      injection eg with eg; injection eg with eg
      subst eg
      have hfk := hfr k
      obtain ⟨ov, hov⟩ : ∃ ov, wr.cell? ⟨g, k, none⟩ = some ov := ⟨_, by simpa using W3.rd.cellEM (k := k) hml⟩
      have CF := Lib.hid (fun z => greater_any x y z)
      obtain ⟨fv, hfv⟩ : ∃ fv, max x y = fv := ⟨_, rfl⟩
      rw [hfv] at CF
      have HFV := Lib.hid hfv
      clear hfv
      have hkI : (k : Int) < (N : Int) := by omega
      have W4 := W3.store k (.int .i64 fv)
      rw [← List.map_set] at W4
      go_wp2_with fail
      go_region_held3 (fun w' => w'.cell? (ad.add k) = some (.int .i64 x) ∧ w'.cell? (ad2.add k) = some (.int .i64 y))
        (first | (with_reducible exact ⟨cx, cy⟩) | (exact ⟨keep2 hb1 hgg cx, keep2 hb2 hgg cy⟩) | go_keep)
        ((go_at_call 53; refine (CF.out _).mono ?_; rintro e w5 ⟨rfl, rfl⟩))
      have W5 := W4.belo (Below.refl _ _).drew
      go_wp2_with fail
      go_roundw
      case rel => exact ⟨k + 1, M.set k fv, by omega, by go_num, Lib.hid ⟨by rw [List.length_set]; exact HM.out.1, fun j hj => by
        rw [getD_setJ hml]
        split
        · rename_i e; subst e; rw [HG1.out, HG2.out]; exact HFV.out.symm
        · exact HM.out.2 j (by omega)⟩, by assumption, (B3.setCell (by simpa using hgg) _).drew⟩
      case measure => simp [intOf]; omega
    · obtain rfl : k = N := by omega
      have HE := Lib.hid (show M = pickL max xs ys from by
        have hl : (pickL max xs ys).length = k := by unfold pickL; rw [List.length_zipWith, HX.out, HY.out]; exact Nat.min_self k
        refine List.ext_getElem (by rw [HM.out.1, hl]) fun j h1 h2 => ?_
        have hj : j < k := by rw [← HM.out.1]; exact h1
        rw [← getD_in M 0 h1, ← getD_in _ 0 h2, HM.out.2 j hj, pick_k (by rw [HX.out]; exact hj) (by rw [HY.out]; exact hj)])
      have hml : M.length = k := HM.out.1
      obtain ⟨g', eg, -, hgs3, -⟩ := W3.form (by intro e; rw [List.map_eq_nil_iff] at e; rw [e] at hml; simp at hml; omega)
      injection eg with eg; injection eg with eg
      subst eg
      clear hml
      go_wp2_with fail
      go_ret
      exact ⟨g, rfl, by rw [← HE.out]; exact W3, hgg, hgs3, B3⟩
end Go.Proofs.YtafmpgikdhlknaaGreat
