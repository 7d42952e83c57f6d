/- Contract: the reference's PiecesAll: a cell more. (under way) -/
import Derived.Test.YtbplnjigoghboaaPiecesS
import Derived.Deep.RegionHeld3
namespace Go.Proofs.Ytbplnjigoghboaa
open Go.RowKit Go.Sort

/-- an empty list of cells of the call's own -/
theorem ownC_none (w : World) (base : Nat) (hb : base ≤ w.heap.size) : OwnC (w.alloc (.cells #[] 72)) base (.slice (some ⟨w.heap.size, 0, none⟩) 0 0) [] :=
  ⟨_, _, rfl, World.ownsRow_lit w #[] 0 hb (by unfold maxLen; omega) (by simp)⟩
theorem own_grC {w w' w0 : World} {base : Nat} {v : Value} {ps : List Ce} (h : OwnC w base v ps) (hb : Below base w0 w) (hz : base ≤ w.heap.size) (hg : w.grownBy w' v.ownBlock) : Below base w0 w' :=
  hb.grown hg hz (fun k hk => by obtain ⟨A, c, e, o⟩ := h; exact (o.lt k hk).1)
theorem x_new0 (w : World) (q1 q2 : Int) : (w.alloc (.cells #[.int .i64 q1, .int .i64 q2] 72)).cell? ⟨w.heap.size, 0, none⟩ = some (.int .i64 q1) := cell_of_row _ _ _ _ _ _ (heap_alloc_new w _)
theorem x_new1 (w : World) (q1 q2 : Int) : (w.alloc (.cells #[.int .i64 q1, .int .i64 q2] 72)).cell? ⟨w.heap.size, 1, none⟩ = some (.int .i64 q2) := cell_of_row _ _ _ _ _ _ (heap_alloc_new w _)
theorem rdc_c0 {w : World} {h : Nat} {q1 q2 : Int} (R : RdC w (some ⟨h, 0, none⟩) [(q1, q2)]) : w.cell? ⟨h, 0, none⟩ = some (.int .i64 q1) := by
  obtain ⟨b, o, e, c0, c1⟩ := RdC.at_ R (k := 0) (by simp)
  injection e with e; injection e with e1 e2; subst e1; subst e2
  simpa using c0
theorem rdc_c1 {w : World} {h : Nat} {q1 q2 : Int} (R : RdC w (some ⟨h, 0, none⟩) [(q1, q2)]) : w.cell? ⟨h, 1, none⟩ = some (.int .i64 q2) := by
  obtain ⟨b, o, e, c0, c1⟩ := RdC.at_ R (k := 0) (by simp)
  injection e with e; injection e with e1 e2; subst e1; subst e2
  simpa using c1
section
variable {ops : Array Oper} {rest : List Oper} {o : Oper} {a : Act} {Q : Exit → Act → World → Prop}
/-- a list of cells is appended to an empty one -/
theorem step_app_cells0 {K : Act → World → Prop} {E : Prop} (W : World) (hgd : o.guard = none) (s x : Operand) (ho : o.op = .call { callee := .builtin .append, args := #[s, x], argTypes := #[31, 31] })
    (base : Nat) (v : Value) (hs : a.eval s = v) (hown : OwnC W base v []) (qs : List Ce) (b off n c : Nat) (hx : a.eval x = .slice (some ⟨b, off, none⟩) n c) (hq : RdC W (some ⟨b, off, none⟩) qs) (hl : qs.length = n) (h0 : 0 < n) (hn2 : n ≤ 1000000) (hbase : base ≤ W.heap.size)
    (h : ∀ (g c' : Nat) (w' : World), OwnC w' base (.slice (some ⟨g, 0, none⟩) n c') qs → W.grownBy w' v.ownBlock → (v.ownBlock = some g ∨ g = W.heap.size) → K (a.put o.dst (.slice (some ⟨g, 0, none⟩) n c')) w') :
    if Region.wanted o (yielded ops a.tmps) = true then Oper.wp Try.prog o a W K Q else E :=
  step_app_cells W hgd s x ho base v [] hs hown qs b off n c hx hq hl h0 hn2 (by simp) hbase (fun g c' w' h1 h2 h3 => by
    simp only [List.length_nil, Nat.zero_add, List.nil_append] at h1 ⊢
    exact h g c' w' h1 h2 h3)
end

set_option maxRecDepth 100000 in
set_option maxHeartbeats 16000000 in
theorem sPiecesAll_s (t m : Nat) (w : World) (hm : m = t + 2) (h5 : m ≤ 5) (IH : ∀ (z : World) (n : Int), n = (m : Int) - 1 → Calls Try.prog 15 #[.int .i64 n] z (NewRdSS (allP (t + 1)) z)) :
    Calls Try.prog 15 #[.int .i64 m] w (NewRdSS (allP (t + 2)) w) := by
  have CI := Lib.hid (fun (z : World) => l1in_t (m : Int) 1 5 z (by omega) (by omega))
  have CR := Lib.hid (fun (z : World) => IH z ((m : Int) - 1) rfl)
  have hne : ((m : Int) == 1) = false := by rw [beq_eq_false_iff_ne]; omega
  have hm2 : 2 ≤ m := by omega
  have hlens := allP_lens (n := t + 1) (by omega) (by omega)
  have HOK := Lib.hid (allP_ok (t + 1) (by omega))
  have Z1 := bl_alloc (Below.refl w.heap.size w) (.cells #[] 31)
  have ht : t + 2 ≤ 5 := by omega
  obtain ⟨L, hL⟩ : ∃ L, allP (t + 1) = L := ⟨_, rfl⟩
  have HLL := Lib.hid hL
  rw [hL] at hlens HOK CR
  obtain ⟨N0, hN0⟩ : ∃ n, L.length = n := ⟨_, rfl⟩
  have HL := Lib.hid hN0
  rw [hN0] at hlens
  obtain ⟨hN1, hN12⟩ := hlens
  have HM := Lib.hid hm
  clear hL hN0 hm IH
  go_enter Try.func15, Try.ntmps15
  go_wp2_with (first | (go_at_call 78; refine (CI.out _).mono ?_; rintro e wq ⟨rfl, rfl⟩) | (go_at_call 15; refine (CR.out _).mono ?_; rintro e wo ⟨g, c0, ys, rfl, hc0, ry, hy, b0⟩))
  rw [HL.out] at hc0
  have I0 : OutS wo wo m (gI L 0) [] 0 [] w.heap.size 0 := OutS.start wo _ ⟨rfl, fun k h => absurd h (Nat.not_lt_zero k)⟩
  have HB := Lib.hid (bl_go Z1 b0)
  have HRY := Lib.hid ry
  have HHY := Lib.hid hy
  clear Z1 b0 ry hy
  rw [HL.out]
  go_loopw [3, 5] (fun v3 i wr => ∃ (k N : Nat) (F : List (List Ce)) (xs : List Value) (b c' : Nat), k ≤ N0 ∧ i = .int .i64 k ∧ v3 = .slice (some ⟨b, 0, none⟩) N c' ∧ OutS wo wr m (gI L k) F N xs b c' ∧ N ≤ 20 * k) (fun _ i _ => N0 - (intOf i).toNat)
  case atStart => exact ⟨0, 0, [], [], w.heap.size, 0, Nat.zero_le _, rfl, rfl, I0, Nat.zero_le _⟩
  case round =>
    clear I0
    obtain ⟨k, N, F, xs, b, c', hk, rfl, rfl, I1, hs1⟩ := hrel
    by_cases hlk : k < N0
    · have hkL : k < L.length := by rw [HL.out]; exact hlk
      have hkI : (k : Int) < (N0 : Int) := by omega
      obtain ⟨B6, c6, e6, m6, r6⟩ := HHY.out.2 k hkL
      have hAO := HOK.out _ (List.getElem_mem hkL)
      have HGI := Lib.hid (fun p hp => gI_step (p := p) hkL hp)
      obtain ⟨p, hp⟩ : ∃ p, L[k] = p := ⟨_, rfl⟩
      have HP := Lib.hid hp
      rw [hp] at e6 m6 r6 hAO
      have HAO := Lib.hid hAO
      have hpl : p.length = t + 1 := hAO.len
      obtain ⟨bp, op, rfl, -, -⟩ := RdC.at_ r6 (k := 0) (by omega)
      have KP := Lib.hid (fun (z : World) (hb : Below wo.heap.size wo z) => show RdC z (some ⟨bp, op, none⟩) p from Rd.belo r6 hb)
      have d6 : wo.cell? ⟨g, k, none⟩ = some (.slice (some ⟨bp, op, none⟩) p.length c6) := by
        obtain ⟨ad, e, hc⟩ := HRY.out (by intro e; rw [e] at e6; simp at e6)
        injection e with e
        subst e
        have := hc k _ e6
        rw [add_off, Nat.zero_add] at this
        exact this
      have KD := Lib.hid (fun (z : World) (hb : Below wo.heap.size wo z) => ((bcell hb).1 g k (by have := World.block_lt_of_cell? wo _ d6; simpa using this)).trans d6)
      have hp5 : p.length ≤ 5 := by omega
      have hp1 : 0 < p.length := by omega
      have HPL := Lib.hid hpl
      have J1 := I1.cast (show _ = gI L k ++ gJ p 0 by rw [gJ_zero, List.append_nil])
      clear hp e6 m6 r6 hAO hpl I1 d6
      go_wp2_with fail
      go_loopw [3, 6] (fun v3 i wr => ∃ (j N : Nat) (F : List (List Ce)) (xs : List Value) (b c' : Nat), j ≤ p.length ∧ i = .int .i64 j ∧ v3 = .slice (some ⟨b, 0, none⟩) N c' ∧ OutS wo wr m (gI L k ++ gJ p j) F N xs b c' ∧ N ≤ 20 * k + 4 * j) (fun _ i _ => p.length - (intOf i).toNat)
      case atStart => exact ⟨0, N, F, xs, b, c', Nat.zero_le _, rfl, rfl, J1, by omega⟩
      case round =>
        clear J1
        obtain ⟨j, N, F, xs, b, c', hj, rfl, rfl, J2, hs2⟩ := hrel
        have d7 := KD.out _ J2.ok
        by_cases hlj : j < p.length
        · have hljI : (j : Int) < (p.length : Int) := by omega
          have rp := KP.out _ J2.ok
          obtain ⟨bb, oo, e0, q0, q1⟩ := RdC.at_ rp hlj
          injection e0 with e0
          injection e0 with e01 e02
          subst e01; subst e02
          have HGJ := Lib.hid (fun c h => gJ_step (c := c) hlj h)
          have hcm := HAO.out.edge _ (List.getElem_mem hlj)
          have hcp := List.getElem_mem hlj
          obtain ⟨cc, hcc⟩ : ∃ cc, p[j] = cc := ⟨_, rfl⟩
          have HCC := Lib.hid hcc
          rw [hcc] at q0 q1 hcm hcp
          have HCP := Lib.hid hcp
          clear hcc rp hcp
          obtain ⟨x, y⟩ := cc
          simp only at q0 q1 hcm
          obtain ⟨x0, x1, y0, y1⟩ := hcm
          obtain ⟨wj, hwj⟩ : ∃ wj : World, wj = wr := ⟨_, rfl⟩
          subst hwj
          have hb4 := bl_alloc (bl_alloc (Below.refl wj.heap.size wj) (.cells #[.int .i64 x, .int .i64 y] 72)) (.cells #[.int .i64 (x + 1), .int .i64 y, .int .i64 x, .int .i64 (y + 1), .int .i64 (x - 1), .int .i64 y, .int .i64 x, .int .i64 (y - 1)] 72)
          have fd : RdC ((wj.alloc (.cells #[.int .i64 x, .int .i64 y] 72)).alloc (.cells #[.int .i64 (x + 1), .int .i64 y, .int .i64 x, .int .i64 (y + 1), .int .i64 (x - 1), .int .i64 y, .int .i64 x, .int .i64 (y - 1)] 72)) (some ⟨wj.heap.size + 1, 0, none⟩) (nearC (x, y)) := fun _ => ⟨_, rfl, fun n u hu => by
            rw [add_off, Nat.zero_add, cell_of_row _ _ _ _ _ _ (by have := heap_alloc_new (wj.alloc (.cells #[.int .i64 x, .int .i64 y] 72)) (.cells #[.int .i64 (x + 1), .int .i64 y, .int .i64 x, .int .i64 (y + 1), .int .i64 (x - 1), .int .i64 y, .int .i64 x, .int .i64 (y - 1)] 72); rw [show (wj.alloc (.cells #[.int .i64 x, .int .i64 y] 72)).heap.size = wj.heap.size + 1 by simp] at this; exact this)]
            simpa [cellsV, nearC] using hu⟩
          have J3 := (J2.belo hb4).cast (show _ = gI L k ++ gJ p j ++ gD p (x, y) 0 by rw [gD_zero, List.append_nil])
          clear J2
          go_wp2_with fail
          generalize ((wj.alloc (.cells #[.int .i64 x, .int .i64 y] 72)).alloc (.cells #[.int .i64 (x + 1), .int .i64 y, .int .i64 x, .int .i64 (y + 1), .int .i64 (x - 1), .int .i64 y, .int .i64 x, .int .i64 (y - 1)] 72)) = w3 at *
          go_loopw [3, 9] (fun v3 i wr => ∃ (d N : Nat) (F : List (List Ce)) (xs : List Value) (b c' : Nat), d ≤ 4 ∧ i = .int .i64 d ∧ v3 = .slice (some ⟨b, 0, none⟩) N c' ∧ OutS wo wr m (gI L k ++ gJ p j ++ gD p (x, y) d) F N xs b c' ∧ N ≤ 20 * k + 4 * j + d ∧ Below w3.heap.size w3 wr) (fun _ i _ => 4 - (intOf i).toNat)
          case atStart => exact ⟨0, N, F, xs, b, c', by omega, rfl, rfl, J3, by omega, Below.refl _ _⟩
          case round =>
            clear J3
            obtain ⟨d, N, F, xs, b, c', hd, rfl, rfl, J4, hs3, Y4⟩ := hrel
            by_cases hld : d < 4
            · have hldI : (d : Int) < 4 := by omega
              obtain ⟨wq, hwq⟩ : ∃ z : World, z = wr := ⟨_, rfl⟩
              subst hwq
              have d7 := KD.out _ J4.ok
              have r7 := KP.out _ J4.ok
              obtain ⟨q, hq⟩ : ∃ q, (nearC (x, y))[d]'(by rw [near_len]; exact hld) = q := ⟨_, rfl⟩
              obtain ⟨bb, oo, e0, n0, n1⟩ := RdC.at_ (w := wq) (Rd.belo fd Y4) (k := d) (by rw [near_len]; exact hld)
              injection e0 with e0
              injection e0 with e01 e02
              subst e01; subst e02
              rw [hq] at n0 n1
              simp only [Nat.zero_add] at n0 n1
              have GIN := Lib.hid (gD_in (p := p) hld hq)
              have GOUT := Lib.hid (gD_out (p := p) hld hq)
              have QIN := Lib.hid (show q ∈ nearC (x, y) by rw [← hq]; exact List.getElem_mem _)
              clear hq
              obtain ⟨q1, q2⟩ := q
              simp only at n0 n1
              have hbg : g < wq.heap.size := by have := World.block_lt_of_cell? wq _ d7; simpa using this
              have hbn : wj.heap.size + 1 < wq.heap.size := by have := World.block_lt_of_cell? wq _ n0; simpa using this
              generalize wj.heap.size + 1 = bn at *
              have f0 : ∀ z : BW wq, z.wo.cell? ⟨g, k, none⟩ = some (.slice (some ⟨bp, op, none⟩) p.length c6) := fun z => z.cell hbg d7
              have f1 : ∀ z : BW wq, z.wo.cell? ⟨bn, d * 2, none⟩ = some (.int .i64 q1) := fun z => z.cell hbn n0
              have f2 : ∀ z : BW wq, z.wo.cell? ⟨bn, d * 2 + 1, none⟩ = some (.int .i64 q2) := fun z => z.cell hbn n1
              have KZ := Lib.hid (fun z : BW wq => show RdC z.wo (some ⟨bp, op, none⟩) p from Rd.belo r7 z.ok)
              cases hin : decide ((q1, q2) ∈ p) with
              | true =>
                have C8 : Hid (∀ z, RdC z (some ⟨bp, op, none⟩) p → Calls Try.prog 79 #[.slice (some ⟨bp, op, none⟩) p.length c6, .agg #[.int .i64 q1, .int .i64 q2]] z fun e w' => e = .returned (.bool true) ∧ Below z.heap.size z w') := fun z R => by
                  have := l8Has_any (some ⟨bp, op, none⟩) c6 p (q1, q2) z R (by omega)
                  rw [hin] at this
                  exact this
                have J6 := J4.cast (show _ = gI L k ++ gJ p j ++ gD p (x, y) (d + 1) by rw [GIN.out hin])
                clear hin J4 GIN GOUT r7
                go_wp2_with fail
                (refine region_bw (by kernel_rfl) (by kernel_rfl) ?_; (repeat (first | go_big_quiet_skip | (go_big_quiet_want; go_big_quiet_op; first | go_big_quiet_on | (refine ⟨.bool true, fun zz => ?_, ?_⟩; (go_at_call 79; exact zz.on (C8.out _ (KZ.out zz))); go_big_quiet_on)))); refine wpQuiet_nil ?_; intro wz hw'; obtain ⟨zw, hw''⟩ := hw'; subst hw'')
                go_wp2_with fail
                go_roundw
                case rel => exact ⟨d + 1, N, F, xs, b, c', by omega, by go_num, rfl, J6.belo zw.ok, by omega, bl_go Y4 zw.ok⟩
                case measure => simp [intOf]; omega
              | false =>
                have C8 : Hid (∀ z, RdC z (some ⟨bp, op, none⟩) p → Calls Try.prog 79 #[.slice (some ⟨bp, op, none⟩) p.length c6, .agg #[.int .i64 q1, .int .i64 q2]] z fun e w' => e = .returned (.bool false) ∧ Below z.heap.size z w') := fun z R => by
                  have := l8Has_any (some ⟨bp, op, none⟩) c6 p (q1, q2) z R (by omega)
                  rw [hin] at this
                  exact this
                have hokq : PieceOk (p ++ [(q1, q2)]) := grow_ok HAO.out (by omega) HCP.out (by
                  unfold newsC
                  rw [List.mem_filter]
                  exact ⟨QIN.out, by rw [hin]; rfl⟩)
                have hfl : (firstV (p ++ [(q1, q2)])).length = m := by rw [first_len hokq, List.length_append, HPL.out, HM.out]; rfl
                have hgd := GOUT.out hin
                have hpm : p.length + 1 = m := by rw [HPL.out, HM.out]
                obtain ⟨x8, hx8⟩ : ∃ x8, firstV (p ++ [(q1, q2)]) = x8 := ⟨_, rfl⟩
                rw [hx8] at hfl hgd
                have CF : Hid (∀ (z : World) (base g7 c7 : Nat), OwnC z base (.slice (some ⟨g7, 0, none⟩) (p.length + 1) c7) (p ++ [(q1, q2)]) → Calls Try.prog 28 #[.slice (some ⟨g7, 0, none⟩) (p.length + 1) c7] z (NewRdL x8 m z)) := fun z base g7 c7 R => by
                  have := sPieceFirst_any (some ⟨g7, 0, none⟩) c7 (p ++ [(q1, q2)]) z R.rd (by rw [List.length_append]; unfold maxLen; simp; omega) (by simpa using R.cap)
                  rw [hx8, hfl] at this
                  simp only [List.length_append, List.length_cons, List.length_nil, Nat.zero_add] at this
                  exact this
                have HGD := Lib.hid hgd
                have HWL := Lib.hid hfl
                have J4' := Lib.hid J4
                clear hin GIN GOUT r7 hx8 hgd hfl J4 hpm hokq QIN
                go_wp2_with fail
                (refine region_bw (by kernel_rfl) (by kernel_rfl) ?_; (repeat (first | go_big_quiet_skip | (go_big_quiet_want; go_big_quiet_op; first | go_big_quiet_on | (refine ⟨.bool false, fun zz => ?_, ?_⟩; (go_at_call 79; exact zz.on (C8.out _ (KZ.out zz))); go_big_quiet_on)))); refine wpQuiet_nil ?_; intro wz hw'; obtain ⟨zw, hw''⟩ := hw'; subst hw'')
                have Z5 := zw.ok
                have d5 := f0 zw
                have m0 := f1 zw
                have m1 := f2 zw
                have r5 := KZ.out zw
                clear f0 f1 f2 KZ C8 d7 n0 n1
                generalize zw.wo = w5 at *
                have hbg5 : g < w5.heap.size := Nat.lt_of_lt_of_le hbg Z5.size
                have hbn5 : bn < w5.heap.size := Nat.lt_of_lt_of_le hbn Z5.size
                have KS := Lib.hid (fun (z : World) (hb : Below w5.heap.size w5 z) => And.intro (((bcell hb).1 g k hbg5).trans d5) (And.intro (((bcell hb).1 bn (d * 2) hbn5).trans m0) (((bcell hb).1 bn (d * 2 + 1) hbn5).trans m1)))
                have OA : OwnC (w5.alloc (.cells #[] 72)).drew w5.heap.size (.slice (some ⟨w5.heap.size, 0, none⟩) 0 0) [] := ownC_none w5 w5.heap.size (Nat.le_refl _)
                have OB : OwnC ((w5.alloc (.cells #[] 72)).alloc (.cells #[.int .i64 q1, .int .i64 q2] 72)).drew w5.heap.size (.slice (some ⟨w5.heap.size, 0, none⟩) 0 0) [] := (ownC_none w5 w5.heap.size (Nat.le_refl _)).alloc (.cells #[.int .i64 q1, .int .i64 q2] 72)
                have OC : OwnC ((w5.alloc (.cells #[.int .i64 q1, .int .i64 q2] 72)).alloc (.cells #[] 72)).drew w5.heap.size (.slice (some ⟨w5.heap.size + 1, 0, none⟩) 0 0) [] := by
                  have h := ownC_none (w5.alloc (.cells #[.int .i64 q1, .int .i64 q2] 72)) w5.heap.size (by simp)
                  rw [show (w5.alloc (.cells #[.int .i64 q1, .int .i64 q2] 72)).heap.size = w5.heap.size + 1 by simp] at h
                  exact h
                have B0 : Below w5.heap.size w5 w5.drew := (Below.refl _ _).drew
                have BX : Below w5.heap.size w5 (w5.alloc (.cells #[.int .i64 q1, .int .i64 q2] 72)).drew := (bl_alloc (Below.refl _ _) _).drew
                have BA : Below w5.heap.size w5 (w5.alloc (.cells #[] 72)).drew := (bl_alloc (Below.refl _ _) _).drew
                have BB : Below w5.heap.size w5 ((w5.alloc (.cells #[] 72)).alloc (.cells #[.int .i64 q1, .int .i64 q2] 72)).drew := (bl_alloc (bl_alloc (Below.refl _ _) _) _).drew
                have BC : Below w5.heap.size w5 ((w5.alloc (.cells #[.int .i64 q1, .int .i64 q2] 72)).alloc (.cells #[] 72)).drew := (bl_alloc (bl_alloc (Below.refl _ _) _) _).drew
                have RA : RdC (w5.alloc (.cells #[] 72)).drew (some ⟨bp, op, none⟩) p := Rd.belo r5 BA
                have RB : RdC ((w5.alloc (.cells #[] 72)).alloc (.cells #[.int .i64 q1, .int .i64 q2] 72)).drew (some ⟨bp, op, none⟩) p := Rd.belo r5 BB
                have RC : RdC ((w5.alloc (.cells #[.int .i64 q1, .int .i64 q2] 72)).alloc (.cells #[] 72)).drew (some ⟨bp, op, none⟩) p := Rd.belo r5 BC
                have XB : RdC ((w5.alloc (.cells #[] 72)).alloc (.cells #[.int .i64 q1, .int .i64 q2] 72)).drew (some ⟨w5.heap.size + 1, 0, none⟩) [(q1, q2)] := by
                  have h := OwnC.rd (OwnC.one (w5.alloc (.cells #[] 72)) (q1, q2))
                  rw [show (w5.alloc (.cells #[] 72)).heap.size = w5.heap.size + 1 by simp] at h
                  exact h
                have XC : RdC ((w5.alloc (.cells #[.int .i64 q1, .int .i64 q2] 72)).alloc (.cells #[] 72)).drew (some ⟨w5.heap.size, 0, none⟩) [(q1, q2)] := (OwnC.rd (OwnC.one w5 (q1, q2))).alloc (.cells #[] 72)
                have hp9 : p.length ≤ 1000000 := by omega
                have hp99 : p.length ≤ 1000000000000 := by omega
                have lB : w5.heap.size + 1 < ((w5.alloc (.cells #[] 72)).alloc (.cells #[.int .i64 q1, .int .i64 q2] 72)).drew.heap.size := by show _ < ((w5.alloc (.cells #[] 72)).alloc (.cells #[.int .i64 q1, .int .i64 q2] 72)).heap.size; simp
                have lC : w5.heap.size < ((w5.alloc (.cells #[.int .i64 q1, .int .i64 q2] 72)).alloc (.cells #[] 72)).drew.heap.size := by show _ < ((w5.alloc (.cells #[.int .i64 q1, .int .i64 q2] 72)).alloc (.cells #[] 72)).heap.size; simp; omega
                go_wp2_with fail
                go_region_held3 (fun w' => w'.cell? ⟨g, k, none⟩ = some (.slice (some ⟨bp, op, none⟩) p.length c6) ∧ w'.cell? ⟨bn, d * 2, none⟩ = some (.int .i64 q1) ∧ w'.cell? ⟨bn, d * 2 + 1, none⟩ = some (.int .i64 q2))
                  (first | exact KS.out _ B8z | exact KS.out _ B7 | exact KS.out _ B7.drew | exact KS.out _ B6a | exact KS.out _ B6a.drew | exact KS.out _ B6 | exact KS.out _ B6.drew | exact KS.out _ BB | exact KS.out _ BC | exact KS.out _ BA | exact KS.out _ BX | exact KS.out _ B0)
                  (first
                  | (refine step_app_cells0 _ rfl _ _ rfl w5.heap.size _ rfl OA p bp op p.length c6 rfl RA rfl hp1 hp9 BA.size ?_; intro g6 k6 w6 O6 G6 e6; have B6 := own_grC OA BA BA.size G6; have O6a := O6.alloc (.cells #[.int .i64 q1, .int .i64 q2] 72); have B6a := bl_alloc B6 (.cells #[.int .i64 q1, .int .i64 q2] 72))
                  | (refine step_app_cells0 _ rfl _ _ rfl w5.heap.size _ rfl OB p bp op p.length c6 rfl RB rfl hp1 hp9 BB.size ?_; intro g6 k6 w6 O6 G6 e6; have B6 := own_grC OB BB BB.size G6; have X6 := rdc_old (row := some w5.heap.size) XB lB G6 (by simp))
                  | (refine step_app_cells0 _ rfl _ _ rfl w5.heap.size _ rfl OC p bp op p.length c6 rfl RC rfl hp1 hp9 BC.size ?_; intro g6 k6 w6 O6 G6 e6; have B6 := own_grC OC BC BC.size G6; have X6 := rdc_old (row := some (w5.heap.size + 1)) XC lC G6 (by simp))
                  | (refine step_app_cell (w6.alloc (.cells #[.int .i64 q1, .int .i64 q2] 72)) rfl _ _ rfl w5.heap.size (.slice (some ⟨g6, 0, none⟩) p.length k6) p rfl O6a q1 q2 w6.heap.size rfl (x_new0 w6 q1 q2) (x_new1 w6 q1 q2) hp99 B6a.size ?_; intro g7 k7 w7 O7 G7 e7; have B7 := own_grC O6a B6a B6a.size G7)
                  | (refine step_app_cell w6 rfl _ _ rfl w5.heap.size (.slice (some ⟨g6, 0, none⟩) p.length k6) p rfl O6 q1 q2 _ rfl (rdc_c0 X6) (rdc_c1 X6) hp99 B6.size ?_; intro g7 k7 w7 O7 G7 e7; have B7 := own_grC O6 B6 B6.size G7)
                  | (go_at_call 28; (with_reducible refine (CF.out _ _ _ _ O7).mono ?_); rintro e w8 ⟨Bx, cx, rfl, r8, b8⟩; have B8z := bl_go B7 b8))
                all_goals (
                  have Z8 := bl_go Z5 B8z
                  have J8 := J4'.out.belo Z8
                  have Y8 := bl_go Y4 Z8
                  clear OA OB OC BA BB BC BX B0 RA RB RC XB XC lB lC KS B7 B6 O6 O7 G6 G7 e6 e7 d5 m0 m1 r5 CF B8z Z5 J4' Y4 b8 hbg5 hbn5 hbg hbn
                  have HI := Lib.hid J8
                  have hNc := J8.cap
                  have HFL := Lib.hid J8.len
                  have HXL := Lib.hid J8.xlen
                  have HONE := Lib.hid J8.hd.one
                  have HLEN := Lib.hid J8.lens
                  have KA := Lib.hid (fun (z : World) (hb : Below w8.heap.size w8 z) => And.intro (J8.rd.belo hb) (And.intro (J8.hd.belo hb) (show RdC z Bx x8 from Rd.belo r8 hb)))
                  have Z0 := Below.refl w8.heap.size w8
                  have hm7 : m ≤ 7 := by omega
                  have hm1 : m ≤ 1000000 := by omega
                  have hN9 : N ≤ 1000 := by omega
                  clear J8 r8
                  go_wp2_with fail
                  go_loopw [11] (fun i wr => ∃ a : Nat, a ≤ N ∧ i = .int .i64 a ∧ Hid (PlaceF x8 F a) ∧ Below w8.heap.size w8 wr) (fun i _ => N - (intOf i).toNat)
                  case atStart => exact ⟨0, Nat.zero_le _, rfl, fun j h h2 => by omega, Z0⟩
                  case round =>
                    clear Z0
                    obtain ⟨a, ha, rfl, HK, Z1⟩ := hrel
                    obtain ⟨rx, hx, rB⟩ := KA.out _ Z1
                    have HAT := Lib.hid (insF_at (by rw [HFL.out]; exact ha) HK.out)
                    by_cases haN : a < N
                    · have haF : a < F.length := by rw [HFL.out]; exact haN
                      obtain ⟨B5, c5, e5, m5, r5⟩ := hx.2 a haF
                      have d5 : wr.cell? ⟨b, a, none⟩ = some (.slice B5 F[a].length c5) := by
                        obtain ⟨ad, e, hc⟩ := rx (by intro e; rw [e] at e5; simp at e5)
                        injection e with e
                        subst e
                        have := hc a _ e5
                        rw [add_off, Nat.zero_add] at this
                        exact this
                      have hFa : F[a].length = m := HLEN.out _ (List.getElem_mem haF)
                      rw [hFa] at d5
                      have CB := Lib.hid (l8Before_any B5 Bx m c5 cx F[a] x8 wr r5 rB hFa HWL.out hm1)
                      have CS := Lib.hid (fun (z : World) (hb : Below wr.heap.size wr z) => l8Same_any B5 Bx m c5 cx F[a] x8 z (Rd.belo r5 hb) (Rd.belo rB hb) hFa HWL.out hm1)
                      have haN' : (a : Int) < (N : Int) := by omega
                      have hbl := World.block_lt_of_cell? wr _ d5
                      simp only at hbl
                      cases hlb : ltL F[a] x8 with
                      | true =>
                        rw [hlb] at CB
                        have HP : Hid (PlaceF x8 F (a + 1)) := fun j hj h2 => by
                          rcases Nat.lt_or_ge j a with h3 | h3
                          · exact HK.out j hj h3
                          · obtain rfl : j = a := by omega
                            exact hlb
                        clear hlb hFa e5 m5 r5 haF CS hx rx rB
                        go_wp2_with (go_at_call 80; refine CB.out.mono ?_; rintro e w5 ⟨rfl, b5⟩)
                        go_roundw
                        case rel => first | exact ⟨a + 1, by omega, by go_num, HP.out, bl_go Z1 b5⟩ | ((repeat apply Exists.intro); exact ⟨⟨a + 1, by omega, by go_num, HP.out, bl_go Z1 b5⟩, rfl⟩)
                        case measure => simp [intOf]; omega
                      | false =>
                        rw [hlb] at CB
                        have HLB := Lib.hid hlb
                        have hne2 : ((a : Int) == (N : Int)) = false := by rw [beq_eq_false_iff_ne]; omega
                        by_cases hE : F[a] = x8
                        · have HINS := Lib.hid (HAT.out.1 haF hlb hE)
                          rw [decide_eq_true hE] at CS
                          clear hlb hFa e5 m5 r5 HAT hx rx rB hE
                          go_wp2_with (first | (go_at_call 80; refine CB.out.mono ?_; rintro e w5 ⟨rfl, b5⟩; have d6 := ((bcell b5).1 b a hbl).trans d5) | (go_at_call 81; refine (CS.out _ b5).mono ?_; rintro e w6 ⟨rfl, b6⟩))
                          have Z6 := bl_go (bl_go Z1 b5) b6
                          go_roundw
                          case rel => exact ⟨d + 1, N, F, xs, b, c', by omega, by go_num, rfl, (HI.out.keep HWL.out HINS.out Z6).cast (by rw [HGD.out, ← List.append_assoc]), by omega, bl_go Y8 Z6⟩
                          case measure => simp [intOf]; omega
                        · have HINS := Lib.hid (HAT.out.2.1 haF hlb hE)
                          rw [decide_eq_false hE] at CS
                          clear hlb hFa e5 m5 r5 HAT hx rx rB hE
                          go_wp2_with (first | (go_at_call 80; refine CB.out.mono ?_; rintro e w5 ⟨rfl, b5⟩; have d6 := ((bcell b5).1 b a hbl).trans d5) | (go_at_call 81; refine (CS.out _ b5).mono ?_; rintro e w6 ⟨rfl, b6⟩))
                          have Z6 := bl_go (bl_go Z1 b5) b6
                          have hac : (a : Int) ≤ (c' : Int) := by omega
                          have hac2 : a < c' := by omega
                          have hac3 : (a : Int) < (c' : Int) := by omega
                          have hac5 : ¬ c' = a := by omega
                          have hz6 := Z6.size
                          have KB := Lib.hid (fun (z : World) (hb : Below w6.heap.size w6 z) => KA.out z (bl_go Z6 hb))
                          have OA : OwnH (w6.alloc (.cells #[] 31)).drew w6.heap.size (.slice (some ⟨w6.heap.size, 0, none⟩) 0 0) [] := own_none w6 w6.heap.size (Nat.le_refl _)
                          have OB : OwnH ((w6.alloc (.cells #[] 31)).alloc (.cells #[.slice Bx m cx] 31)).drew w6.heap.size (.slice (some ⟨w6.heap.size, 0, none⟩) 0 0) [] := (own_none w6 w6.heap.size (Nat.le_refl _)).allocT (.cells #[.slice Bx m cx] 31)
                          have OC : OwnH ((w6.alloc (.cells #[.slice Bx m cx] 31)).alloc (.cells #[] 31)).drew w6.heap.size (.slice (some ⟨w6.heap.size + 1, 0, none⟩) 0 0) [] := by
                            have h := own_none (w6.alloc (.cells #[.slice Bx m cx] 31)) w6.heap.size (by simp)
                            rw [show (w6.alloc (.cells #[.slice Bx m cx] 31)).heap.size = w6.heap.size + 1 by simp] at h
                            exact h
                          have BA : Below w6.heap.size w6 (w6.alloc (.cells #[] 31)).drew := (bl_alloc (Below.refl _ _) _).drew
                          have BB : Below w6.heap.size w6 ((w6.alloc (.cells #[] 31)).alloc (.cells #[.slice Bx m cx] 31)).drew := (bl_alloc (bl_alloc (Below.refl _ _) _) _).drew
                          have BC : Below w6.heap.size w6 ((w6.alloc (.cells #[.slice Bx m cx] 31)).alloc (.cells #[] 31)).drew := (bl_alloc (bl_alloc (Below.refl _ _) _) _).drew
                          have XB : ∀ j u, [Value.slice Bx m cx][j]? = some u → ((w6.alloc (.cells #[] 31)).alloc (.cells #[.slice Bx m cx] 31)).drew.cell? ((⟨w6.heap.size + 1, 0, none⟩ : Addr).add j) = some u := by
                            have h := one_new (w6.alloc (.cells #[] 31)) (.slice Bx m cx) 31
                            rw [show (w6.alloc (.cells #[] 31)).heap.size = w6.heap.size + 1 by simp] at h
                            exact h
                          have XC : ∀ j u, [Value.slice Bx m cx][j]? = some u → ((w6.alloc (.cells #[.slice Bx m cx] 31)).alloc (.cells #[] 31)).drew.cell? ((⟨w6.heap.size, 0, none⟩ : Addr).add j) = some u := fun j u hu => by
                            have h1 := one_new w6 (.slice Bx m cx) 31 j u hu
                            exact (World.cell?_alloc_lt _ _ _ (World.block_lt_of_cell? _ _ h1)).trans h1
                          go_wp2_with fail
                          go_region_law (first
                            | (refine step_headsA _ rfl _ _ rfl w6.heap.size _ [] rfl OA ⟨b, 0, none⟩ _ _ (xs.take a) rfl (by rw [List.length_take, HXL.out]; omega) (rd_take (KB.out _ BA).1 a) (one_take HONE.out a) (by simp; omega) BA.size ?_; intro v5 w5 O5 G5; have B5 := own_gr OA BA BA.size G5; rw [List.nil_append] at O5; have O5a := O5.allocT (.cells #[.slice Bx m cx] 31); have B5a := bl_alloc B5 (.cells #[.slice Bx m cx] 31))
                            | (refine step_headsA _ rfl _ _ rfl w6.heap.size _ [] rfl OB ⟨b, 0, none⟩ _ _ (xs.take a) rfl (by rw [List.length_take, HXL.out]; omega) (rd_take (KB.out _ BB).1 a) (one_take HONE.out a) (by simp; omega) BB.size ?_; intro v5 w5 O5 G5; have B5 := own_gr OB BB BB.size G5; rw [List.nil_append] at O5; have X5 := one_old (row := some w6.heap.size) XB G5 (by simp))
                            | (refine step_headsA _ rfl _ _ rfl w6.heap.size _ [] rfl OC ⟨b, 0, none⟩ _ _ (xs.take a) rfl (by rw [List.length_take, HXL.out]; omega) (rd_take (KB.out _ BC).1 a) (one_take HONE.out a) (by simp; omega) BC.size ?_; intro v5 w5 O5 G5; have B5 := own_gr OC BC BC.size G5; rw [List.nil_append] at O5; have X5 := one_old (row := some (w6.heap.size + 1)) XC G5 (by simp))
                            | (refine step_headsA _ rfl _ _ rfl w6.heap.size v5 (xs.take a) rfl O5a ⟨w5.heap.size, 0, none⟩ _ _ [Value.slice Bx m cx] rfl rfl (one_new w5 _ _) (one_one _ _ _) (by rw [List.length_take, HXL.out]; omega) B5a.size ?_; intro v6 w7 O6 G6; have B6 := own_gr O5a B5a B5a.size G6)
                            | (refine step_headsA _ rfl _ _ rfl w6.heap.size v5 (xs.take a) rfl O5 _ _ _ [Value.slice Bx m cx] rfl rfl X5 (one_one _ _ _) (by rw [List.length_take, HXL.out]; omega) B5.size ?_; intro v6 w7 O6 G6; have B6 := own_gr O5 B5 B5.size G6)
                            | (refine step_headsA _ rfl _ _ rfl w6.heap.size v6 (xs.take a ++ [Value.slice Bx m cx]) rfl O6 ⟨b, a, none⟩ _ _ (xs.drop a) rfl (by rw [List.length_drop, HXL.out] <;> omega) (rd_drop (KB.out _ B6).1 a (.inl rfl)) (one_drop HONE.out a) (by simp only [List.length_append, List.length_take, List.length_cons, List.length_nil, HXL.out]; omega) B6.size ?_; intro v8 w9 O8 G8; have B8 := own_gr O6 B6 B6.size G8; obtain ⟨g9, c9, rfl, hc9, rd9⟩ := own_fm O8 (m := N + 1) (by simp only [List.length_append, List.length_take, List.length_drop, List.length_cons, List.length_nil, HXL.out]; omega) (by omega)))
                          all_goals (
                            have HD9 := (KB.out _ B8).2.1.ins a (c := cx) (KB.out _ B8).2.2 HWL.out hm7
                            have Z9 := bl_go Z6 B8
                            clear KB OA OB OC BA BB BC XB XC
                            go_wp2_with fail
                            go_roundw
                            case rel => exact ⟨d + 1, N + 1, _, _, g9, c9, by omega, by go_num, rfl, (HI.out.put HWL.out HINS.out HD9 rd9 hc9 Z9).cast (by rw [HGD.out, ← List.append_assoc]), by omega, bl_go Y8 Z9⟩
                            case measure => simp [intOf]; omega)
                    · obtain rfl : a = N := by omega
                      have HINS := Lib.hid (HAT.out.2.2 HFL.out.symm)
                      have hnn : ((a : Int) == (a : Int)) = true := by simp
                      clear HAT hx rx rB
                      have hac : (a : Int) ≤ (c' : Int) := by omega
                      by_cases hcc : a = c'
                      · subst hcc
                        have Z6 := Z1
                        have hz6 := Z6.size
                        have KB := Lib.hid (fun (z : World) (hb : Below wr.heap.size wr z) => KA.out z (bl_go Z6 hb))
                        have OA : OwnH (wr.alloc (.cells #[] 31)).drew wr.heap.size (.slice (some ⟨wr.heap.size, 0, none⟩) 0 0) [] := own_none wr wr.heap.size (Nat.le_refl _)
                        have OB : OwnH ((wr.alloc (.cells #[] 31)).alloc (.cells #[.slice Bx m cx] 31)).drew wr.heap.size (.slice (some ⟨wr.heap.size, 0, none⟩) 0 0) [] := (own_none wr wr.heap.size (Nat.le_refl _)).allocT (.cells #[.slice Bx m cx] 31)
                        have OC : OwnH ((wr.alloc (.cells #[.slice Bx m cx] 31)).alloc (.cells #[] 31)).drew wr.heap.size (.slice (some ⟨wr.heap.size + 1, 0, none⟩) 0 0) [] := by
                          have h := own_none (wr.alloc (.cells #[.slice Bx m cx] 31)) wr.heap.size (by simp)
                          rw [show (wr.alloc (.cells #[.slice Bx m cx] 31)).heap.size = wr.heap.size + 1 by simp] at h
                          exact h
                        have BA : Below wr.heap.size wr (wr.alloc (.cells #[] 31)).drew := (bl_alloc (Below.refl _ _) _).drew
                        have BB : Below wr.heap.size wr ((wr.alloc (.cells #[] 31)).alloc (.cells #[.slice Bx m cx] 31)).drew := (bl_alloc (bl_alloc (Below.refl _ _) _) _).drew
                        have BC : Below wr.heap.size wr ((wr.alloc (.cells #[.slice Bx m cx] 31)).alloc (.cells #[] 31)).drew := (bl_alloc (bl_alloc (Below.refl _ _) _) _).drew
                        have XB : ∀ j u, [Value.slice Bx m cx][j]? = some u → ((wr.alloc (.cells #[] 31)).alloc (.cells #[.slice Bx m cx] 31)).drew.cell? ((⟨wr.heap.size + 1, 0, none⟩ : Addr).add j) = some u := by
                          have h := one_new (wr.alloc (.cells #[] 31)) (.slice Bx m cx) 31
                          rw [show (wr.alloc (.cells #[] 31)).heap.size = wr.heap.size + 1 by simp] at h
                          exact h
                        have XC : ∀ j u, [Value.slice Bx m cx][j]? = some u → ((wr.alloc (.cells #[.slice Bx m cx] 31)).alloc (.cells #[] 31)).drew.cell? ((⟨wr.heap.size, 0, none⟩ : Addr).add j) = some u := fun j u hu => by
                          have h1 := one_new wr (.slice Bx m cx) 31 j u hu
                          exact (World.cell?_alloc_lt _ _ _ (World.block_lt_of_cell? _ _ h1)).trans h1
                        go_wp2_with fail
                        go_region_law (first
                          | (refine step_headsA _ rfl _ _ rfl wr.heap.size _ [] rfl OA ⟨b, 0, none⟩ _ _ (xs.take a) rfl (by rw [List.length_take, HXL.out]; omega) (rd_take (KB.out _ BA).1 a) (one_take HONE.out a) (by simp; omega) BA.size ?_; intro v5 w5 O5 G5; have B5 := own_gr OA BA BA.size G5; rw [List.nil_append] at O5; have O5a := O5.allocT (.cells #[.slice Bx m cx] 31); have B5a := bl_alloc B5 (.cells #[.slice Bx m cx] 31))
                          | (refine step_headsA _ rfl _ _ rfl wr.heap.size _ [] rfl OB ⟨b, 0, none⟩ _ _ (xs.take a) rfl (by rw [List.length_take, HXL.out]; omega) (rd_take (KB.out _ BB).1 a) (one_take HONE.out a) (by simp; omega) BB.size ?_; intro v5 w5 O5 G5; have B5 := own_gr OB BB BB.size G5; rw [List.nil_append] at O5; have X5 := one_old (row := some wr.heap.size) XB G5 (by simp))
                          | (refine step_headsA _ rfl _ _ rfl wr.heap.size _ [] rfl OC ⟨b, 0, none⟩ _ _ (xs.take a) rfl (by rw [List.length_take, HXL.out]; omega) (rd_take (KB.out _ BC).1 a) (one_take HONE.out a) (by simp; omega) BC.size ?_; intro v5 w5 O5 G5; have B5 := own_gr OC BC BC.size G5; rw [List.nil_append] at O5; have X5 := one_old (row := some (wr.heap.size + 1)) XC G5 (by simp))
                          | (refine step_headsA _ rfl _ _ rfl wr.heap.size v5 (xs.take a) rfl O5a ⟨w5.heap.size, 0, none⟩ _ _ [Value.slice Bx m cx] rfl rfl (one_new w5 _ _) (one_one _ _ _) (by rw [List.length_take, HXL.out]; omega) B5a.size ?_; intro v6 w7 O6 G6; have B6 := own_gr O5a B5a B5a.size G6)
                          | (refine step_headsA _ rfl _ _ rfl wr.heap.size v5 (xs.take a) rfl O5 _ _ _ [Value.slice Bx m cx] rfl rfl X5 (one_one _ _ _) (by rw [List.length_take, HXL.out]; omega) B5.size ?_; intro v6 w7 O6 G6; have B6 := own_gr O5 B5 B5.size G6)
                          | (refine step_headsA _ rfl _ _ rfl wr.heap.size v6 (xs.take a ++ [Value.slice Bx m cx]) rfl O6 ⟨b, 0, none⟩ _ _ (xs.drop a) rfl (by rw [List.length_drop, HXL.out] <;> omega) (rd_drop (KB.out _ B6).1 a (.inr (by rw [HXL.out]; exact Nat.le_refl _))) (one_drop HONE.out a) (by simp only [List.length_append, List.length_take, List.length_cons, List.length_nil, HXL.out]; omega) B6.size ?_; intro v8 w9 O8 G8; have B8 := own_gr O6 B6 B6.size G8; obtain ⟨g9, c9, rfl, hc9, rd9⟩ := own_fm O8 (m := a + 1) (by simp only [List.length_append, List.length_take, List.length_drop, List.length_cons, List.length_nil, HXL.out]; omega) (by omega)))
                        all_goals (
                          have HD9 := (KB.out _ B8).2.1.ins a (c := cx) (KB.out _ B8).2.2 HWL.out hm7
                          have Z9 := bl_go Z6 B8
                          clear KB OA OB OC BA BB BC XB XC
                          go_wp2_with fail
                          go_roundw
                          case rel => exact ⟨d + 1, a + 1, _, _, g9, c9, by omega, by go_num, rfl, (HI.out.put HWL.out HINS.out HD9 rd9 hc9 Z9).cast (by rw [HGD.out, ← List.append_assoc]), by omega, bl_go Y8 Z9⟩
                          case measure => simp [intOf]; omega)
                      · have hac2 : a < c' := by omega
                        have hac3 : (a : Int) < (c' : Int) := by omega
                        have hac5 : ¬ c' = a := by omega
                        have Z6 := Z1
                        have hz6 := Z6.size
                        have KB := Lib.hid (fun (z : World) (hb : Below wr.heap.size wr z) => KA.out z (bl_go Z6 hb))
                        have OA : OwnH (wr.alloc (.cells #[] 31)).drew wr.heap.size (.slice (some ⟨wr.heap.size, 0, none⟩) 0 0) [] := own_none wr wr.heap.size (Nat.le_refl _)
                        have OB : OwnH ((wr.alloc (.cells #[] 31)).alloc (.cells #[.slice Bx m cx] 31)).drew wr.heap.size (.slice (some ⟨wr.heap.size, 0, none⟩) 0 0) [] := (own_none wr wr.heap.size (Nat.le_refl _)).allocT (.cells #[.slice Bx m cx] 31)
                        have OC : OwnH ((wr.alloc (.cells #[.slice Bx m cx] 31)).alloc (.cells #[] 31)).drew wr.heap.size (.slice (some ⟨wr.heap.size + 1, 0, none⟩) 0 0) [] := by
                          have h := own_none (wr.alloc (.cells #[.slice Bx m cx] 31)) wr.heap.size (by simp)
                          rw [show (wr.alloc (.cells #[.slice Bx m cx] 31)).heap.size = wr.heap.size + 1 by simp] at h
                          exact h
                        have BA : Below wr.heap.size wr (wr.alloc (.cells #[] 31)).drew := (bl_alloc (Below.refl _ _) _).drew
                        have BB : Below wr.heap.size wr ((wr.alloc (.cells #[] 31)).alloc (.cells #[.slice Bx m cx] 31)).drew := (bl_alloc (bl_alloc (Below.refl _ _) _) _).drew
                        have BC : Below wr.heap.size wr ((wr.alloc (.cells #[.slice Bx m cx] 31)).alloc (.cells #[] 31)).drew := (bl_alloc (bl_alloc (Below.refl _ _) _) _).drew
                        have XB : ∀ j u, [Value.slice Bx m cx][j]? = some u → ((wr.alloc (.cells #[] 31)).alloc (.cells #[.slice Bx m cx] 31)).drew.cell? ((⟨wr.heap.size + 1, 0, none⟩ : Addr).add j) = some u := by
                          have h := one_new (wr.alloc (.cells #[] 31)) (.slice Bx m cx) 31
                          rw [show (wr.alloc (.cells #[] 31)).heap.size = wr.heap.size + 1 by simp] at h
                          exact h
                        have XC : ∀ j u, [Value.slice Bx m cx][j]? = some u → ((wr.alloc (.cells #[.slice Bx m cx] 31)).alloc (.cells #[] 31)).drew.cell? ((⟨wr.heap.size, 0, none⟩ : Addr).add j) = some u := fun j u hu => by
                          have h1 := one_new wr (.slice Bx m cx) 31 j u hu
                          exact (World.cell?_alloc_lt _ _ _ (World.block_lt_of_cell? _ _ h1)).trans h1
                        go_wp2_with fail
                        go_region_law (first
                          | (refine step_headsA _ rfl _ _ rfl wr.heap.size _ [] rfl OA ⟨b, 0, none⟩ _ _ (xs.take a) rfl (by rw [List.length_take, HXL.out]; omega) (rd_take (KB.out _ BA).1 a) (one_take HONE.out a) (by simp; omega) BA.size ?_; intro v5 w5 O5 G5; have B5 := own_gr OA BA BA.size G5; rw [List.nil_append] at O5; have O5a := O5.allocT (.cells #[.slice Bx m cx] 31); have B5a := bl_alloc B5 (.cells #[.slice Bx m cx] 31))
                          | (refine step_headsA _ rfl _ _ rfl wr.heap.size _ [] rfl OB ⟨b, 0, none⟩ _ _ (xs.take a) rfl (by rw [List.length_take, HXL.out]; omega) (rd_take (KB.out _ BB).1 a) (one_take HONE.out a) (by simp; omega) BB.size ?_; intro v5 w5 O5 G5; have B5 := own_gr OB BB BB.size G5; rw [List.nil_append] at O5; have X5 := one_old (row := some wr.heap.size) XB G5 (by simp))
                          | (refine step_headsA _ rfl _ _ rfl wr.heap.size _ [] rfl OC ⟨b, 0, none⟩ _ _ (xs.take a) rfl (by rw [List.length_take, HXL.out]; omega) (rd_take (KB.out _ BC).1 a) (one_take HONE.out a) (by simp; omega) BC.size ?_; intro v5 w5 O5 G5; have B5 := own_gr OC BC BC.size G5; rw [List.nil_append] at O5; have X5 := one_old (row := some (wr.heap.size + 1)) XC G5 (by simp))
                          | (refine step_headsA _ rfl _ _ rfl wr.heap.size v5 (xs.take a) rfl O5a ⟨w5.heap.size, 0, none⟩ _ _ [Value.slice Bx m cx] rfl rfl (one_new w5 _ _) (one_one _ _ _) (by rw [List.length_take, HXL.out]; omega) B5a.size ?_; intro v6 w7 O6 G6; have B6 := own_gr O5a B5a B5a.size G6)
                          | (refine step_headsA _ rfl _ _ rfl wr.heap.size v5 (xs.take a) rfl O5 _ _ _ [Value.slice Bx m cx] rfl rfl X5 (one_one _ _ _) (by rw [List.length_take, HXL.out]; omega) B5.size ?_; intro v6 w7 O6 G6; have B6 := own_gr O5 B5 B5.size G6)
                          | (refine step_headsA _ rfl _ _ rfl wr.heap.size v6 (xs.take a ++ [Value.slice Bx m cx]) rfl O6 ⟨b, a, none⟩ _ _ (xs.drop a) rfl (by rw [List.length_drop, HXL.out] <;> omega) (rd_drop (KB.out _ B6).1 a (.inl rfl)) (one_drop HONE.out a) (by simp only [List.length_append, List.length_take, List.length_cons, List.length_nil, HXL.out]; omega) B6.size ?_; intro v8 w9 O8 G8; have B8 := own_gr O6 B6 B6.size G8; obtain ⟨g9, c9, rfl, hc9, rd9⟩ := own_fm O8 (m := a + 1) (by simp only [List.length_append, List.length_take, List.length_drop, List.length_cons, List.length_nil, HXL.out]; omega) (by omega)))
                        all_goals (
                          have HD9 := (KB.out _ B8).2.1.ins a (c := cx) (KB.out _ B8).2.2 HWL.out hm7
                          have Z9 := bl_go Z6 B8
                          clear KB OA OB OC BA BB BC XB XC
                          go_wp2_with fail
                          go_roundw
                          case rel => exact ⟨d + 1, a + 1, _, _, g9, c9, by omega, by go_num, rfl, (HI.out.put HWL.out HINS.out HD9 rd9 hc9 Z9).cast (by rw [HGD.out, ← List.append_assoc]), by omega, bl_go Y8 Z9⟩
                          case measure => simp [intOf]; omega))
            · obtain rfl : d = 4 := by omega
              have hge : ¬ ((4 : Int) < 4) := by omega
              have J5 := J4.cast (show _ = gI L k ++ gJ p (j + 1) by rw [HGJ.out _ HCC.out, ← gD_four, ← List.append_assoc])
              clear J4
              go_wp2_with fail
              go_roundw
              case rel => exact ⟨j + 1, N, F, xs, b, c', by omega, by go_num, rfl, J5, by omega⟩
              case measure => simp [intOf]; omega
        · obtain rfl : j = p.length := by omega
          have J5 := J2.cast (show _ = gI L (k + 1) by rw [HGI.out p HP.out, ← gJ_all])
          clear J2
          go_wp2_with fail
          go_roundw
          case rel => exact ⟨k + 1, N, F, xs, b, c', by omega, by go_num, rfl, J5, by omega⟩
          case measure => simp [intOf]; omega
    · obtain rfl : k = N0 := by omega
      have HF : Hid (F = allP (t + 2)) := by
        show F = incOf (growL (allP (t + 1)))
        rw [HLL.out, I1.is, ← HL.out, gI_all]
      go_wp2_with fail
      go_ret
      have hfin : NewRdSS F w (.returned (.slice (some ⟨b, 0, none⟩) N c')) wr := ⟨b, c', xs, by rw [I1.len], by rw [I1.len]; exact I1.cap, I1.rd, I1.hd, bl_go HB.out I1.ok⟩
      rw [HF.out] at hfin
      exact hfin
theorem sPiecesAll_n : ∀ (t : Nat), t + 1 ≤ 5 → ∀ (w : World) (n : Int), n = ((t + 1 : Nat) : Int) → Calls Try.prog 15 #[.int .i64 n] w (NewRdSS (allP (t + 1)) w)
  | 0, _, w, n, hn => by
    subst hn
    exact sPiecesAll_1 w
  | t + 1, h, w, n, hn => by
    subst hn
    exact sPiecesAll_s t (t + 2) w rfl h (fun z n hn => sPiecesAll_n t (by omega) z n (by omega))
theorem sPiecesAll_any (m : Int) (w : World) : Calls Try.prog 15 #[.int .i64 m] w (NewRdSS (allV m) w) := by
  by_cases h : 1 ≤ m ∧ m ≤ 5
  · unfold allV
    rw [if_pos h]
    obtain ⟨k, rfl⟩ := Int.eq_ofNat_of_zero_le (show 0 ≤ m by omega)
    obtain ⟨t, rfl⟩ : ∃ t, k = t + 1 := ⟨k - 1, by omega⟩
    exact sPiecesAll_n t (by omega) w _ rfl
  · unfold allV
    rw [if_neg h]
    exact sPiecesAll_f m w h
end Go.Proofs.Ytbplnjigoghboaa
