/- Contract: the program's CutTwo, where there is nothing to cut; for all arguments. -/
import Derived.Test.YthkpiacanfajbaaCutI
namespace Go.Proofs.Ythkpiacanfajbaa
open Go.RowKit

theorem cutRet_none {w w' : World} (h : Below w.heap.size w w') : CutRet [] false w (.returned (.tuple #[.slice none 0 0, .bool false])) w' := ⟨none, rfl, Wr.none_ _ _ _, h⟩
set_option maxRecDepth 100000 in
set_option maxHeartbeats 1000000 in
/-- no way around -/
theorem iCutTwo_no1 (W T a b : Int) (w : World) (hr : roundOk W T = false) :
    Calls Try.prog 38 #[.int .i64 W, .int .i64 T, .int .i64 a, .int .i64 b] w (CutRet [] false w) := by
  have hX : roundOf W T = [] := by unfold roundOf; rw [hr]; rfl
  have cI := fun w => iRoundOf_nil W T w
  simp only [hX] at cI
  have CI := Lib.hid cI
  clear cI hX hr
  have hnil : ∀ w, (binOp .eql 25 (.slice none 0 0) (.slice none 0 0)).run Try.prog w = .ok (.bool true) w := fun w => Lib.run_eql_slice_nil w 25 3 _ _ _ _ _ Try.underlying25
  go_enter Try.func38, Try.ntmps38
  go_wp2_with fail
  refine (CI.out _).mono ?_
  rintro e v1 ⟨A, rfl, -, b1, hA⟩
  obtain rfl := hA rfl
  simp only [List.length_nil]
  go_wp2_with fail
  refine (iRegionBox_any W T _).mono ?_
  rintro e v2 ⟨A2, c2, rfl, g2, b2⟩
  have k1 := ((bcell b2).1 v1.heap.size 0 (by simp)).trans (cell_of_row _ _ _ _ _ _ (heap_alloc_new v1 (.cells #[.slice none 0 0] 25)))
  simp at k1
  have BQ := bl_go (bl_go (bl_alloc b1 (.cells #[.slice none 0 0] 25)) b2) (bl_alloc (Below.refl _ _) (.cells #[.int .i64 (boxW W T), .int .i64 (boxT W T), .slice A2 (boxB W T).length c2] 31))
  have k2 := ((bcell ((Below.refl v2.heap.size v2).alloc (Nat.le_refl _) (.cells #[.int .i64 (boxW W T), .int .i64 (boxT W T), .slice A2 (boxB W T).length c2] 31))).1 v1.heap.size 0 (by have := World.block_lt_of_cell? v2 _ k1; simpa using this)).trans k1
  clear k1 g2 b1 b2
  go_wp2_with fail
  generalize v2.alloc (.cells #[.int .i64 (boxW W T), .int .i64 (boxT W T), .slice A2 (boxB W T).length c2] 31) = wq at *
  have s1 := World.block_lt_of_cell? wq _ k2
  simp only at s1
  have L0 : ∀ z : BW wq, z.wo.cell? ⟨v1.heap.size, 0, none⟩ = some (.slice none 0 0) := fun z => z.cell s1 k2
  (refine region_bw (by kernel_rfl) (by kernel_rfl) ?_; (repeat (first | go_big_quiet_skip | (go_big_quiet_want; go_big_quiet_op; first | go_big_quiet_on | (refine ⟨.bool true, fun zz => ?_, ?_⟩; (fail); go_big_quiet_on)))); refine wpQuiet_nil ?_; intro wz hw'; obtain ⟨zw, hw''⟩ := hw'; subst hw'')
  go_wp2
  go_ret2
  exact cutRet_none (bl_go BQ zw.ok)

set_option maxRecDepth 100000 in
set_option maxHeartbeats 1000000 in
/-- no such cells, or both of one colour -/
theorem iCutTwo_no2 (W T a b : Int) (w : World) (hr : roundOk W T = true) (h : inB a 0 (W * T - 1) = false ∨ (inB a 0 (W * T - 1) = true ∧ inB b 0 (W * T - 1) = false) ∨ (inB a 0 (W * T - 1) = true ∧ inB b 0 (W * T - 1) = true ∧ oddPair W a b = false)) :
    Calls Try.prog 38 #[.int .i64 W, .int .i64 T, .int .i64 a, .int .i64 b] w (CutRet [] false w) := by
  obtain ⟨w2, w6, t2, t6, hwt, Wn, Tn, n, rfl, rfl, hn, hX, hXl, hXb, hXi, n4, n24⟩ := cut_facts hr
  have cI := fun w => iRoundOf_nil Wn Tn w
  have cB := fun w => iRegionBox_ok Wn Tn n w (by omega) w6 (by omega) t6 hn hwt
  simp only [hX] at cI
  rw [hn] at h
  generalize roundL Wn Tn = X at cI hXl
  subst hXl
  have CI := Lib.hid cI
  have CB := Lib.hid cB
  have H := Lib.hid h
  have HN := Lib.hid hn
  have W1 : (1 : Int) ≤ Wn := by omega
  clear cI cB hXb hXi h hX hr hn
  have HK := Lib.hid hwt
  clear hwt
  go_enter Try.func38, Try.ntmps38
  go_wp2_with fail
  refine (CI.out _).mono ?_
  rintro e v1 ⟨A, rfl, g1, b1, -⟩
  go_wp2_with fail
  refine (CB.out _).mono ?_
  rintro e v2 ⟨A2, c2, rfl, g2, b2⟩
  simp only [List.length_replicate]
  have k1 := ((bcell b2).1 v1.heap.size 0 (by simp)).trans (cell_of_row _ _ _ _ _ _ (heap_alloc_new v1 (.cells #[.slice A X.length X.length] 25)))
  simp at k1
  have X2 := C3.new v2 (.int .i64 Wn) (.int .i64 Tn) (.slice A2 X.length c2) 31
  have BQ := bl_go (bl_go (bl_alloc b1 (.cells #[.slice A X.length X.length] 25)) b2) (bl_alloc (Below.refl _ _) (.cells #[.int .i64 Wn, .int .i64 Tn, .slice A2 X.length c2] 31))
  have k2 : (v2.alloc (.cells #[.int .i64 Wn, .int .i64 Tn, .slice A2 X.length c2] 31)).cell? ⟨v1.heap.size, 0, none⟩ = some (.slice A X.length X.length) :=
    ((bcell ((Below.refl v2.heap.size v2).alloc (Nat.le_refl _) _)).1 v1.heap.size 0 (by have := World.block_lt_of_cell? v2 _ k1; simpa using this)).trans k1
  obtain ⟨bA, oA, rfl, -⟩ := g1.rd.atEM (k := 0) (by omega)
  clear k1 g2 b1 b2 g1
  go_wp2_with fail
  generalize v2.alloc (.cells #[.int .i64 Wn, .int .i64 Tn, .slice A2 X.length c2] 31) = wq at *
  generalize v1.heap.size = p1 at *
  generalize v2.heap.size = p2 at *
  obtain ⟨x0, x1, x2⟩ := id X2
  have s1 := World.block_lt_of_cell? wq _ k2
  have s2 := World.block_lt_of_cell? wq _ x0
  simp only at s1 s2
  have hnil : ∀ w, (binOp .eql 25 (.slice (some ⟨bA, oA, none⟩) X.length X.length) (.slice none 0 0)).run Try.prog w = .ok (.bool false) w := fun w => Lib.run_eql_slice_nil w 25 3 _ _ _ _ _ Try.underlying25
  have L0 : ∀ z : BW wq, z.wo.cell? ⟨p1, 0, none⟩ = some (.slice (some ⟨bA, oA, none⟩) X.length X.length) := fun z => z.cell s1 k2
  have L1 : ∀ z : BW wq, z.wo.cell? ⟨p2, 0, none⟩ = some (.int .i64 Wn) := fun z => z.cell s2 x0
  have L2 : ∀ z : BW wq, z.wo.cell? ⟨p2, 1, none⟩ = some (.int .i64 Tn) := fun z => z.cell s2 x1
  have L3 : ∀ z : BW wq, z.wo.cell? ⟨p2, 2, none⟩ = some (.slice A2 X.length c2) := fun z => z.cell s2 x2
  rcases H.out with h | ⟨ha, h⟩ | ⟨ha, hb, h⟩
  · have HIA := Lib.hid (fun z => by have := has_any Wn Tn A2 X.length c2 a z (by omega); rw [h] at this; exact this)
    clear h
    (refine region_bw (by kernel_rfl) (by kernel_rfl) ?_; (repeat (first | go_big_quiet_skip | (go_big_quiet_want; go_big_quiet_op; first | go_big_quiet_on | (refine ⟨.bool false, fun zz => ?_, ?_⟩; (go_at_call 59; with_reducible exact zz.on (HIA.out zz.wo)); go_big_quiet_on)))); refine wpQuiet_nil ?_; intro wz hw'; obtain ⟨zw, hw''⟩ := hw'; subst hw'')
    go_wp2
    go_ret2
    exact cutRet_none (bl_go BQ zw.ok)
  · have HIA := Lib.hid (fun z => by have := has_any Wn Tn A2 X.length c2 a z (by omega); rw [ha] at this; exact this)
    have HIB := Lib.hid (fun z => by have := has_any Wn Tn A2 X.length c2 b z (by omega); rw [h] at this; exact this)
    clear ha h
    (refine region_bw (by kernel_rfl) (by kernel_rfl) ?_; (repeat (first | go_big_quiet_skip | (go_big_quiet_want; go_big_quiet_op; first | go_big_quiet_on | (refine ⟨.bool true, fun zz => ?_, ?_⟩; (go_at_call 59; with_reducible exact zz.on (HIA.out zz.wo)); go_big_quiet_on) | (refine ⟨.bool false, fun zz => ?_, ?_⟩; (go_at_call 59; with_reducible exact zz.on (HIB.out zz.wo)); go_big_quiet_on)))); refine wpQuiet_nil ?_; intro wz hw'; obtain ⟨zw, hw''⟩ := hw'; subst hw'')
    go_wp2
    go_ret2
    exact cutRet_none (bl_go BQ zw.ok)
  · have HIA := Lib.hid (fun z => by have := has_any Wn Tn A2 X.length c2 a z (by omega); rw [ha] at this; exact this)
    have HIB := Lib.hid (fun z => by have := has_any Wn Tn A2 X.length c2 b z (by omega); rw [hb] at this; exact this)
    have ha' := ha
    have hb' := hb
    unfold inB at ha' hb'
    simp at ha' hb'
    have HDA := Lib.hid (fun z => dark_any Wn Tn (.slice A2 X.length c2) a z W1 w6 (by omega) (by omega))
    have HDB := Lib.hid (fun z => dark_any Wn Tn (.slice A2 X.length c2) b z W1 w6 (by omega) (by omega))
    have dk := odd_dark (W := (Wn : Int)) (a := a) (b := b)
    rw [h] at dk
    clear ha hb h ha' hb'
    (refine region_bw (by kernel_rfl) (by kernel_rfl) ?_; (repeat (first | go_big_quiet_skip | (go_big_quiet_want; go_big_quiet_op; first | go_big_quiet_on | (refine ⟨.bool true, fun zz => ?_, ?_⟩; (go_at_call 59; first | (with_reducible exact zz.on (HIA.out zz.wo)) | (with_reducible exact zz.on (HIB.out zz.wo))); go_big_quiet_on) | (refine ⟨.bool (darkB Wn a), fun zz => ?_, ?_⟩; (go_at_call 80; with_reducible exact zz.on (HDA.out zz.wo)); go_big_quiet_on) | (refine ⟨.bool (darkB Wn b), fun zz => ?_, ?_⟩; (go_at_call 80; with_reducible exact zz.on (HDB.out zz.wo)); go_big_quiet_on)))); refine wpQuiet_nil ?_; intro wz hw'; obtain ⟨zw, hw''⟩ := hw'; subst hw'')
    go_wp2
    go_ret2
    exact cutRet_none (bl_go BQ zw.ok)

theorem iCutTwo_any (W T a b : Int) (w : World) : Calls Try.prog 38 #[.int .i64 W, .int .i64 T, .int .i64 a, .int .i64 b] w (CutRet (cutOf W T a b) (cutOk W T a b) w) := by
  cases hr : roundOk W T with
  | false =>
    have h : cutOk W T a b = false := by unfold cutOk; rw [hr]; rfl
    have h2 : cutOf W T a b = [] := by unfold cutOf; rw [h]; rfl
    rw [h, h2]; exact iCutTwo_no1 W T a b w hr
  | true =>
    cases ha : inB a 0 (W * T - 1) with
    | false =>
      have h : cutOk W T a b = false := by unfold cutOk; rw [hr, ha]; rfl
      have h2 : cutOf W T a b = [] := by unfold cutOf; rw [h]; rfl
      rw [h, h2]; exact iCutTwo_no2 W T a b w hr (.inl ha)
    | true =>
      cases hb : inB b 0 (W * T - 1) with
      | false =>
        have h : cutOk W T a b = false := by unfold cutOk; rw [hr, ha, hb]; rfl
        have h2 : cutOf W T a b = [] := by unfold cutOf; rw [h]; rfl
        rw [h, h2]; exact iCutTwo_no2 W T a b w hr (.inr (.inl ⟨ha, hb⟩))
      | true =>
        cases ho : oddPair W a b with
        | false =>
          have h : cutOk W T a b = false := by unfold cutOk; rw [hr, ha, hb, ho]; rfl
          have h2 : cutOf W T a b = [] := by unfold cutOf; rw [h]; rfl
          rw [h, h2]; exact iCutTwo_no2 W T a b w hr (.inr (.inr ⟨ha, hb, ho⟩))
        | true =>
          have h : cutOk W T a b = true := by unfold cutOk; rw [hr, ha, hb, ho]; rfl
          have h2 : cutOf W T a b = cutI W T (roundL W.toNat T.toNat) a b := by unfold cutOf; rw [if_pos h]
          rw [h, h2]
          unfold inB at ha hb
          simp at ha hb
          exact iCutTwo_ok W T a b w hr (by omega) (by omega) (by omega) (by omega) ho
end Go.Proofs.Ythkpiacanfajbaa
