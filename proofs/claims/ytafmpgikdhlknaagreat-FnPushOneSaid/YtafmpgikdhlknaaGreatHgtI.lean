
/- Contracts: the program's heights of a tiling. -/
import Derived.Test.YtafmpgikdhlknaaGreatSidI
import Derived.Test.YtafmpgikdhlknaaGreatByN
import Derived.Test.YtafmpgikdhlknaaGreatRepI
import Derived.Test.YtafmpgikdhlknaaGreatStep
import Derived.Test.YtafmpgikdhlknaaGreatAlive
import Derived.Test.YtafmpgikdhlknaaGreatBw
import Derived.Deep.Cut
import Derived.Deep.CutRange
import Derived.Lib.MinMax
namespace Go.Proofs.YtafmpgikdhlknaaGreat
open Go.RowKit

theorem nc_bd {W T : Int} {n : Nat} (hf : FldF W T n) : (ncN W T : Int) = (W + 1) * (T + 1) ∧ 1 ≤ ncN W T ∧ ncN W T ≤ 49 := by
  have h1 := hf.w1
  have h2 := hf.w6
  have h3 := hf.t1
  have h4 := hf.t6
  have h5 : 0 < (W + 1) * (T + 1) := Int.mul_pos (by omega) (by omega)
  have h6 := Int.mul_le_mul (show W + 1 ≤ 7 by omega) (show T + 1 ≤ 7 by omega) (by omega) (by omega)
  unfold ncN
  omega
set_option maxHeartbeats 1000000 in
theorem corners_any (W T : Int) (S : Value) (n : Nat) (w : World) (hf : FldF W T n) :
    Calls Tryz.prog 36 #[.agg #[.int .i64 W, .int .i64 T, S]] w fun e w' => e = .returned (.int .i64 (ncN W T : Nat)) ∧ Below w.heap.size w w' := by
  obtain ⟨h1, h2, h3⟩ := nc_bd hf
  obtain ⟨w1, w6, t1, t6, -⟩ := hf
  have X0 := C3.new w (.int .i64 W) (.int .i64 T) S 25
  obtain ⟨x0, x1, x2⟩ := id X0
  have j1 : IntKind.i64.wrap ((W + 1) * (T + 1)) = (ncN W T : Int) := by rw [← h1]; exact IntWalk.i64_in _ (by omega)
  clear h1
  go_enter Tryz.func36, Tryz.ntmps36
  go_wp2_with fail
  go_ret
  exact ⟨rfl, bl_alloc (Below.refl _ _) _⟩
def sdA (W : Int) (v : Nat) (b : Bool) : Value := .agg #[.int .i64 (v : Int), .int .i64 (sdT W v b), .int .i64 (slx W v b), .int .i64 (cY W v), .int .i64 (srx W v), .int .i64 (sry W v b)]
set_option maxHeartbeats 1000000 in
theorem dark_sd (x0 x1 lx ly x4 x5 : Int) (w : World) (h1 : -1 ≤ lx ∧ lx ≤ 10) (h2 : 0 ≤ ly ∧ ly ≤ 10) :
    Calls Tryz.prog 131 #[.agg #[.int .i64 x0, .int .i64 x1, .int .i64 lx, .int .i64 ly, .int .i64 x4, .int .i64 x5]] w fun e w' => e = .returned (.bool (decide ((lx + ly) % 2 = 0))) ∧ Below w.heap.size w w' := by
  have hd : ((lx + ly).tmod 2 == 0) = decide ((lx + ly) % 2 = 0) := by
    rw [Bool.eq_iff_iff, beq_iff_eq, decide_eq_true_eq]
    by_cases h0 : 0 ≤ lx + ly
    · rw [Int.tmod_eq_emod_of_nonneg h0]
    · rw [show lx + ly = -1 by omega]; decide
  obtain ⟨h3, h4⟩ := h1
  obtain ⟨h5, h6⟩ := h2
  have HD := Lib.hid hd
  clear hd
  go_enter Tryz.func131, Tryz.ntmps131
  go_wp2_with fail
  go_ret
  exact ⟨ret_b HD.out, bl_alloc (Below.refl _ _) _⟩
set_option maxHeartbeats 1000000 in
theorem rise_sd (x0 x1 lx ly x4 x5 : Int) (w : World) (h1 : -1 ≤ lx ∧ lx ≤ 10) (h2 : 0 ≤ ly ∧ ly ≤ 10) :
    Calls Tryz.prog 96 #[.agg #[.int .i64 x0, .int .i64 x1, .int .i64 lx, .int .i64 ly, .int .i64 x4, .int .i64 x5]] w fun e w' => e = .returned (.int .i64 (rho lx ly)) ∧ Below w.heap.size w w' := by
  have B0 := bl_alloc (Below.refl w.heap.size w) (.cells #[.int .i64 x0, .int .i64 x1, .int .i64 lx, .int .i64 ly, .int .i64 x4, .int .i64 x5] 95)
  have CD := Lib.hid (fun z => dark_sd x0 x1 lx ly x4 x5 z h1 h2)
  have HR := Lib.hid (show rho lx ly = if decide ((lx + ly) % 2 = 0) = true then 1 else -1 by unfold rho; by_cases h : (lx + ly) % 2 = 0 <;> simp [h])
  generalize decide ((lx + ly) % 2 = 0) = d at CD HR
  clear h1 h2
  go_enter Tryz.func96, Tryz.ntmps96
  go_wp2_with fail
  refine (CD.out _).mono ?_
  rintro e w1 ⟨rfl, b1⟩
  cases d with
  | true =>
    go_wp2_with fail
    go_ret
    exact ⟨ret_i (by rw [HR.out]; rfl), bl_go B0 b1⟩
  | false =>
    go_wp2_with fail
    go_ret
    exact ⟨ret_i (by rw [HR.out]; rfl), bl_go B0 b1⟩
/-- a block of six cells -/
def C6 (w : World) (b : Nat) (x0 x1 x2 x3 x4 x5 : Value) : Prop := w.cell? ⟨b, 0, none⟩ = some x0 ∧ w.cell? ⟨b, 1, none⟩ = some x1 ∧ w.cell? ⟨b, 2, none⟩ = some x2 ∧ w.cell? ⟨b, 3, none⟩ = some x3 ∧ w.cell? ⟨b, 4, none⟩ = some x4 ∧ w.cell? ⟨b, 5, none⟩ = some x5
theorem C6.new (w : World) (x0 x1 x2 x3 x4 x5 : Value) (t : TypeId) : C6 (w.alloc (.cells #[x0, x1, x2, x3, x4, x5] t)) w.heap.size x0 x1 x2 x3 x4 x5 :=
  ⟨cell_of_row _ _ _ _ _ _ (heap_alloc_new w _), cell_of_row _ _ _ _ _ _ (heap_alloc_new w _), cell_of_row _ _ _ _ _ _ (heap_alloc_new w _), cell_of_row _ _ _ _ _ _ (heap_alloc_new w _), cell_of_row _ _ _ _ _ _ (heap_alloc_new w _), cell_of_row _ _ _ _ _ _ (heap_alloc_new w _)⟩
theorem C6.lt {w : World} {b : Nat} {x0 x1 x2 x3 x4 x5 : Value} (h : C6 w b x0 x1 x2 x3 x4 x5) : b < w.heap.size := by have := World.block_lt_of_cell? w _ h.1; simpa using this
theorem C6.belo {w w' : World} {b : Nat} {x0 x1 x2 x3 x4 x5 : Value} (h : C6 w b x0 x1 x2 x3 x4 x5) (hb : Below w.heap.size w w') : C6 w' b x0 x1 x2 x3 x4 x5 := by
  have hl := h.lt
  obtain ⟨a0, a1, a2, a3, a4, a5⟩ := h
  exact ⟨(hb.cell (p := ⟨b, 0, none⟩) hl).trans a0, (hb.cell (p := ⟨b, 1, none⟩) hl).trans a1, (hb.cell (p := ⟨b, 2, none⟩) hl).trans a2, (hb.cell (p := ⟨b, 3, none⟩) hl).trans a3, (hb.cell (p := ⟨b, 4, none⟩) hl).trans a4, (hb.cell (p := ⟨b, 5, none⟩) hl).trans a5⟩
theorem sd_in {W T : Int} {n : Nat} (hf : FldF W T n) {v : Nat} (hv : v < ncN W T) (b : Bool) : (-1 ≤ slx W v b ∧ slx W v b ≤ 6) ∧ (0 ≤ cY W v ∧ cY W v ≤ 6) ∧ (0 ≤ srx W v ∧ srx W v ≤ 6) ∧ (-1 ≤ sry W v b ∧ sry W v b ≤ 6) := by
  obtain ⟨a1, a2, a3, a4, -⟩ := c_xy (n := n) ⟨hf.w1, hf.t1, hf.len⟩ hv
  have := hf.w6
  have := hf.t6
  unfold slx srx sry
  cases b <;> simp <;> omega
set_option maxHeartbeats 1000000 in
theorem inner_any (W T : Int) (A : Option Addr) (c n : Nat) (bs : List Bool) (x0 x1 lx ly rx ry : Int) (w : World) (hr : Rd w A (bs.map .bool)) (hf : FldF W T n) (hn : bs.length = n)
    (h1 : -1 ≤ lx ∧ lx ≤ 6) (h2 : 0 ≤ ly ∧ ly ≤ 6) (h3 : 0 ≤ rx ∧ rx ≤ 6) (h4 : -1 ≤ ry ∧ ry ≤ 6) :
    Calls Tryz.prog 129 #[.agg #[.int .i64 W, .int .i64 T, .slice A n c], .agg #[.int .i64 x0, .int .i64 x1, .int .i64 lx, .int .i64 ly, .int .i64 rx, .int .i64 ry]] w fun e w' => e = .returned (.bool (atQ W T bs lx ly && atQ W T bs rx ry)) ∧ Below w.heap.size w w' := by
  obtain ⟨w1, w6, t1, t6, hlen⟩ := id hf
  have CAT := Lib.hid (fun (x y : Int) (z : World) (R : Rd z A (bs.map .bool)) (p : -1000 ≤ x ∧ x ≤ 1000) (q : -1000 ≤ y ∧ y ≤ 1000) => by
    have := iAt_any W T A c bs x y z R w1 w6 t1 t6 (by rw [hn]; exact hlen) p q
    rw [hn] at this
    exact this)
  have C1 := Lib.hid (fun (z : World) (R : Rd z A (bs.map .bool)) => CAT.out lx ly z R (by omega) (by omega))
  have C2 := Lib.hid (fun (z : World) (R : Rd z A (bs.map .bool)) => CAT.out rx ry z R (by omega) (by omega))
  generalize atQ W T bs lx ly = p at C1 ⊢
  generalize atQ W T bs rx ry = q at C2 ⊢
  have X0 := C3.new w (.int .i64 W) (.int .i64 T) (.slice A n c) 25
  have Y0 := C6.new (w.alloc (.cells #[.int .i64 W, .int .i64 T, .slice A n c] 25)) (.int .i64 x0) (.int .i64 x1) (.int .i64 lx) (.int .i64 ly) (.int .i64 rx) (.int .i64 ry) 95
  have X1 := X0.alloc (.cells #[.int .i64 x0, .int .i64 x1, .int .i64 lx, .int .i64 ly, .int .i64 rx, .int .i64 ry] 95)
  have B0 := bl_alloc (bl_alloc (Below.refl w.heap.size w) (.cells #[.int .i64 W, .int .i64 T, .slice A n c] 25)) (.cells #[.int .i64 x0, .int .i64 x1, .int .i64 lx, .int .i64 ly, .int .i64 rx, .int .i64 ry] 95)
  have R0 := hr.belo B0
  obtain ⟨a0, a1, a2⟩ := id X1
  have hs0 : (w.alloc (.cells #[.int .i64 W, .int .i64 T, .slice A n c] 25)).heap.size = w.heap.size + 1 := by simp
  rw [hs0] at Y0
  obtain ⟨y0, y1, y2, y3, y4, y5⟩ := id Y0
  clear X0 hs0 hlen hf hn h1 h2 h3 h4
  go_enter Tryz.func129, Tryz.ntmps129
  go_wp2_with fail
  refine (C1.out _ R0).mono ?_
  rintro e w1 ⟨rfl, b1⟩
  have X2 := X1.belo b1
  have Y2 := Y0.belo b1
  have R2 := R0.belo b1
  have B2 := bl_go B0 b1
  obtain ⟨p0, p1, p2⟩ := id X2
  obtain ⟨q0, q1, q2, q3, q4, q5⟩ := id Y2
  clear X1 Y0 R0 B0 b1 a0 a1 a2 y0 y1 y2 y3 y4 y5
  cases p with
  | true =>
    go_wp2_with fail
    refine (C2.out _ R2).mono ?_
    rintro e w3 ⟨rfl, b3⟩
    go_wp2_with fail
    go_ret
    exact ⟨rfl, bl_go B2 b3⟩
  | false =>
    go_wp2_with fail
    go_ret
    exact ⟨rfl, B2⟩
/-- a domino lies across just if both cells are laid so -/
theorem sdX_inn {W T : Int} {bs : List Bool} {L : List Int} (h : tilingB W T bs L = true) {v : Nat} {b : Bool} (hx : sdX W T L v b = true) : sdI W T bs v b = true := by
  obtain ⟨-, -, ht⟩ := tiling_til h
  unfold sdX at hx
  rw [decide_eq_true_eq] at hx
  unfold sdI
  have h0 : dirL W T L (slx W v b) (cY W v) ≠ 0 := by rw [hx]; split <;> decide
  rw [til_mem ht h0, Bool.true_and]
  cases b with
  | true =>
    simp only [if_true] at hx
    have := (til_1 ht).1 hx
    refine til_mem ht (x := srx W v) (y := sry W v true) ?_
    simp only [slx, srx, sry, if_true] at this ⊢
    rw [show cX W v - 1 + 1 = cX W v by omega] at this
    omega
  | false =>
    simp only [Bool.false_eq_true, if_false] at hx
    have := (til_4 ht).2 hx
    refine til_mem ht (x := srx W v) (y := sry W v false) ?_
    simp only [slx, srx, sry, Bool.false_eq_true, if_false] at this ⊢
    omega
theorem sdX_at {W T : Int} {bs : List Bool} {L : List Int} (h : tilingB W T bs L = true) {v : Nat} {b : Bool} (hi : sdI W T bs v b = true) {a c : Nat} (ha : a < bs.length) (a1 : (a : Int) % W = slx W v b) (a2 : (a : Int) / W = cY W v)
    (hst : ∀ w : Int, 1 ≤ w → w ≤ 4 → (stepZ W T a w = c ↔ w = d0B b)) : (1 ≤ L.getD a 0 ∧ L.getD a 0 ≤ 4) ∧ (stepZ W T a (L.getD a 0) == (c : Int)) = sdX W T L v b := by
  obtain ⟨hv, -, ht⟩ := tiling_til h
  have hf := valid_fld hv
  unfold sdI at hi
  rw [Bool.and_eq_true] at hi
  have hd := til_dir ht hi.1
  have e := dir_k (L := L) hf ha
  rw [a1, a2] at e
  rw [e] at hd
  have h4 : 1 ≤ L.getD a 0 ∧ L.getD a 0 ≤ 4 := by omega
  refine ⟨h4, ?_⟩
  rw [Bool.eq_iff_iff, beq_iff_eq, hst _ h4.1 h4.2]
  unfold sdX
  rw [decide_eq_true_eq, e]
  rfl
set_option maxRecDepth 100000 in
set_option maxHeartbeats 2000000 in
theorem crossed_any (W T : Int) (A D : Option Addr) (c d n : Nat) (bs : List Bool) (L : List Int) (v : Nat) (b : Bool) (w : World) (hr : Rd w A (bs.map .bool)) (hd : Rd w D (L.map (.int .i64))) (h : tilingB W T bs L = true) (hn : bs.length = n) (hv : v < ncN W T) :
    Calls Tryz.prog 97 #[.agg #[.int .i64 W, .int .i64 T, .slice A n c], .agg #[.int .i64 (v : Int), .int .i64 (sdT W v b), .int .i64 (slx W v b), .int .i64 (cY W v), .int .i64 (srx W v), .int .i64 (sry W v b)], .slice D n d] w fun e w' => e = .returned (.bool (sdX W T L v b)) ∧ Below w.heap.size w w' := by
  obtain ⟨hval, hl, -⟩ := tiling_til h
  obtain ⟨⟨w1, w6⟩, ⟨t1, t6⟩, hlen, -⟩ := validB_iff.1 hval
  have hf : FldF W T n := ⟨w1, w6, t1, t6, by rw [← hn]; exact hlen⟩
  have hfg : FldG W T bs.length := ⟨w1, t1, hlen⟩
  have n36 : n ≤ 36 := hf.bd
  obtain ⟨i1, i2, i3, i4⟩ := sd_in hf hv b
  have HX := Lib.hid (fun (hx : sdX W T L v b = true) => sdX_inn h hx)
  have HC := Lib.hid (fun (hi : sdI W T bs v b = true) => sd_cells hfg hi)
  have HXA := Lib.hid (fun (hi : sdI W T bs v b = true) {a c : Nat} (ha : a < bs.length) (a1 : (a : Int) % W = slx W v b) (a2 : (a : Int) / W = cY W v) (hst : ∀ w : Int, 1 ≤ w → w ≤ 4 → (stepZ W T a w = c ↔ w = d0B b)) => sdX_at h hi ha a1 a2 hst)
  have CI := Lib.hid (fun (z : World) (R : Rd z A (bs.map .bool)) => (inner_any W T A c n bs (v : Int) (sdT W v b) (slx W v b) (cY W v) (srx W v) (sry W v b) z R hf hn i1 i2 i3 i4))
  have HN := Lib.hid hn
  have HL := Lib.hid hl
  have CS := Lib.hid (fun (a : Nat) (ha : a < n) (q : Int) (z : World) => step_any W T (.slice A n c) a q z w1 w6 t1 t6 (by omega) (by have := hf.len; omega))
  change Hid (∀ (z : World) (R : Rd z A (bs.map .bool)), Calls _ _ _ z fun e w' => e = .returned (.bool (sdI W T bs v b)) ∧ Below z.heap.size z w') at CI
  have X0 := C3.new w (.int .i64 W) (.int .i64 T) (.slice A n c) 25
  generalize hq1 : sdT W v b = tt at *
  generalize hq2 : slx W v b = lx at *
  generalize hq3 : cY W v = ly at *
  generalize hq4 : srx W v = rx at *
  generalize hq5 : sry W v b = ry at *
  generalize sdI W T bs v b = si at *
  generalize sdX W T L v b = sx at *
  clear hq1 hq2 hq3 hq4 hq5
  have Y0 := C6.new (w.alloc (.cells #[.int .i64 W, .int .i64 T, .slice A n c] 25)) (.int .i64 (v : Int)) (.int .i64 tt) (.int .i64 lx) (.int .i64 ly) (.int .i64 rx) (.int .i64 ry) 95
  have X1 := X0.alloc (.cells #[.int .i64 (v : Int), .int .i64 tt, .int .i64 lx, .int .i64 ly, .int .i64 rx, .int .i64 ry] 95)
  have B0 := bl_alloc (bl_alloc (Below.refl w.heap.size w) (.cells #[.int .i64 W, .int .i64 T, .slice A n c] 25)) (.cells #[.int .i64 (v : Int), .int .i64 tt, .int .i64 lx, .int .i64 ly, .int .i64 rx, .int .i64 ry] 95)
  have R0 := hr.belo B0
  have D0 := hd.belo B0
  obtain ⟨a0, a1, a2⟩ := id X1
  have hs0 : (w.alloc (.cells #[.int .i64 W, .int .i64 T, .slice A n c] 25)).heap.size = w.heap.size + 1 := by simp
  rw [hs0] at Y0
  obtain ⟨y0, y1, y2, y3, y4, y5⟩ := id Y0
  clear X0 hs0 hlen hf hn h hl hval hfg hr hd
  go_enter Tryz.func97, Tryz.ntmps97
  go_wp2_with fail
  refine (CI.out _ R0).mono ?_
  rintro e w2 ⟨rfl, b2⟩
  have X2 := X1.belo b2
  have Y2 := Y0.belo b2
  have D2 := D0.belo b2
  have B2 := bl_go B0 b2
  obtain ⟨p0, p1, p2⟩ := id X2
  obtain ⟨q0, q1, q2, q3, q4, q5⟩ := id Y2
  have hx2 := X2.lt
  have hy2 := Y2.lt
  clear X1 Y0 R0 D0 B0 b2 a0 a1 a2 y0 y1 y2 y3 y4 y5 CI
  cases si with
  | false =>
    have HS := Lib.hid (show sx = false from Bool.eq_false_iff.2 (fun e => by have := HX.out e; cases this))
    go_wp2_with fail
    go_ret
    exact ⟨ret_b HS.out.symm, B2⟩
  | true =>
    obtain ⟨ka, kc, ea, ec, hka, hkc, -, ⟨a1, a2⟩, -, -, -, hst⟩ := HC.out rfl
    obtain ⟨hL4, hSX⟩ := HXA.out rfl hka a1 a2 hst
    have hkan : ka < n := by have := HN.out; omega
    have hkcn : kc < n := by have := HN.out; omega
    have hkL : ka < L.length := by have := HL.out; omega
    obtain ⟨ad, rfl, hc⟩ := D2.atM hkL
    rw [getD_at _ _ hkL] at hL4 hSX
    have CS2 := Lib.hid (fun z => CS.out ka hkan L[ka] z)
    generalize L[ka] = lv at hc hL4 hSX CS2
    obtain ⟨hl1, hl4⟩ := hL4
    have m1 := Int.mul_le_mul (show ly ≤ 6 by omega) w6 (by omega) (by omega)
    have m0 : 0 ≤ ly * W := Int.mul_nonneg (by omega) (by omega)
    have k1 : IntKind.i64.wrap (ly * W) = ly * W := IntWalk.i64_in _ (by omega)
    have k2 : IntKind.i64.wrap (ly * W + lx) = (ka : Int) := by rw [ea]; exact IntWalk.i64_in _ (by omega)
    have k3 : IntKind.i64.wrap (ry * W) = ry * W := IntWalk.i64_in _ (by omega)
    have k4 : IntKind.i64.wrap (ry * W + rx) = (kc : Int) := by rw [ec]; exact IntWalk.i64_in _ (by omega)
    have hne : (lv != 0) = true := by rw [bne_iff_ne]; omega
    have HSX := Lib.hid hSX
    have EA := Lib.hid ea
    have EC := Lib.hid ec
    clear HC HXA HX hst hSX ea ec a1 a2 CS
    have hcl := World.block_lt_of_cell? _ _ hc
    have L0 : ∀ z : BW w2, z.wo.cell? ⟨w.heap.size, 0, none⟩ = some (.int .i64 W) := fun z => z.cell hx2 p0
    have L2 : ∀ z : BW w2, z.wo.cell? ⟨w.heap.size + 1, 2, none⟩ = some (.int .i64 lx) := fun z => z.cell hy2 q2
    have L3 : ∀ z : BW w2, z.wo.cell? ⟨w.heap.size + 1, 3, none⟩ = some (.int .i64 ly) := fun z => z.cell hy2 q3
    have L4 : ∀ z : BW w2, z.wo.cell? ⟨w.heap.size + 1, 4, none⟩ = some (.int .i64 rx) := fun z => z.cell hy2 q4
    have L5 : ∀ z : BW w2, z.wo.cell? ⟨w.heap.size + 1, 5, none⟩ = some (.int .i64 ry) := fun z => z.cell hy2 q5
    go_wp2_with fail
    (refine region_bw (by kernel_rfl) (by kernel_rfl) ?_; (repeat (first | go_big_quiet_skip | (go_big_quiet_want; go_big_quiet_op; first | go_big_quiet_on | (refine ⟨.bool true, fun zz => ?_, ?_⟩; (fail); go_big_quiet_on)))); refine wpQuiet_nil ?_; intro wz hw'; obtain ⟨zw, hw''⟩ := hw'; subst hw'')
    have B3 := bl_go B2 zw.ok
    have X3 := X2.belo zw.ok
    have hc3 := (zw.ok.cell (p := ad.add ka) hcl).trans hc
    obtain ⟨p0, p1, p2⟩ := id X3
    have hx3 := X3.lt
    have hcl3 := World.block_lt_of_cell? _ _ hc3
    generalize zw.wo = w3 at *
    clear L0 L2 L3 L4 L5 q0 q1 q2 q3 q4 q5 Y2 D2 B2 X2 hc hcl hx2 hy2
    have L0 : ∀ z : BW w3, z.wo.cell? ⟨w.heap.size, 0, none⟩ = some (.int .i64 W) := fun z => z.cell hx3 p0
    have L1 : ∀ z : BW w3, z.wo.cell? ⟨w.heap.size, 1, none⟩ = some (.int .i64 T) := fun z => z.cell hx3 p1
    have L2 : ∀ z : BW w3, z.wo.cell? ⟨w.heap.size, 2, none⟩ = some (.slice A n c) := fun z => z.cell hx3 p2
    have L3 : ∀ z : BW w3, z.wo.cell? (ad.add ka) = some (.int .i64 lv) := fun z => (z.ok.cell (p := ad.add ka) hcl3).trans hc3
    have hki : (ka : Int) < (n : Int) := by omega
    generalize stepZ W T ka lv = sv at HSX CS2
    go_wp2_with fail
    (refine region_bw (by kernel_rfl) (by kernel_rfl) ?_; (repeat (first | go_big_quiet_skip | (go_big_quiet_want; go_big_quiet_op; first | go_big_quiet_on | (refine ⟨.int .i64 sv, fun zz => ?_, ?_⟩; (go_at_call 112; with_reducible exact zz.on (CS2.out zz.wo)); go_big_quiet_on)))); refine wpQuiet_nil ?_; intro wz hw'; obtain ⟨zw, hw''⟩ := hw'; subst hw'')
    go_wp2_with fail
    go_ret
    exact ⟨ret_b HSX.out, bl_go B3 zw.ok⟩
open Classical in
noncomputable def un99W (g N : Nat) (w : World) : Nat := (List.range N).countP fun v => decide (w.cell? ⟨g, v, none⟩ = some (.int .i64 99))
theorem un99_range (M : List Int) : un99 M = (List.range M.length).countP fun v => M.getD v 0 == 99 := by
  unfold un99
  conv => lhs; rw [show M = (List.range M.length).map (fun v => M.getD v 0) from List.ext_getElem (by simp) (fun i h1 h2 => by simp [List.getD_eq_getElem?_getD, List.getElem?_eq_getElem h1])]
  rw [List.countP_map]
  rfl
theorem un99W_eq {w : World} {lo g : Nat} {M : List Int} (h : Wr w lo 3 (some ⟨g, 0, none⟩) (M.map (.int .i64))) : un99W g M.length w = un99 M := by
  classical
  rw [un99_range]
  unfold un99W
  refine List.countP_congr fun v hv => ?_
  rw [List.mem_range] at hv
  have hc := h.rd.cellEM (k := v) hv
  rw [Nat.zero_add] at hc
  rw [hc, decide_eq_true_eq, beq_iff_eq, List.getD_eq_getElem?_getD, List.getElem?_eq_getElem hv]
  simp
def tN : Value → Nat
  | .bool true => 1
  | _ => 0
/-- heights under way -/
structure HgW (w : World) (W T : Int) (A : Option Addr) (n c g N : Nat) (As : Option Addr) (SL : List (Nat × Bool)) (M : List Int) (wr : World) : Prop where
  len : M.length = N
  out : Wr wr (w.heap.size + 1) 3 (some ⟨g, 0, none⟩) (M.map (.int .i64))
  box : C3 wr w.heap.size (.int .i64 W) (.int .i64 T) (.slice A n c)
  bel : Below w.heap.size w wr
  sd : RdSd W wr As SL
  ne : ∀ ad, As = some ad → ad.block ≠ g
  lo : w.heap.size < g
section
variable {w wr w' : World} {W T : Int} {A : Option Addr} {n c g N : Nat} {As : Option Addr} {SL : List (Nat × Bool)} {M : List Int}
theorem HgW.belo (h : HgW w W T A n c g N As SL M wr) (hb : Below wr.heap.size wr w') : HgW w W T A n c g N As SL M w' :=
  ⟨h.len, h.out.belo hb, h.box.belo hb, bl_go h.bel hb, Rd.belo h.sd hb, h.ne, h.lo⟩
theorem HgW.set (h : HgW w W T A n c g N As SL M wr) (k : Nat) (z : Int) : HgW w W T A n c g N As SL (M.set k z) (wr.setCell ⟨g, k, none⟩ (.int .i64 z)) := by
  have h1 := h.lo
  refine ⟨by rw [List.length_set]; exact h.len, by rw [List.map_set]; exact h.out.store k _, h.box.set (by simp; omega) _, h.bel.setCell (by simp; omega) _, fun hne => ?_, h.ne, h1⟩
  obtain ⟨ad, e, hc⟩ := h.sd hne
  refine ⟨ad, e, fun j u hu => ?_⟩
  rw [World.cell?_setCell_other _ _ _ _ (fun x => h.ne ad e (by
    have := congrArg Addr.block x
    rw [blk_add] at this
    exact this.symm))]
  exact hc j u hu
theorem HgW.cell (h : HgW w W T A n c g N As SL M wr) {k : Nat} (hk : k < N) : wr.cell? ⟨g, k, none⟩ = some (.int .i64 (M.getD k 0)) ∧ wr.frozen? ⟨g, k, none⟩ = false := by
  have hm : k < M.length := by rw [h.len]; exact hk
  have hc := h.out.rd.cellEM (k := k) hm
  rw [Nat.zero_add] at hc
  obtain ⟨g', e, -, -, hf⟩ := h.out.form (by intro e; have := congrArg List.length e; simp at this; rw [this] at hm; simp at hm)
  injection e with e; injection e with e
  subst e
  exact ⟨by rw [hc, getD_at _ _ hm], hf k⟩
end
set_option maxRecDepth 100000 in
set_option maxHeartbeats 4000000 in
theorem heights_any (W T : Int) (A D : Option Addr) (c d n : Nat) (bs : List Bool) (L : List Int) (w : World) (hr : Rd w A (bs.map .bool)) (hd : Rd w D (L.map (.int .i64))) (hs : simpB W T bs = true) (h : tilingB W T bs L = true) (hn : bs.length = n) :
    Calls Tryz.prog 56 #[.agg #[.int .i64 W, .int .i64 T, .slice A n c], .slice D n d] w (NewWI (hgtV W T bs L) (ncN W T) w) := by
  obtain ⟨hval, hl, -⟩ := tiling_til h
  obtain ⟨⟨w1, w6⟩, ⟨t1, t6⟩, hlen, -⟩ := validB_iff.1 hval
  have hf : FldF W T n := ⟨w1, w6, t1, t6, by rw [← hn]; exact hlen⟩
  obtain ⟨-, hN1, hN49⟩ := nc_bd hf
  have HSB := Lib.hid hs
  have HTB := Lib.hid h
  have HV0 := Lib.hid (v0_at hs)
  have HVL := Lib.hid (fun (v : Nat) (hv : v < ncN W T) (hc : corK W T bs v) => v0_le hs hv hc)
  have HFG := Lib.hid (valid_fld hval)
  have HST := Lib.hid (rel_start hs h)
  have CSD := Lib.hid (fun (z : World) (R : Rd z A (bs.map .bool)) => sides_any W T A c n bs z R hf hn)
  have CCO := Lib.hid (fun (z : World) => corners_any W T (.slice A n c) n z hf)
  have CX := Lib.hid (fun (v : Nat) (b : Bool) (hv : v < ncN W T) (z : World) (R : Rd z A (bs.map .bool)) (R2 : Rd z D (L.map (.int .i64))) => crossed_any W T A D c d n bs L v b z R R2 h hn hv)
  have HIN := Lib.hid (fun (v : Nat) (b : Bool) (hv : v < ncN W T) => sd_in hf hv b)
  obtain ⟨N, hN⟩ : ∃ N, ncN W T = N := ⟨_, rfl⟩
  rw [hN] at hN1 hN49 HV0 HVL HST CCO
  have CRE := Lib.hid (fun (B : Option Addr) (cc : Nat) (z : World) (R : Rd z B [.int .i64 99]) => repeat_one B cc 99 N hN1 (by omega) z R)
  have HNE := Lib.hid hN
  have hmin3 : ∀ (z : World) (ts : Array TypeId) (t : TypeId) (a b c : Int), (Builtin.min_ ts t #[.int .i64 a, .int .i64 b, .int .i64 c]).run Tryz.prog z = .ok (.int .i64 (min (min a b) c)) z := by
    intro z ts t a b c
    have e : ∀ x y : Int, (if y < x then y else x) = min x y := fun x y => by rw [Int.min_def]; split <;> split <;> omega
    simp [Builtin.min_, Builtin.min2, e]
  have X0 := C3.new w (.int .i64 W) (.int .i64 T) (.slice A n c) 25
  have B0 := bl_alloc (Below.refl w.heap.size w) (.cells #[.int .i64 W, .int .i64 T, .slice A n c] 25)
  obtain ⟨x0, x1, x2⟩ := id X0
  clear hval hl hlen hf hs h hN
  go_enter Tryz.func56, Tryz.ntmps56
  go_wp2_with fail
  refine (CCO.out _).mono ?_
  rintro e w2 ⟨rfl, b2⟩
  have B2 := bl_go (bl_alloc B0 (.cells #[.int .i64 99] 3)) b2
  have X2 := (X0.alloc (.cells #[.int .i64 99] 3)).belo b2
  have O2 : Rd w2 (some ⟨w.heap.size + 1, 0, none⟩) [.int .i64 99] := by
    refine Rd.belo ?_ b2
    have := (Rd.own (w := (w.alloc (.cells #[.int .i64 W, .int .i64 T, .slice A n c] 25)).alloc (.cells #[.int .i64 99] 3)) (World.ownsRow_lit (base := 0) (e := 3) (size := 1) (w.alloc (.cells #[.int .i64 W, .int .i64 T, .slice A n c] 25)) #[.int .i64 99] 1 (Nat.zero_le _) (by unfold maxLen; omega) (by simp)))
    simpa using this
  clear X0 B0 x0 x1 x2 b2
  obtain ⟨x0, x1, x2⟩ := id X2
  go_wp2_with fail
  refine (CRE.out _ _ _ O2).mono ?_
  rintro e w3 ⟨A3, rfl, W3, b3⟩
  rw [List.length_replicate]
  obtain ⟨g, rfl, hg1, hg2, -⟩ := W3.form (by simp; omega)
  have B3 := bl_go B2 b3
  have X3 := X2.belo b3
  have hz2 : w.heap.size + 1 ≤ w2.heap.size := X2.lt
  clear X2 B2 O2 b3 x0 x1 x2
  obtain ⟨x0, x1, x2⟩ := id X3
  go_wp2_with fail
  refine (CSD.out _ (hr.below B3 (Nat.le_refl _))).mono ?_
  rintro e w4 ⟨As, cs, rfl, SD4, b4, hne4⟩
  have H4 : HgW w W T A n c g N As (sidesV W T bs) (List.replicate N 99) w4 :=
    ⟨by simp, (W3.lower (by omega)).belo b4, X3.belo b4, bl_go B3 b4, SD4, fun ad e => by have := hne4 ad e; omega, by omega⟩
  have HMS := Lib.hid (fun (k : Nat) (hk : k < (sidesV W T bs).length) => (mem_sides (W := W) (T := T) (bs := bs) (s := (sidesV W T bs)[k])).1 (List.getElem_mem hk))
  have HAL := Lib.hid (fun (v : Nat) (b : Bool) (hv : v < N) (hu : sdU W T bs v b = true) => show ∃ k, ∃ h : k < (sidesV W T bs).length, (sidesV W T bs)[k] = (v, b) from by
    have : (v, b) ∈ sidesV W T bs := mem_sides.2 ⟨by rw [HNE.out]; exact hv, hu⟩
    obtain ⟨k, h, e⟩ := List.getElem_of_mem this
    exact ⟨k, h, e⟩)
  rw [HNE.out] at HMS
  have hSL : (sidesV W T bs).length ≤ 98 := by rw [sides_K, HNE.out]; have := sdK_len W T bs N; omega
  generalize sidesV W T bs = SL at *
  clear SD4 b4 hne4 W3 X3 B3 x0 x1 x2 hz2 hg1 hg2 CSD CRE
  obtain ⟨x0, x1, x2⟩ := id H4.box
  go_wp2_with fail
  refine (CCO.out _).mono ?_
  rintro e w5 ⟨rfl, b5⟩
  have H5 := H4.belo b5
  clear H4 b5 x0 x1 x2
  go_wp2_with fail
  go_loopw [7, 24] (fun f i wr => ∃ (k m : Nat), k ≤ SL.length ∧ i = .int .i64 k ∧ f = .int .i64 m ∧ m ≤ N ∧ v0K W bs ≤ m ∧ Hid (∀ j (h : j < SL.length), j < k → m ≤ SL[j].1) ∧ HgW w W T A n c g N As SL (List.replicate N 99) wr) (fun _ i _ => SL.length - (intOf i).toNat)
  case atStart => exact ⟨0, N, Nat.zero_le _, rfl, rfl, Nat.le_refl _, Nat.le_of_lt HV0.out.1, Lib.hid (fun j h h2 => absurd h2 (Nat.not_lt_zero _)), H5⟩
  case round =>
    clear H5
    obtain ⟨k, m, hk, rfl, rfl, hmN, hm0, HM, H6⟩ := hrel
    by_cases hlt : k < SL.length
    · obtain ⟨bs', off, rfl, c0, c1, c2, c3, c4, c5⟩ := H6.sd.at_ hlt
      have hms := HMS.out k hlt
      obtain ⟨⟨v, b⟩, hvb⟩ : ∃ s, SL[k] = s := ⟨_, rfl⟩
      rw [hvb] at c0 c1 c2 c3 c4 c5 hms
      simp only at c0 c1 c2 c3 c4 c5 hms
      obtain ⟨u, eu, hu, -, -, k1, k2⟩ := sd_to HFG.out (by rw [HNE.out]; exact hms.1) hms.2
      have hv0a := HVL.out v hms.1 k1
      have hv0b := HVL.out u (by rw [← HNE.out]; exact hu) k2
      rw [eu] at c1
      have HVB := Lib.hid hvb
      have huN : u < N := by rw [← HNE.out]; exact hu
      obtain ⟨m2, hm2⟩ : ∃ m2 : Nat, min (min (m : Int) v) u = m2 ∧ m2 ≤ m ∧ m2 ≤ v ∧ v0K W bs ≤ m2 := ⟨min (min m v) u, by omega, by omega, by omega, by omega⟩
      obtain ⟨hm2, hm3, hm4, hm5⟩ := hm2
      generalize slx W v b = lx at *
      generalize sry W v b = ry at *
      have BL := fun o => H6.belo (bl_alloc (Below.refl wr.heap.size wr) o)
      clear eu hvb
      go_wp2_with fail
      go_roundw
      case rel => exact ⟨k + 1, m2, by omega, by go_num, rfl, by omega, hm5, Lib.hid (fun j h h2 => by
        rcases Nat.lt_or_ge j k with h3 | h3
        · exact Nat.le_trans hm3 (HM.out j h h3)
        · obtain rfl : j = k := by omega
          rw [HVB.out]; exact hm4), BL _⟩
      case measure => simp [intOf]; omega
    · obtain rfl : k = SL.length := by omega
      have hmv : m = v0K W bs := by
        obtain ⟨j, hj, e⟩ := HAL.out (v0K W bs) false HV0.out.1 (v0_use HSB.out)
        have := HM.out j hj hj
        rw [e] at this
        simp only at this
        omega
      have HMV := Lib.hid hmv
      have hm1 : m < N := by rw [hmv]; exact HV0.out.1
      have hne1 : ((m : Int) == (N : Int)) = false := by rw [beq_eq_false_iff_ne]; omega
      have hmI : (m : Int) < (N : Int) := by omega
      obtain ⟨x0, x1, x2⟩ := id H6.box
      clear hmv hlt hmN hm0 HM
      go_wp2_with fail
      refine (CCO.out _).mono ?_
      rintro e w7 ⟨rfl, b7⟩
      have H7 := H6.belo b7
      obtain ⟨y1, y2⟩ := H7.cell hm1
      have H8 := H7.set m 0
      have HR8 := Lib.hid (show RelI W T bs L ((List.replicate N 99).set m 0) by rw [HMV.out]; exact HST.out)
      clear H6 b7 x0 x1 x2
      go_wp2_with fail
      generalize w7.setCell ⟨g, m, none⟩ (.int .i64 0) = w8 at *
      go_loopw [10] (fun gr wr => ∃ (t : Bool) (M : List Int), gr = .bool t ∧ Hid (RelI W T bs L M ∧ (t = false → ∀ j (h : j < SL.length), evenS W M SL[j].1 SL[j].2)) ∧ HgW w W T A n c g N As SL M wr) (fun gr wr => 2 * un99W g N wr + tN gr)
      case atStart => exact ⟨true, _, rfl, Lib.hid ⟨HR8.out, fun h => (by cases h)⟩, H8⟩
      case round =>
        clear H8 H7 y1 y2
        obtain ⟨t, M0, rfl, HR0, H9⟩ := hrel
        cases t with
        | false =>
          have HM := Lib.hid (show M0 = hgtV W T bs L from rel_fix HSB.out HTB.out HR0.out.1 (fun v b hv hu => by
            obtain ⟨j, hj, e⟩ := HAL.out v b (by rw [← HNE.out]; exact hv) hu
            have := HR0.out.2 rfl j hj
            rw [e] at this
            exact this))
          obtain ⟨g', eg, -, hgs, -⟩ := H9.out.form (by intro e; have := congrArg List.length e; simp at this; have h9 := H9.len; rw [this] at h9; simp at h9; omega)
          injection eg with eg; injection eg with eg
          subst eg
          have hlo := H9.lo
          go_wp2_with fail
          go_ret
          exact ⟨g, by rw [HNE.out]; rfl, by rw [← HM.out]; exact H9.out.lower (Nat.le_succ _), by omega, hgs, H9.bel⟩
        | true =>
          go_wp2_with fail
          obtain ⟨wo, hwo⟩ : ∃ wo : World, wo = wr := ⟨_, rfl⟩
          subst hwo
          go_loopw [10, 46] (fun gr i wr => ∃ (k : Nat) (t : Bool) (M : List Int), k ≤ SL.length ∧ i = .int .i64 k ∧ gr = .bool t ∧ Hid (RelI W T bs L M ∧ (t = false → ∀ j (h : j < SL.length), j < k → evenS W M SL[j].1 SL[j].2) ∧ un99 M + (if t = true then 1 else 0) ≤ un99 M0) ∧ HgW w W T A n c g N As SL M wr) (fun _ i _ => SL.length - (intOf i).toNat)
          case atStart => exact ⟨0, false, M0, Nat.zero_le _, rfl, rfl, Lib.hid ⟨HR0.out.1, fun _ j h h2 => absurd h2 (Nat.not_lt_zero _), by simp⟩, H9⟩
          case round =>
            obtain ⟨k, t, M, hk, rfl, rfl, HR, H10⟩ := hrel
            by_cases hlt : k < SL.length
            · obtain ⟨bs', off, rfl, c0, c1, c2, c3, c4, c5⟩ := H10.sd.at_ hlt
              have hms := HMS.out k hlt
              have HEV := Lib.hid (fun (q : List Int) (h : evenS W q SL[k].1 SL[k].2) (h2 : ∀ j (h : j < SL.length), j < k → evenS W q SL[j].1 SL[j].2) => show ∀ j (h : j < SL.length), j < k + 1 → evenS W q SL[j].1 SL[j].2 from fun j hj h3 => by
                rcases Nat.lt_or_ge j k with h4 | h4
                · exact h2 j hj h4
                · obtain rfl : j = k := by omega
                  exact h)
              obtain ⟨⟨v, b⟩, hvb⟩ : ∃ s, SL[k] = s := ⟨_, rfl⟩
              rw [hvb] at c0 c1 c2 c3 c4 c5 hms HEV
              simp only at c0 c1 c2 c3 c4 c5 hms HEV
              have hvW : v < ncN W T := by rw [HNE.out]; exact hms.1
              obtain ⟨u, eu, hu, -, -, -, -⟩ := sd_to HFG.out hvW hms.2
              have huN : u < N := by rw [← HNE.out]; exact hu
              have hvN := hms.1
              have HSTEP := Lib.hid (rel_step HSB.out HTB.out HR.out.1 hvW hms.2)
              have hbv := rel_bd HSB.out HTB.out HR.out.1 hvW
              have hbu := rel_bd HSB.out HTB.out HR.out.1 hu
              obtain ⟨l1, l2, -, -⟩ := HIN.out v b hvW
              have CX2 := Lib.hid (CX.out v b hvW)
              have HZ := Lib.hid (show sdZ W T L v b = if sdX W T L v b = true then -3 * rho (slx W v b) (cY W v) else rho (slx W v b) (cY W v) from rfl)
              have hro := rho_or (slx W v b) (cY W v)
              have HEVN := Lib.hid (show evenS W M v b ↔ (M.getD v 0 = 99 ↔ M.getD u 0 = 99) by unfold evenS; rw [eu, Int.toNat_natCast])
              have HRS := Lib.hid (show relS W T L M v b = if M.getD v 0 ≠ 99 ∧ M.getD u 0 = 99 then M.set u (M.getD v 0 + sdZ W T L v b) else if M.getD v 0 = 99 ∧ M.getD u 0 ≠ 99 then M.set v (M.getD u 0 - sdZ W T L v b) else M by
                unfold relS
                rw [eu, Int.toNat_natCast])
              rw [eu] at c1 CX2
              have CRI := Lib.hid (fun (x0 x1 x4 x5 : Int) (z : World) => rise_sd x0 x1 (slx W v b) (cY W v) x4 x5 z (by omega) (by omega))
              generalize slx W v b = lx at *
              generalize cY W v = ly at *
              generalize sry W v b = ry at *
              generalize srx W v = rx at *
              generalize rho lx ly = ro at *
              generalize sdX W T L v b = sx at *
              generalize sdZ W T L v b = sz at *
              have hz : sz = 1 ∨ sz = -1 ∨ sz = 3 ∨ sz = -3 := by rw [HZ.out]; split <;> omega
              have B0 := bl_alloc (Below.refl wr.heap.size wr) (.cells #[.int .i64 (v : Int), .int .i64 (u : Int), .int .i64 lx, .int .i64 ly, .int .i64 rx, .int .i64 ry] 95)
              have C0 := C6.new wr (.int .i64 (v : Int)) (.int .i64 (u : Int)) (.int .i64 lx) (.int .i64 ly) (.int .i64 rx) (.int .i64 ry) 95
              clear eu hvb hms
              obtain ⟨wq, hwq⟩ : ∃ wq : World, wq = wr := ⟨_, rfl⟩
              subst hwq
              obtain ⟨yb, hyb⟩ : ∃ yb, wq.heap.size = yb := ⟨_, rfl⟩
              rw [hyb] at C0
              obtain ⟨s0, s1, s2, s3, s4, s5⟩ := id C0
              go_wp2_with fail
              refine (CRI.out _ _ _ _ _).mono ?_
              rintro e w11 ⟨rfl, b11⟩
              have H11 := (H10.belo (by rw [hyb] at B0 ⊢; exact B0)).belo b11
              have C11 := C0.belo b11
              clear H10 C0 B0 b11 s0 s1 s2 s3 s4 s5 c0 c1 c2 c3 c4 c5 hyb CRI
              obtain ⟨s0, s1, s2, s3, s4, s5⟩ := id C11
              obtain ⟨x0, x1, x2⟩ := id H11.box
              go_wp2_with fail
              refine (CX2.out _ (hr.below H11.bel (Nat.le_refl _)) (hd.below H11.bel (Nat.le_refl _))).mono ?_
              rintro e w12 ⟨rfl, b12⟩
              have H12 := H11.belo b12
              have C12 := C11.belo b12
              clear H11 C11 b12 s0 s1 s2 s3 s4 s5 x0 x1 x2 CX2
              obtain ⟨s0, s1, s2, s3, s4, s5⟩ := id C12
              obtain ⟨y1, y2⟩ := H12.cell hvN
              obtain ⟨z1, z2⟩ := H12.cell huN
              generalize M.getD v 0 = a at *
              generalize M.getD u 0 = bb at *
              go_upto_if 55 with fail
              go_cut [13, 46] from 46 to 110 (fun s13 s46 wx => s13 = .int .i64 sz ∧ s46 = .int .i64 k ∧ wx = w12)
              case first =>
                cases sx with
                | true =>
                  have i1 : IntKind.i64.wrap (-3 * ro) = -3 * ro := IntWalk.i64_in _ (by omega)
                  go_wp2_with fail
                  go_meet
                  exact ⟨by rw [HZ.out]; rfl, rfl, rfl⟩
                | false =>
                  go_wp2_with fail
                  go_meet
                  exact ⟨by rw [HZ.out]; rfl, rfl, rfl⟩
              case rest =>
                obtain ⟨rfl, rfl, rfl⟩ := hcut
                have hvI : (v : Int) < (N : Int) := by omega
                have huI : (u : Int) < (N : Int) := by omega
                by_cases ha : a = 99
                · subst ha
                  by_cases hb : bb = 99
                  · subst hb
                    have he := HEVN.out.2 Iff.rfl
                    go_wp2_with fail
                    go_roundw
                    case rel => exact ⟨k + 1, t, M, by omega, by go_num, rfl, Lib.hid ⟨HR.out.1, fun h => HEV.out M he (HR.out.2.1 h), HR.out.2.2⟩, H12⟩
                    case measure => simp [intOf]; omega
                  · have hb1 : (bb != 99) = true := by rw [bne_iff_ne]; exact hb
                    have hb2 : (bb == 99) = false := by rw [beq_eq_false_iff_ne]; exact hb
                    have HM := Lib.hid (show relS W T L M v b = M.set v (bb - sz) by rw [HRS.out, if_neg (fun x => x.1 rfl), if_pos ⟨rfl, hb⟩])
                    have HUN := Lib.hid (HSTEP.out.2.resolve_left (fun x => hb ((HEVN.out.1 x.2).1 rfl)))
                    have H13 := (H12.set v (bb - sz)).belo (Below.refl _ _).drew
                    clear hb
                    go_wp2_with fail
                    go_region
                    go_wp2_with fail
                    go_roundw
                    case rel => exact ⟨k + 1, true, M.set v (bb - sz), by omega, by go_num, rfl, Lib.hid ⟨by rw [← HM.out]; exact HSTEP.out.1, fun h => (by cases h), by rw [← HM.out]; have := HUN.out.1; have := HR.out.2.2; simp only [if_true]; omega⟩, H13⟩
                    case measure => simp [intOf]; omega
                · have ha1 : (a != 99) = true := by rw [bne_iff_ne]; exact ha
                  have ha2 : (a == 99) = false := by rw [beq_eq_false_iff_ne]; exact ha
                  by_cases hb : bb = 99
                  · subst hb
                    have HM := Lib.hid (show relS W T L M v b = M.set u (a + sz) by rw [HRS.out, if_pos ⟨ha, rfl⟩])
                    have HUN := Lib.hid (HSTEP.out.2.resolve_left (fun x => ha ((HEVN.out.1 x.2).2 rfl)))
                    have H13 := (H12.set u (a + sz)).belo (Below.refl _ _).drew
                    clear ha
                    go_wp2_with fail
                    go_region
                    go_wp2_with fail
                    go_roundw
                    case rel => exact ⟨k + 1, true, M.set u (a + sz), by omega, by go_num, rfl, Lib.hid ⟨by rw [← HM.out]; exact HSTEP.out.1, fun h => (by cases h), by rw [← HM.out]; have := HUN.out.1; have := HR.out.2.2; simp only [if_true]; omega⟩, H13⟩
                    case measure => simp [intOf]; omega
                  · have hb1 : (bb != 99) = true := by rw [bne_iff_ne]; exact hb
                    have hb2 : (bb == 99) = false := by rw [beq_eq_false_iff_ne]; exact hb
                    have he := HEVN.out.2 ⟨fun x => absurd x ha, fun x => absurd x hb⟩
                    clear ha hb
                    go_wp2_with fail
                    go_roundw
                    case rel => exact ⟨k + 1, t, M, by omega, by go_num, rfl, Lib.hid ⟨HR.out.1, fun h => HEV.out M he (HR.out.2.1 h), HR.out.2.2⟩, H12⟩
                    case measure => simp [intOf]; omega
            · obtain rfl : k = SL.length := by omega
              have hm0 := un99W_eq H9.out
              have hm1 := un99W_eq H10.out
              rw [H9.len] at hm0
              rw [H10.len] at hm1
              have hle := HR.out.2.2
              have HRR := HR.out
              clear H9
              go_wp2_with fail
              go_roundw
              case rel => exact ⟨t, M, rfl, Lib.hid ⟨HRR.1, fun h j hj => HRR.2.1 h j hj hj⟩, H10⟩
              case measure =>
                rw [hm0, hm1]
                cases t <;> simp [tN] at hle ⊢ <;> omega
end Go.Proofs.YtafmpgikdhlknaaGreat
