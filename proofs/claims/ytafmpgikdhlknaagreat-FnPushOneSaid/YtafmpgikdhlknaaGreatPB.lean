
/- FnExactFromPast: joined from AtS, EdgeS, TokS, SimS, SpuN, HgtS, HokS, HloS, TlbS, TlwS. -/
import Derived.Test.YtafmpgikdhlknaaGreatAtI
import Derived.Test.YtafmpgikdhlknaaGreatHgtI
import Derived.Test.YtafmpgikdhlknaaGreatLayS
import Derived.Test.YtafmpgikdhlknaaGreatPrsS
import Derived.Test.YtafmpgikdhlknaaGreatSimI
import Derived.Laws.OwnMore
import Derived.Lib.MinMax
import Derived.Deep.Cut
import Derived.Deep.CutRange
import Derived.Test.YtafmpgikdhlknaaGreatByN
import Derived.Test.YtafmpgikdhlknaaGreatRelN
import Derived.Test.YtafmpgikdhlknaaGreatPshQ
import Derived.Deep.RegionHeld3
/- Contract: whether a place belongs to a region (the reference's). -/
namespace Go.Proofs.YtafmpgikdhlknaaGreat
open Go.RowKit

set_option maxRecDepth 100000 in
set_option maxHeartbeats 1000000 in
theorem sAt_any (W T : Int) (A : Option Addr) (c : Nat) (bs : List Bool) (x y : Int) (w : World) (hr : Rd w A (bs.map .bool)) (h1 : 1 ≤ W) (h2 : W ≤ 6) (h3 : 1 ≤ T) (h4 : T ≤ 6) (hn : (bs.length : Int) = W * T) (hx : -1000 ≤ x ∧ x ≤ 1000) (hy : -1000 ≤ y ∧ y ≤ 1000) :
    Calls Tryz.prog 124 #[.agg #[.int .i64 W, .int .i64 T, .slice A bs.length c], .int .i64 x, .int .i64 y] w fun e w' => e = .returned (.bool (atQ W T bs x y)) ∧ Below w.heap.size w w' := by
  have X0 := C3.new w (.int .i64 W) (.int .i64 T) (.slice A bs.length c) 25
  have B0 := bl_alloc (Below.refl w.heap.size w) (.cells #[.int .i64 W, .int .i64 T, .slice A bs.length c] 25)
  obtain ⟨x0, x1, x2⟩ := id X0
  obtain ⟨hx1, hx2⟩ := hx
  obtain ⟨hy1, hy2⟩ := hy
  have HN := Lib.hid hn
  have h36 : bs.length ≤ 36 := by have := mul_bd h1 h2 h3 h4; omega
  clear hn
  by_cases hxin : 0 ≤ x ∧ x ≤ W - 1
  · by_cases hyin : 0 ≤ y ∧ y ≤ T - 1
    · obtain ⟨k, hk, hkn⟩ := at_idx h1 HN.out ⟨hxin.1, hxin.2, hyin.1, hyin.2⟩
      have HV := Lib.hid (atQ_t ⟨hxin.1, hxin.2, hyin.1, hyin.2⟩ hk hkn)
      obtain ⟨b, off, rfl, cb⟩ := (hr.alloc (.cells #[.int .i64 W, .int .i64 T, .slice A bs.length c] 25)).atEM hkn
      obtain ⟨v, hv⟩ : ∃ v, bs[k] = v := ⟨_, rfl⟩
      rw [hv] at cb HV
      clear hv
      have m0 : 0 ≤ y * W := Int.mul_nonneg hyin.1 (by omega)
      have wm : IntKind.i64.wrap (y * W) = y * W := IntWalk.i64_in _ (by omega)
      have wa : IntKind.i64.wrap (y * W + x) = (k : Int) := by rw [hk]; exact IntWalk.i64_in _ (by omega)
      have kI : (k : Int) < (bs.length : Int) := by omega
      obtain ⟨p1, p2⟩ := hxin
      obtain ⟨p3, p4⟩ := hyin
      clear hk
      go_enter Tryz.func124, Tryz.ntmps124
      go_wp2_with (go_at_call 71; first | ((with_reducible refine (l1in_t x _ _ _ p1 p2).mono ?_); rintro e w' ⟨rfl, rfl⟩) | ((with_reducible refine (l1in_t y _ _ _ p3 p4).mono ?_); rintro e w' ⟨rfl, rfl⟩))
      go_ret
      exact ⟨ret_b HV.out.symm, B0⟩
    · have HV := Lib.hid (atQ_f (W := W) (T := T) (bs := bs) (x := x) (y := y) (fun h => hyin ⟨h.2.2.1, h.2.2.2⟩))
      have hyo : y < 0 ∨ T - 1 < y := by omega
      obtain ⟨p1, p2⟩ := hxin
      go_enter Tryz.func124, Tryz.ntmps124
      go_wp2_with (go_at_call 71; first | ((with_reducible refine (l1in_t x _ _ _ p1 p2).mono ?_); rintro e w' ⟨rfl, rfl⟩) | ((with_reducible refine (l1in_f y _ _ _ hyo).mono ?_); rintro e w' ⟨rfl, rfl⟩))
      go_ret
      exact ⟨ret_b HV.out.symm, B0⟩
  · have HV := Lib.hid (atQ_f (W := W) (T := T) (bs := bs) (x := x) (y := y) (fun h => hxin ⟨h.1, h.2.1⟩))
    have hxo : x < 0 ∨ W - 1 < x := by omega
    go_enter Tryz.func124, Tryz.ntmps124
    go_wp2_with (go_at_call 71; refine (l1in_f x _ _ _ hxo).mono ?_; rintro e w' ⟨rfl, rfl⟩)
    go_ret
    exact ⟨ret_b HV.out.symm, B0⟩
end Go.Proofs.YtafmpgikdhlknaaGreat

/- Contracts: the reference's sides of cells, and by how much heights grow along them. -/
namespace Go.Proofs.YtafmpgikdhlknaaGreat
open Go.RowKit

/-- the cell on the left of a side and the one on its right, or -1 -/
def edA (W T : Int) (bs : List Bool) (v : Nat) (b : Bool) : Int := if atQ W T bs (slx W v b) (cY W v) = true then cY W v * W + slx W v b else -1
def edB (W T : Int) (bs : List Bool) (v : Nat) (b : Bool) : Int := if atQ W T bs (srx W v) (sry W v b) = true then sry W v b * W + srx W v else -1
def edD (W : Int) (v : Nat) (b : Bool) : Bool := decide (rho (slx W v b) (cY W v) = 1)
/-- what l4Edge returns -/
def edV (W T : Int) (bs : List Bool) (v : Nat) (b : Bool) : Value := .tuple #[.int .i64 (sdT W v b), .bool (sdU W T bs v b), .bool (sdI W T bs v b), .int .i64 (edA W T bs v b), .int .i64 (edB W T bs v b), .bool (edD W v b)]
set_option maxHeartbeats 1000000 in
theorem sCorners_any (W T : Int) (A : Option Addr) (c : Nat) (bs : List Bool) (w : World) (hr : Rd w A (bs.map .bool)) (hm : bs.length ≤ maxLen) :
    Calls Tryz.prog 66 #[.agg #[.int .i64 W, .int .i64 T, .slice A bs.length c]] w fun e w' => e = .returned (.int .i64 (if validB W T bs = true then ((ncN W T : Nat) : Int) else -1)) ∧ Below w.heap.size w w' := by
  have X0 := C3.new w (.int .i64 W) (.int .i64 T) (.slice A bs.length c) 25
  have B0 := bl_alloc (Below.refl w.heap.size w) (.cells #[.int .i64 W, .int .i64 T, .slice A bs.length c] 25)
  have CV := Lib.hid (sRegionValid_any W T A c bs _ (hr.belo B0) hm)
  obtain ⟨x0, x1, x2⟩ := id X0
  cases hv : validB W T bs with
  | false =>
    rw [hv] at CV
    have HF := Lib.hid (show (if false = true then ((ncN W T : Nat) : Int) else -1) = -1 from rfl)
    go_enter Tryz.func66, Tryz.ntmps66
    go_wp2_with fail
    refine CV.out.mono ?_
    rintro e w1 ⟨rfl, b1⟩
    go_wp2_with fail
    go_ret
    exact ⟨rfl, bl_go B0 b1⟩
  | true =>
    rw [hv] at CV
    obtain ⟨⟨w1, w6⟩, ⟨t1, t6⟩, hlen, -⟩ := validB_iff.1 hv
    obtain ⟨h1, h2, h3⟩ := nc_bd (n := bs.length) (⟨w1, w6, t1, t6, hlen⟩ : FldF W T bs.length)
    have j1 : IntKind.i64.wrap ((W + 1) * (T + 1)) = (ncN W T : Int) := by rw [← h1]; exact IntWalk.i64_in _ (by omega)
    clear h1 hlen hv
    go_enter Tryz.func66, Tryz.ntmps66
    go_wp2_with fail
    refine CV.out.mono ?_
    rintro e w1 ⟨rfl, b1⟩
    have X1 := X0.belo b1
    have B1 := bl_go B0 b1
    have hx1 := X1.lt
    clear x0 x1 x2 X0 CV b1 B0
    obtain ⟨x0, x1, x2⟩ := id X1
    go_wp2_with fail
    first
      | (go_ret; exact ⟨rfl, B1⟩)
      | (have L0 : ∀ z : BW w1, z.wo.cell? ⟨w.heap.size, 0, none⟩ = some (.int .i64 W) := fun z => z.cell hx1 x0
         have L1 : ∀ z : BW w1, z.wo.cell? ⟨w.heap.size, 1, none⟩ = some (.int .i64 T) := fun z => z.cell hx1 x1
         (refine region_bw (by kernel_rfl) (by kernel_rfl) ?_; (repeat (first | go_big_quiet_skip | (go_big_quiet_want; go_big_quiet_op; first | go_big_quiet_on | (refine ⟨.int .i64 ((ncN W T : Nat) : Int), fun zz => ?_, ?_⟩; (fail); go_big_quiet_on)))); refine wpQuiet_nil ?_; intro wz hw'; obtain ⟨zw, hw''⟩ := hw'; subst hw'')
         go_wp2_with fail
         go_ret
         exact ⟨rfl, bl_go B1 zw.ok⟩)
set_option maxHeartbeats 1000000 in
theorem sdark_any (x y : Int) (w : World) (h1 : -1 ≤ x ∧ x ≤ 10) (h2 : -1 ≤ y ∧ y ≤ 10) :
    Calls Tryz.prog 143 #[.int .i64 x, .int .i64 y] w fun e w' => e = .returned (.bool (decide (rho x y = 1))) ∧ w = w' := by
  have hd : ((x + y) % 2 == 0) = decide (rho x y = 1) := by
    rw [Bool.eq_iff_iff, beq_iff_eq, decide_eq_true_eq]
    unfold rho
    split <;> omega
  obtain ⟨h3, h4⟩ := h1
  obtain ⟨h5, h6⟩ := h2
  have HD := Lib.hid hd
  clear hd
  go_enter Tryz.func143, Tryz.ntmps143
  go_wp2_with fail
  go_ret
  exact ⟨ret_b HD.out, rfl⟩
theorem srise_any (d x : Bool) (w : World) :
    Calls Tryz.prog 126 #[.bool d, .bool x] w fun e w' => e = .returned (.int .i64 (if x = true then -3 * (if d = true then 1 else -1) else (if d = true then 1 else -1))) ∧ w = w' := by
  cases d <;> cases x
  all_goals
    go_enter Tryz.func126, Tryz.ntmps126
    go_wp2_with fail
    go_ret
    exact ⟨rfl, rfl⟩
set_option maxRecDepth 100000 in
set_option maxHeartbeats 2000000 in
theorem edge_any (W T : Int) (A : Option Addr) (c n : Nat) (bs : List Bool) (v : Nat) (b : Bool) (w : World) (hr : Rd w A (bs.map .bool)) (hf : FldF W T n) (hn : bs.length = n) (hv : v < ncN W T) :
    Calls Tryz.prog 125 #[.agg #[.int .i64 W, .int .i64 T, .slice A n c], .int .i64 (v : Int), .bool b] w fun e w' => e = .returned (edV W T bs v b) ∧ Below w.heap.size w w' := by
  obtain ⟨w1, w6, t1, t6, hlen⟩ := id hf
  obtain ⟨z1, z2, z3, z4, z5⟩ := c_xy (n := n) ⟨w1, t1, hlen⟩ hv
  obtain ⟨-, -, hN49⟩ := nc_bd hf
  have CAT := Lib.hid (fun (x y : Int) (z : World) (R : Rd z A (bs.map .bool)) (p : -1000 ≤ x ∧ x ≤ 1000) (q : -1000 ≤ y ∧ y ≤ 1000) => by
    have := sAt_any W T A c bs x y z R w1 w6 t1 t6 (by rw [hn]; exact hlen) p q
    rw [hn] at this
    exact this)
  have m1 : cY W v * W ≤ 6 * 6 := Int.mul_le_mul (by omega) w6 (by omega) (by omega)
  have m0 : 0 ≤ cY W v * W := Int.mul_nonneg (by omega) (by omega)
  have m2 : (cY W v - 1) * W = cY W v * W - W := by rw [Int.sub_mul, Int.one_mul]
  have j1 : IntKind.i64.wrap (W + 1) = W + 1 := IntWalk.i64_in _ (by omega)
  have j2 : (v : Int).tmod (W + 1) = cX W v := Int.tmod_eq_emod_of_nonneg (by omega)
  have j3 : (v : Int).tdiv (W + 1) = cY W v := Int.tdiv_eq_ediv_of_nonneg (by omega)
  have j4 : IntKind.i64.wrap (cY W v * W) = cY W v * W := IntWalk.i64_in _ (by omega)
  have j5 : IntKind.i64.wrap ((cY W v - 1) * W) = (cY W v - 1) * W := IntWalk.i64_in _ (by omega)
  have X0 := C3.new w (.int .i64 W) (.int .i64 T) (.slice A n c) 25
  have B0 := bl_alloc (Below.refl w.heap.size w) (.cells #[.int .i64 W, .int .i64 T, .slice A n c] 25)
  have R0 := hr.belo B0
  have CD := Lib.hid (fun z => sdark_any (slx W v b) (cY W v) z (by unfold slx; cases b <;> simp <;> omega) (by omega))
  have C1 := Lib.hid (fun (z : World) (R : Rd z A (bs.map .bool)) => CAT.out (slx W v b) (cY W v) z R (by unfold slx; cases b <;> simp <;> omega) (by omega))
  have C2 := Lib.hid (fun (z : World) (R : Rd z A (bs.map .bool)) => CAT.out (srx W v) (sry W v b) z R (by unfold srx; omega) (by unfold sry; cases b <;> simp <;> omega))
  have HED := Lib.hid (show decide (rho (slx W v b) (cY W v) = 1) = edD W v b from rfl)
  have HEA := Lib.hid (show edA W T bs v b = if atQ W T bs (slx W v b) (cY W v) = true then cY W v * W + slx W v b else -1 from rfl)
  have HEB := Lib.hid (show edB W T bs v b = if atQ W T bs (srx W v) (sry W v b) = true then sry W v b * W + srx W v else -1 from rfl)
  have HEU := Lib.hid (show sdU W T bs v b = (atQ W T bs (slx W v b) (cY W v) || atQ W T bs (srx W v) (sry W v b)) from rfl)
  have HEI := Lib.hid (show sdI W T bs v b = (atQ W T bs (slx W v b) (cY W v) && atQ W T bs (srx W v) (sry W v b)) from rfl)
  have HOUT := Lib.hid (fun (h : ¬ (if b = true then cY W v < T else cX W v < W)) => show atQ W T bs (slx W v b) (cY W v) = false ∧ atQ W T bs (srx W v) (sry W v b) = false from by
    cases b with
    | false => exact ⟨atQ_f (fun x => h (by obtain ⟨-, x2, -⟩ := x; unfold slx at x2; simp at x2 ⊢; omega)), atQ_f (fun x => h (by obtain ⟨-, x2, -⟩ := x; unfold srx at x2; simp at x2 ⊢; omega))⟩
    | true => exact ⟨atQ_f (fun x => h (by obtain ⟨-, -, -, x2⟩ := x; simp at x2 ⊢; omega)), atQ_f (fun x => h (by obtain ⟨-, -, -, x2⟩ := x; unfold sry at x2; simp at x2 ⊢; omega))⟩)
  generalize hp : atQ W T bs (slx W v b) (cY W v) = p at *
  generalize hq : atQ W T bs (srx W v) (sry W v b) = q at *
  rw [HED.out] at CD
  have HV : edV W T bs v b = .tuple #[.int .i64 (sdT W v b), .bool (p || q), .bool (p && q), .int .i64 (if p = true then cY W v * W + slx W v b else -1), .int .i64 (if q = true then sry W v b * W + srx W v else -1), .bool (edD W v b)] := by
    unfold edV; rw [HEA.out, HEB.out, HEU.out, HEI.out]
  have HV := Lib.hid HV
  clear hp hq HEA HEB HEU HEI HED CAT hlen hf hr
  obtain ⟨x0, x1, x2⟩ := id X0
  obtain ⟨V, hV⟩ : ∃ V, edV W T bs v b = V := ⟨_, rfl⟩
  rw [hV] at HV ⊢
  clear hV
  cases b with
  | false =>
    have CD := Lib.hid (show ∀ z, Calls Tryz.prog 143 #[.int .i64 (cX W v), .int .i64 (cY W v)] z _ from CD.out)
    have C1 := Lib.hid (show ∀ z, Rd z A (bs.map .bool) → Calls Tryz.prog 124 #[.agg #[.int .i64 W, .int .i64 T, .slice A n c], .int .i64 (cX W v), .int .i64 (cY W v)] z _ from C1.out)
    have C2 := Lib.hid (show ∀ z, Rd z A (bs.map .bool) → Calls Tryz.prog 124 #[.agg #[.int .i64 W, .int .i64 T, .slice A n c], .int .i64 (cX W v), .int .i64 (cY W v - 1)] z _ from C2.out)
    have HV := Lib.hid (show V = .tuple #[.int .i64 ((v : Int) + 1), .bool (p || q), .bool (p && q), .int .i64 (if p = true then cY W v * W + (cX W v) else -1), .int .i64 (if q = true then (cY W v - 1) * W + cX W v else -1), .bool (edD W v false)] from by
      rw [HV.out]; rfl)
    have HOUT := Lib.hid (show ¬ (cX W v < W) → p = false ∧ q = false from fun h => HOUT.out (by simpa using h))
    generalize edD W v false = d at *
    generalize cX W v = X at *
    generalize cY W v = Y at *
    have HW1 := Lib.hid (show wrap64 (Y * W + X) = Y * W + X from IntWalk.wrap64_in _ (by omega))
    have HW2 := Lib.hid (show wrap64 ((Y - 1) * W + X) = (Y - 1) * W + X from IntWalk.wrap64_in _ (by omega))
    clear m1 m0 m2
    by_cases ht : X < W
    · clear HOUT
      cases p <;> cases q
      all_goals
        go_enter Tryz.func125, Tryz.ntmps125
        go_wp2_with fail
        refine (C1.out _ R0).mono ?_
        rintro e w1 ⟨rfl, b1⟩
        have X1 := X0.belo b1
        have R1 := R0.belo b1
        have B1 := bl_go B0 b1
        clear x0 x1 x2
        obtain ⟨x0, x1, x2⟩ := id X1
        go_wp2_with fail
        refine (C2.out _ R1).mono ?_
        rintro e w2 ⟨rfl, b2⟩
        have X2 := X1.belo b2
        have B2 := bl_go B1 b2
        clear x0 x1 x2
        obtain ⟨x0, x1, x2⟩ := id X2
        clear X0 X1 X2 R0 R1 B0 B1 C1 C2 b1 b2
        go_wp2_with (go_at_call 143; refine (CD.out _).mono ?_; rintro e w4 ⟨rfl, rfl⟩)
        refine bodyPost_ret (v := V) (by rw [HV.out]; simp [results, Tryz.results125, go_sem, HW1.out, HW2.out]) rfl ⟨rfl, B2⟩
    · obtain ⟨rfl, rfl⟩ := HOUT.out ht
      clear HOUT
      go_enter Tryz.func125, Tryz.ntmps125
      go_wp2_with fail
      refine (C1.out _ R0).mono ?_
      rintro e w1 ⟨rfl, b1⟩
      have X1 := X0.belo b1
      have R1 := R0.belo b1
      have B1 := bl_go B0 b1
      clear x0 x1 x2
      obtain ⟨x0, x1, x2⟩ := id X1
      go_wp2_with fail
      refine (C2.out _ R1).mono ?_
      rintro e w2 ⟨rfl, b2⟩
      have X2 := X1.belo b2
      have B2 := bl_go B1 b2
      clear x0 x1 x2
      obtain ⟨x0, x1, x2⟩ := id X2
      clear X0 X1 X2 R0 R1 B0 B1 C1 C2 b1 b2
      go_wp2_with (go_at_call 143; refine (CD.out _).mono ?_; rintro e w4 ⟨rfl, rfl⟩)
      refine bodyPost_ret (v := V) (by rw [HV.out]; simp [results, Tryz.results125, go_sem]) rfl ⟨rfl, B2⟩
  | true =>
    have CD := Lib.hid (show ∀ z, Calls Tryz.prog 143 #[.int .i64 (cX W v - 1), .int .i64 (cY W v)] z _ from CD.out)
    have C1 := Lib.hid (show ∀ z, Rd z A (bs.map .bool) → Calls Tryz.prog 124 #[.agg #[.int .i64 W, .int .i64 T, .slice A n c], .int .i64 (cX W v - 1), .int .i64 (cY W v)] z _ from C1.out)
    have C2 := Lib.hid (show ∀ z, Rd z A (bs.map .bool) → Calls Tryz.prog 124 #[.agg #[.int .i64 W, .int .i64 T, .slice A n c], .int .i64 (cX W v), .int .i64 (cY W v)] z _ from C2.out)
    have HV := Lib.hid (show V = .tuple #[.int .i64 ((v : Int) + W + 1), .bool (p || q), .bool (p && q), .int .i64 (if p = true then cY W v * W + (cX W v - 1) else -1), .int .i64 (if q = true then (cY W v) * W + cX W v else -1), .bool (edD W v true)] from by
      rw [HV.out]; unfold sdT; rw [if_pos rfl, Int.add_assoc]; rfl)
    have HOUT := Lib.hid (show ¬ (cY W v < T) → p = false ∧ q = false from fun h => HOUT.out (by simpa using h))
    generalize edD W v true = d at *
    generalize cX W v = X at *
    generalize cY W v = Y at *
    have HW1 := Lib.hid (show wrap64 (Y * W + (X - 1)) = Y * W + (X - 1) from IntWalk.wrap64_in _ (by omega))
    have HW2 := Lib.hid (show wrap64 (Y * W + X) = Y * W + X from IntWalk.wrap64_in _ (by omega))
    clear m1 m0 m2
    by_cases ht : Y < T
    · clear HOUT
      cases p <;> cases q
      all_goals
        go_enter Tryz.func125, Tryz.ntmps125
        go_wp2_with fail
        refine (C1.out _ R0).mono ?_
        rintro e w1 ⟨rfl, b1⟩
        have X1 := X0.belo b1
        have R1 := R0.belo b1
        have B1 := bl_go B0 b1
        clear x0 x1 x2
        obtain ⟨x0, x1, x2⟩ := id X1
        go_wp2_with fail
        refine (C2.out _ R1).mono ?_
        rintro e w2 ⟨rfl, b2⟩
        have X2 := X1.belo b2
        have B2 := bl_go B1 b2
        clear x0 x1 x2
        obtain ⟨x0, x1, x2⟩ := id X2
        clear X0 X1 X2 R0 R1 B0 B1 C1 C2 b1 b2
        go_wp2_with (go_at_call 143; refine (CD.out _).mono ?_; rintro e w4 ⟨rfl, rfl⟩)
        refine bodyPost_ret (v := V) (by rw [HV.out]; simp [results, Tryz.results125, go_sem, HW1.out, HW2.out]) rfl ⟨rfl, B2⟩
    · obtain ⟨rfl, rfl⟩ := HOUT.out ht
      clear HOUT
      go_enter Tryz.func125, Tryz.ntmps125
      go_wp2_with fail
      refine (C1.out _ R0).mono ?_
      rintro e w1 ⟨rfl, b1⟩
      have X1 := X0.belo b1
      have R1 := R0.belo b1
      have B1 := bl_go B0 b1
      clear x0 x1 x2
      obtain ⟨x0, x1, x2⟩ := id X1
      go_wp2_with fail
      refine (C2.out _ R1).mono ?_
      rintro e w2 ⟨rfl, b2⟩
      have X2 := X1.belo b2
      have B2 := bl_go B1 b2
      clear x0 x1 x2
      obtain ⟨x0, x1, x2⟩ := id X2
      clear X0 X1 X2 R0 R1 B0 B1 C1 C2 b1 b2
      go_wp2_with (go_at_call 143; refine (CD.out _).mono ?_; rintro e w4 ⟨rfl, rfl⟩)
      refine bodyPost_ret (v := V) (by rw [HV.out]; simp [results, Tryz.results125, go_sem]) rfl ⟨rfl, B2⟩
end Go.Proofs.YtafmpgikdhlknaaGreat

/- Contract: the reference's TilingOk. -/
namespace Go.Proofs.YtafmpgikdhlknaaGreat
open Go.RowKit

set_option maxRecDepth 100000 in
set_option maxHeartbeats 1000000 in
theorem sTilingOk_any (W T : Int) (A A' : Option Addr) (c c' n m : Nat) (bs : List Bool) (L : List Int) (w : World) (hr : Rd w A (bs.map .bool)) (hr' : Rd w A' (L.map (.int .i64))) (hn : bs.length = n) (hnm : n ≤ maxLen) (hm : L.length = m) (hmm : m ≤ maxLen) :
    Calls Tryz.prog 46 #[.agg #[.int .i64 W, .int .i64 T, .slice A n c], .slice A' m c'] w fun e w' => e = .returned (.bool (tilingB W T bs L)) ∧ Below w.heap.size w w' := by
  have X0 := C3.new w (.int .i64 W) (.int .i64 T) (.slice A n c) 25
  have B0 := bl_alloc (Below.refl w.heap.size w) (.cells #[.int .i64 W, .int .i64 T, .slice A n c] 25)
  have CL := Lib.hid (sLaidOk_any W T A A' c c' bs L _ (hr.belo B0) (hr'.belo B0) (by omega) (by omega))
  rw [hn, hm] at CL
  obtain ⟨x0, x1, x2⟩ := id X0
  cases hv : laidOkB W T bs L with
  | false =>
    have HF := Lib.hid (show tilingB W T bs L = false by unfold tilingB; rw [hv]; rfl)
    rw [hv] at CL
    clear hv
    go_enter Tryz.func46, Tryz.ntmps46
    go_wp2_with fail
    refine CL.out.mono ?_
    rintro e w1 ⟨rfl, b1⟩
    have B1 := bl_go B0 b1
    clear x0 x1 x2
    go_wp2
    go_ret
    exact ⟨ret_b HF.out.symm, B1⟩
  | true =>
    have HF := Lib.hid (show tilingB W T bs L = fullB bs L by unfold tilingB; rw [hv]; rfl)
    have hlen : L.length = bs.length := by
      cases h : laysB W T bs L with
      | true => unfold laysB at h; simp at h; exact h.1
      | false => unfold laidOkB at hv; rw [h] at hv; simp at hv
    obtain rfl : m = n := by omega
    have HN := Lib.hid hn
    have HM := Lib.hid hm
    unfold maxLen at hnm
    rw [hv] at CL
    clear hv hlen hn hm
    go_enter Tryz.func46, Tryz.ntmps46
    go_wp2_with fail
    refine CL.out.mono ?_
    rintro e w1 ⟨rfl, b1⟩
    have B1 := bl_go B0 b1
    have X1 := X0.belo b1
    have R1 := hr.belo B1
    have R1' := hr'.belo B1
    clear x0 x1 x2
    obtain ⟨x0, x1, x2⟩ := id X1
    go_wp2_with fail
    go_loop [5] (fun i => ∃ k : Nat, k ≤ m ∧ i = .int .i64 k ∧ Hid (∀ j, j < k → (bs.getD j false && decide (L.getD j 0 = 0)) = false)) (fun i => m - (intOf i).toNat)
    case atStart => exact ⟨0, Nat.zero_le _, rfl, fun j h => by omega⟩
    case round =>
      obtain ⟨k, hk, rfl, HK⟩ := hrel
      by_cases hlt : k < m
      · have hkb : k < bs.length := by have := HN.out; omega
        have hkl : k < L.length := by have := HM.out; omega
        obtain ⟨b, off, rfl, ck⟩ := R1.atEM hkb
        obtain ⟨b', off', rfl, lk⟩ := R1'.atEM hkl
        have HG1 := Lib.hid (getD_in bs false hkb)
        have HG2 := Lib.hid (getD_in L 0 hkl)
        generalize bs[k] = bk at ck HG1
        generalize L[k] = lv at lk HG2
        have hkI : (k : Int) < (m : Int) := by omega
        cases bk with
        | false =>
          have HF2 := Lib.hid (show (bs.getD k false && decide (L.getD k 0 = 0)) = false by rw [HG1.out]; rfl)
          go_wp2
          go_round
          case rel =>
            refine ⟨k + 1, by omega, by go_num, fun j hj => ?_⟩
            rcases Nat.lt_or_ge j k with h | h
            · exact HK.out j h
            · obtain rfl : j = k := by omega
              exact HF2.out
          case measure => simp [intOf]; omega
        | true =>
          by_cases hv : lv = 0
          · have HF2 := Lib.hid (fullB_f k hkb (show (bs.getD k false && decide (L.getD k 0 = 0)) = true by rw [HG1.out, HG2.out, decide_eq_true hv]; rfl))
            have hv1 : (lv == 0) = true := by simpa using hv
            clear hv
            go_wp2
            go_ret
            exact ⟨ret_b (by rw [HF.out, HF2.out]), B1⟩
          · have HF2 := Lib.hid (show (bs.getD k false && decide (L.getD k 0 = 0)) = false by rw [HG1.out, HG2.out, decide_eq_false hv]; rfl)
            have hv1 : (lv == 0) = false := by simpa using hv
            clear hv
            go_wp2
            go_round
            case rel =>
              refine ⟨k + 1, by omega, by go_num, fun j hj => ?_⟩
              rcases Nat.lt_or_ge j k with h | h
              · exact HK.out j h
              · obtain rfl : j = k := by omega
                exact HF2.out
            case measure => simp [intOf]; omega
      · have HF2 := Lib.hid (fullB_t (bs := bs) (L := L) (fun j hj => HK.out j (by have := HN.out; omega)))
        go_wp2
        go_ret
        exact ⟨ret_b (by rw [HF.out, HF2.out]), B1⟩
end Go.Proofs.YtafmpgikdhlknaaGreat

/- Contracts: the reference's parts of a region; what is outside of it; simple regions. -/
namespace Go.Proofs.YtafmpgikdhlknaaGreat
open Go.RowKit

theorem OwnI.stored {w : World} {base g n c : Nat} {xs : List Int} (h : OwnI w base (.slice (some ⟨g, 0, none⟩) n c) xs) (j : Nat) (u : Int) :
    OwnI (w.setCell ⟨g, j, none⟩ (.int .i64 u)) base (.slice (some ⟨g, 0, none⟩) n c) (xs.set j u) ∧ w.frozen? ⟨g, j, none⟩ = false ∧ base ≤ g ∧ g < w.heap.size := by
  obtain ⟨A, c', e, h⟩ := h
  have hn : n = xs.length := by injection e
  have hA : A = some ⟨g, 0, none⟩ := by injection e with e1 _ _; exact e1.symm
  have hc : c' = c := by injection e with _ _ e3; exact e3.symm
  subst hA; subst hc; subst hn
  have h1 := (h.stored j (.int .i64 u)).1
  rw [← List.map_set] at h1
  refine ⟨⟨_, _, by rw [List.length_set], ?_⟩, h.frozenAt j, (h.lt g rfl).1, (h.lt g rfl).2⟩
  rw [List.length_set]; exact h1
theorem OwnI.uno (w : World) (u : Int) : OwnI (w.alloc (.cells #[.int .i64 u] 3)) w.heap.size (.slice (some ⟨w.heap.size, 0, none⟩) 1 1) [u] :=
  ⟨_, _, rfl, World.ownsRow_lit w #[.int .i64 u] 1 (Nat.le_refl _) (by unfold maxLen; omega) (by simp)⟩
theorem OwnI.head {w : World} {base n c : Nat} {A : Option Addr} {xs : List Int} (h : OwnI w base (.slice A n c) xs) (hn : 0 < n) : ∃ g, A = some ⟨g, 0, none⟩ := by
  obtain ⟨A', c', e, h⟩ := h
  have hn' : 0 < xs.length := by
    have e1 : n = xs.length := by injection e
    omega
  obtain ⟨g, cap, hv, _, _⟩ := h.form hn'
  injection hv with e3
  exact ⟨g, e3⟩
theorem step_beside {W T : Int} {n : Nat} (hf : FldG W T n) {k : Nat} (hk : k < n) :
    ((0 < (k : Int) % W ∧ ∃ s : Nat, stepZ W T k 3 = s ∧ (k : Int) - 1 = s ∧ s < n) ∨ ((k : Int) % W = 0 ∧ stepZ W T k 3 = -1)) ∧
    ((W ≤ (k : Int) ∧ ∃ s : Nat, stepZ W T k 4 = s ∧ (k : Int) - W = s ∧ s < n) ∨ ((k : Int) < W ∧ stepZ W T k 4 = -1)) := by
  obtain ⟨a1, a2, a3, a4, a5⟩ := hf.xy hk
  have hw := hf.w1
  have hd : 0 < (k : Int) / W ↔ W ≤ (k : Int) := by
    constructor
    · intro h
      refine Classical.byContradiction fun hn => ?_
      have h0 := Int.ediv_eq_zero_of_lt (a := (k : Int)) (b := W) (by omega) (by omega)
      omega
    · intro h
      refine Classical.byContradiction fun hn => ?_
      rw [show (k : Int) / W = 0 by omega, Int.zero_mul] at a5
      omega
  have hq : 0 ≤ (k : Int) / W * W := Int.mul_nonneg a3 (by omega)
  refine ⟨?_, ?_⟩
  · by_cases h : 0 < (k : Int) % W
    · refine .inl ⟨h, k - 1, by rw [step3, if_pos h]; omega, by omega, by omega⟩
    · exact .inr ⟨by omega, by rw [step3, if_neg h]⟩
  · by_cases h : W ≤ (k : Int)
    · obtain ⟨s, hs⟩ := Int.eq_ofNat_of_zero_le (show 0 ≤ (k : Int) - W by omega)
      exact .inl ⟨h, s, by rw [step4, if_pos (hd.2 h)]; omega, hs, by omega⟩
    · exact .inr ⟨by omega, by rw [step4, if_neg (fun x => h (hd.1 x))]⟩
theorem sp1_cond {W T : Int} {M : List Int} {c : Nat} {d : Int} (b : Bool) (h : b = decide (0 ≤ stepZ W T c d ∧ 0 ≤ M.getD c (-1) ∧ 0 ≤ M.getD (stepZ W T c d).toNat (-1))) :
    sp1 W T M c d = if b = true then (M.set c (min (M.getD c (-1)) (M.getD (stepZ W T c d).toNat (-1)))).set (stepZ W T c d).toNat (min (M.getD c (-1)) (M.getD (stepZ W T c d).toNat (-1))) else M := by
  unfold sp1
  subst h
  by_cases h : 0 ≤ stepZ W T c d ∧ 0 ≤ M.getD c (-1) ∧ 0 ≤ M.getD (stepZ W T c d).toNat (-1)
  · rw [if_pos h, if_pos (decide_eq_true h)]
  · rw [if_neg h, if_neg (by rw [decide_eq_true_eq]; exact h)]
set_option maxRecDepth 100000 in
set_option maxHeartbeats 4000000 in
theorem sPartsOf_any (W T : Int) (A : Option Addr) (c n : Nat) (bs : List Bool) (w : World) (hr : Rd w A (bs.map .bool)) (hv : validB W T bs = true) (hn : bs.length = n) :
    Calls Tryz.prog 133 #[.agg #[.int .i64 W, .int .i64 T, .slice A n c]] w fun e w' => ∃ g cc : Nat, e = .returned (.slice (some ⟨g, 0, none⟩) n cc) ∧ Wr w' w.heap.size 3 (some ⟨g, 0, none⟩) ((spE W T bs).map (.int .i64)) ∧ Below w.heap.size w w' := by
  obtain ⟨⟨w1, w6⟩, ⟨t1, t6⟩, hlen, -⟩ := validB_iff.1 hv
  have hm := mul_bd w1 w6 t1 t6
  have hfg : FldG W T n := ⟨w1, t1, by rw [← hn]; exact hlen⟩
  have hln := hfg.len
  have n36 : n ≤ 36 := by omega
  have n1 : 1 ≤ n := by omega
  have HFG := Lib.hid hfg
  have HN := Lib.hid hn
  have CV := Lib.hid (fun (z : World) (R : Rd z A (bs.map .bool)) => (show Calls Tryz.prog 101 #[.agg #[.int .i64 W, .int .i64 T, .slice A n c]] z fun e w' => e = .returned (.bool true) ∧ Below z.heap.size z w' by
    have := sRegionValid_any W T A c bs z R (by unfold maxLen; omega)
    rw [hn, hv] at this
    exact this))
  have X0 := C3.new w (.int .i64 W) (.int .i64 T) (.slice A n c) 25
  have X1 := X0.alloc (.cells #[] 3)
  have B0 := bl_alloc (bl_alloc (Below.refl w.heap.size w) (.cells #[.int .i64 W, .int .i64 T, .slice A n c] 25)) (.cells #[] 3)
  have O0 := (OwnI.empty (w.alloc (.cells #[.int .i64 W, .int .i64 T, .slice A n c] 25)))
  have hs0 : (w.alloc (.cells #[.int .i64 W, .int .i64 T, .slice A n c] 25)).heap.size = w.heap.size + 1 := by simp
  rw [hs0] at O0
  obtain ⟨x0, x1, x2⟩ := id X1
  clear hv hlen hm hfg X0 hn hln
  go_enter Tryz.func133, Tryz.ntmps133
  go_wp2_with fail
  refine (CV.out _ (hr.belo B0)).mono ?_
  rintro e w2 ⟨rfl, b2⟩
  have O2 := O0.belo b2
  have X2 := X1.belo b2
  have B2 := bl_go B0 b2
  have hz2 : w.heap.size + 1 ≤ w2.heap.size := X2.lt
  clear X1 B0 O0 b2 x0 x1 x2 hs0
  obtain ⟨x0, x1, x2⟩ := id X2
  go_wp2_with fail
  go_loopw [3, 4] (fun v i wr => ∃ k : Nat, k ≤ n ∧ i = .int .i64 k ∧ OwnI wr (w.heap.size + 1) v ((lb0 bs).take k) ∧ Below w.heap.size w wr ∧ C3 wr w.heap.size (.int .i64 W) (.int .i64 T) (.slice A n c) ∧ w.heap.size + 1 ≤ wr.heap.size) (fun _ i _ => n - (intOf i).toNat)
  case atStart => exact ⟨0, Nat.zero_le _, rfl, O2, B2, X2, hz2⟩
  case round =>
    clear O2 B2 X2 hz2 x0 x1 x2
    obtain ⟨k, hk, rfl, O3, B3, X3, hz3⟩ := hrel
    obtain ⟨x0, x1, x2⟩ := id X3
    have hPL : (lb0 bs).length = n := by unfold lb0; simp [HN.out]
    by_cases hlt : k < n
    · obtain ⟨ad, rfl, hc⟩ := (hr.below B3 (Nat.le_refl _)).atM (k := k) (by rw [HN.out]; exact hlt)
      have HTK : Hid (∀ z, (lb0 bs)[k]'(by rw [hPL]; exact hlt) = z → (lb0 bs).take (k + 1) = (lb0 bs).take k ++ [z]) := fun z e => by
        rw [take_one_more _ _ (by rw [hPL]; exact hlt), e]
      have HG := Lib.hid (show (lb0 bs)[k]'(by rw [hPL]; exact hlt) = if bs[k]'(by rw [HN.out]; exact hlt) = true then (k : Int) else -1 by
        have h1 := lb0_get (bs := bs) (k := k) (by rw [HN.out]; exact hlt)
        rw [List.getD_eq_getElem?_getD, List.getElem?_eq_getElem (by rw [hPL]; exact hlt), List.getD_eq_getElem?_getD, List.getElem?_eq_getElem (by rw [HN.out]; exact hlt)] at h1
        exact h1)
      generalize bs[k]'(by rw [HN.out]; exact hlt) = bv at hc HG
      have hLT : ((lb0 bs).take k).length = k := by rw [List.length_take]; omega
      generalize (lb0 bs).take k = Lk at O3 HTK hLT
      generalize (lb0 bs)[k]'(by rw [hPL]; exact hlt) = z at HTK HG
      have hl9 : Lk.length ≤ 1000000000000 := by omega
      obtain ⟨A3, c3, ev, -⟩ := id O3
      rw [hLT] at ev
      subst ev
      have HLT := Lib.hid hLT
      clear hLT
      have hcl : ad.block < w.heap.size := hr.lt rfl (by intro e; rw [List.map_eq_nil_iff] at e; have := HN.out; rw [e] at this; simp at this; omega)
      cases bv with
      | false =>
        go_wp2_with (at_builtin; refine app_int _ rfl _ _ rfl (w.heap.size + 1) _ _ rfl O3 _ rfl hl9 hz3 ?_; intro A4 c4 w4 O4 g4; rw [HLT.out] at O4 ⊢; have b4 := app_below (Below.refl (w.heap.size + 1) wr) (Nat.le_refl _) hz3 O3 g4; have X4 := X3.below b4 (Nat.lt_succ_self _); obtain ⟨y0, y1, y2⟩ := id X4; have hc4 := (b4.cell (p := ad.add k) (by rw [blk_add]; omega)).trans hc; obtain ⟨g, rfl⟩ := O4.head (Nat.succ_pos _); have st4 := O4.stored k k; have hf4 := st4.2.1; have cv4 := O4.rd.2.cellEM (k := k) (by simp; have := HLT.out; omega); simp only [Nat.zero_add] at cv4)
        go_roundw
        case rel => exact ⟨k + 1, by omega, by go_num, by rw [HTK.out _ rfl, HG.out]; exact O4, B3.trans (b4.mono (Nat.le_succ _)), X4, by have := b4.size; omega⟩
        case measure => simp [intOf]; omega
      | true =>
        go_wp2_with (at_builtin; refine app_int _ rfl _ _ rfl (w.heap.size + 1) _ _ rfl O3 _ rfl hl9 hz3 ?_; intro A4 c4 w4 O4 g4; rw [HLT.out] at O4 ⊢; have b4 := app_below (Below.refl (w.heap.size + 1) wr) (Nat.le_refl _) hz3 O3 g4; have X4 := X3.below b4 (Nat.lt_succ_self _); obtain ⟨y0, y1, y2⟩ := id X4; have hc4 := (b4.cell (p := ad.add k) (by rw [blk_add]; omega)).trans hc; obtain ⟨g, rfl⟩ := O4.head (Nat.succ_pos _); have st4 := O4.stored k k; have hf4 := st4.2.1; have cv4 := O4.rd.2.cellEM (k := k) (by simp; have := HLT.out; omega); simp only [Nat.zero_add] at cv4)
        go_roundw
        case rel =>
          refine ⟨k + 1, by omega, by go_num, ?_, (B3.trans (b4.mono (Nat.le_succ _))).setCell (by have := st4.2.2.1; simp; omega) _, X4.set (by have := st4.2.2.1; simp; omega) _, by have := b4.size; simp [World.setCell]; omega⟩
          rw [HTK.out _ rfl, HG.out]
          have h9 := st4.1
          rw [List.set_append_right _ _ (by rw [HLT.out]; exact Nat.le_refl _), HLT.out, Nat.sub_self] at h9
          exact h9
        case measure => simp [intOf]; omega
    · obtain rfl : k = n := by omega
      rw [List.take_of_length_le (by omega)] at O3
      obtain ⟨A3, c3, ev, ow⟩ := id O3
      rw [hPL] at ev ow
      subst ev
      obtain ⟨g, rfl⟩ := O3.head (by omega)
      have hg1 : w.heap.size < g := (O3.lt _ rfl).1
      have L3 : LpLab w W T A c k g (lb0 bs) wr := ⟨hPL, Wr.of_own ow, X3, B3⟩
      clear ow O3 hlt hPL B3 X3 hz3
      go_wp2_with fail
      go_loopw [5] (fun i wr => ∃ r : Nat, r ≤ k ∧ i = .int .i64 r ∧ LpLab w W T A c k g (spN W T bs r) wr) (fun i _ => k - (intOf i).toNat)
      case atStart => exact ⟨0, Nat.zero_le _, rfl, L3⟩
      case round =>
        clear L3 x0 x1 x2
        obtain ⟨r, hrk, rfl, L4⟩ := hrel
        by_cases hltr : r < k
        · go_wp2_with fail
          obtain ⟨wo, hwo⟩ : ∃ wo : World, wo = wr := ⟨_, rfl⟩
          subst hwo
          go_loopw [6] (fun i wr => ∃ q : Nat, q ≤ k ∧ i = .int .i64 q ∧ LpLab w W T A c k g (spR W T (spN W T bs r) q) wr) (fun i _ => k - (intOf i).toNat)
          case atStart => exact ⟨0, Nat.zero_le _, rfl, L4⟩
          case round =>
            clear L4
            obtain ⟨q, hqk, rfl, L5⟩ := hrel
            obtain ⟨x0, x1, x2⟩ := id L5.2.2.1
            by_cases hlq : q < k
            · have HS := Lib.hid (show spR W T (spN W T bs r) (q + 1) = sp1 W T (sp1 W T (spR W T (spN W T bs r) q) q 3) q 4 from rfl)
              obtain ⟨M, hM⟩ : ∃ M, spR W T (spN W T bs r) q = M := ⟨_, rfl⟩
              rw [hM] at HS L5
              clear hM
              obtain ⟨hbW, hbN⟩ := step_beside HFG.out hlq
              obtain ⟨y1, y2, y3, y4⟩ := L5.cell hlq
              obtain ⟨wq, hwq⟩ : ∃ wq : World, wq = wr := ⟨_, rfl⟩
              subst hwq
              obtain ⟨X, hX⟩ : ∃ X, (q : Int) % W = X := ⟨_, rfl⟩
              have hXt : (q : Int).tmod W = X := by rw [Int.tmod_eq_emod_of_nonneg (by omega)]; exact hX
              rw [hX] at hbW
              have hX0 : 0 ≤ X := by rw [← hX]; exact Int.emod_nonneg _ (by omega)
              have hX9 : X ≤ 6 := by rw [← hX]; have := Int.emod_lt_of_pos (q : Int) (show 0 < W by omega); omega
              obtain ⟨tb, htb⟩ : ∃ tb : Bool, tb = decide (0 ≤ stepZ W T q 3 ∧ 0 ≤ M.getD q (-1) ∧ 0 ≤ M.getD (stepZ W T q 3).toNat (-1)) := ⟨_, rfl⟩
              have HSP := Lib.hid (sp1_cond tb htb)
              have HTB := Lib.hid htb
              clear htb
              go_upto_region 16 with fail
              go_cut [62] from 37 to 129 (fun s62 wx => s62 = .bool tb ∧ wx = wq)
              case first =>
                rcases hbW with ⟨hp, s, e3, e3', hs⟩ | ⟨hp, e3⟩
                · obtain ⟨v1, -, -, -⟩ := L5.cell hs
                  have ht := HTB.out
                  rw [e3, Int.toNat_natCast] at ht
                  generalize M.getD q (-1) = a at *
                  generalize M.getD s (-1) = b at *
                  have hs36 : (s : Int) < (k : Int) := by omega
                  have hs0 : 0 ≤ (s : Int) := by omega
                  have HT := Lib.hid ht
                  clear ht e3
                  by_cases ha : 0 ≤ a
                  · by_cases hb : 0 ≤ b
                    · go_wp2_with fail
                      go_meet
                      exact ⟨by rw [HT.out, decide_eq_true ⟨hs0, ha, hb⟩], rfl⟩
                    · have hb' : decide (0 ≤ b) = false := decide_eq_false hb
                      go_wp2_with fail
                      go_meet
                      exact ⟨by rw [HT.out, decide_eq_false (fun x => by have := x.2.2; omega)], rfl⟩
                  · have ha' : decide (0 ≤ a) = false := decide_eq_false ha
                    go_wp2_with fail
                    go_meet
                    exact ⟨by rw [HT.out, decide_eq_false (fun x => by have := x.2.1; omega)], rfl⟩
                · have HT := Lib.hid (show tb = false by rw [HTB.out, decide_eq_false (fun x => by have := x.1; omega)])
                  have hp' : decide (0 < X) = false := decide_eq_false (by omega)
                  generalize M.getD q (-1) = a at *
                  clear e3
                  by_cases ha : 0 ≤ a
                  · go_wp2_with fail
                    go_meet
                    exact ⟨by rw [HT.out], rfl⟩
                  · have ha' : decide (0 ≤ a) = false := decide_eq_false ha
                    go_wp2_with fail
                    go_meet
                    exact ⟨by rw [HT.out], rfl⟩
              case rest =>
                obtain ⟨rfl, rfl⟩ := hcut
                go_upto_if 62 with fail
                go_cut [6] from 37 to 129 (fun s6 wx => s6 = .int .i64 q ∧ LpLab w W T A c k g (sp1 W T M q 3) wx)
                case first =>
                  cases tb with
                  | false =>
                    go_wp2_with fail
                    go_meet
                    exact ⟨rfl, by rw [HSP.out]; exact L5⟩
                  | true =>
                    have ht := of_decide_eq_true HTB.out.symm
                    rcases hbW with ⟨hp, s, e3, e3', hs⟩ | ⟨hp, e3⟩
                    · obtain ⟨v1, -, -, -⟩ := L5.cell hs
                      have HSQ := Lib.hid (show sp1 W T M q 3 = (M.set q (min (M.getD q (-1)) (M.getD s (-1)))).set s (min (M.getD q (-1)) (M.getD s (-1))) by
                        rw [HSP.out, e3, Int.toNat_natCast]; rfl)
                      have hsq : s ≠ q := by omega
                      have L6 := (L5.set q (min (M.getD q (-1)) (M.getD s (-1))) hg1).belo (Below.refl _ _).drew
                      obtain ⟨z1, -, -, -⟩ := L6.cell hlq
                      have z2 := (L6.cell hs).2.1
                      have z3 := (L6.cell hs).1
                      rw [getD_set1, if_pos ⟨rfl, by rw [L5.1]; exact hlq⟩] at z1
                      rw [getD_set1, if_neg (fun x => hsq x.1.symm)] at z3
                      have hs36 : (s : Int) < (k : Int) := by omega
                      have L7 := L6.set s (min (M.getD q (-1)) (M.getD s (-1))) hg1
                      generalize M.getD q (-1) = a at *
                      generalize M.getD s (-1) = b at *
                      clear ht e3 HTB HSP
                      go_wp2_with fail
                      go_region
                      go_wp2_with fail
                      go_meet
                      exact ⟨rfl, by rw [HSQ.out]; exact L7⟩
                    · omega
                case rest =>
                  obtain ⟨rfl, L6⟩ := hcut
                  clear L5 y1 y2 y3 y4 x0 x1 x2 HTB HSP hbW
                  obtain ⟨M1, hM1⟩ : ∃ M1, sp1 W T M q 3 = M1 := ⟨_, rfl⟩
                  rw [hM1] at L6 HS
                  clear hM1
                  obtain ⟨y1, y2, y3, y4⟩ := L6.cell hlq
                  obtain ⟨x0, x1, x2⟩ := id L6.2.2.1
                  obtain ⟨wd, hwd⟩ : ∃ wd : World, wd = wc := ⟨_, rfl⟩
                  subst hwd
                  obtain ⟨tb2, htb⟩ : ∃ tb : Bool, tb = decide (0 ≤ stepZ W T q 4 ∧ 0 ≤ M1.getD q (-1) ∧ 0 ≤ M1.getD (stepZ W T q 4).toNat (-1)) := ⟨_, rfl⟩
                  have HSP := Lib.hid (sp1_cond tb2 htb)
                  have HTB := Lib.hid htb
                  clear htb
                  go_upto_region 19 with fail
                  go_cut [104] from 37 to 129 (fun s104 wx => s104 = .bool tb2 ∧ wx = wd)
                  case first =>
                    rcases hbN with ⟨hp, s, e3, e3', hs⟩ | ⟨hp, e3⟩
                    · obtain ⟨v1, -, -, -⟩ := L6.cell hs
                      have ht := HTB.out
                      rw [e3, Int.toNat_natCast] at ht
                      generalize M1.getD q (-1) = a at *
                      generalize M1.getD s (-1) = b at *
                      have hs36 : (s : Int) < (k : Int) := by omega
                      have hs0 : 0 ≤ (s : Int) := by omega
                      have HT := Lib.hid ht
                      clear ht e3
                      by_cases ha : 0 ≤ a
                      · by_cases hb : 0 ≤ b
                        · go_wp2_with fail
                          go_meet
                          exact ⟨by rw [HT.out, decide_eq_true ⟨hs0, ha, hb⟩], rfl⟩
                        · have hb' : decide (0 ≤ b) = false := decide_eq_false hb
                          go_wp2_with fail
                          go_meet
                          exact ⟨by rw [HT.out, decide_eq_false (fun x => by have := x.2.2; omega)], rfl⟩
                      · have ha' : decide (0 ≤ a) = false := decide_eq_false ha
                        go_wp2_with fail
                        go_meet
                        exact ⟨by rw [HT.out, decide_eq_false (fun x => by have := x.2.1; omega)], rfl⟩
                    · have HT := Lib.hid (show tb2 = false by rw [HTB.out, decide_eq_false (fun x => by have := x.1; omega)])
                      have hp' : decide (W ≤ (q : Int)) = false := decide_eq_false (by omega)
                      generalize M1.getD q (-1) = a at *
                      clear e3
                      by_cases ha : 0 ≤ a
                      · go_wp2_with fail
                        go_meet
                        exact ⟨by rw [HT.out], rfl⟩
                      · have ha' : decide (0 ≤ a) = false := decide_eq_false ha
                        go_wp2_with fail
                        go_meet
                        exact ⟨by rw [HT.out], rfl⟩
                  case rest =>
                    obtain ⟨rfl, rfl⟩ := hcut
                    cases tb2 with
                    | false =>
                      go_wp2_with fail
                      go_roundw
                      case rel => exact ⟨q + 1, by omega, by go_num, by rw [HS.out, HSP.out]; exact L6⟩
                      case measure => simp [intOf]; omega
                    | true =>
                      have ht := of_decide_eq_true HTB.out.symm
                      rcases hbN with ⟨hp, s, e3, e3', hs⟩ | ⟨hp, e3⟩
                      · obtain ⟨v1, -, -, -⟩ := L6.cell hs
                        have HSQ := Lib.hid (show sp1 W T M1 q 4 = (M1.set q (min (M1.getD q (-1)) (M1.getD s (-1)))).set s (min (M1.getD q (-1)) (M1.getD s (-1))) by
                          rw [HSP.out, e3, Int.toNat_natCast]; rfl)
                        have hsq : s ≠ q := by omega
                        have L7 := (L6.set q (min (M1.getD q (-1)) (M1.getD s (-1))) hg1).belo (Below.refl _ _).drew
                        obtain ⟨z1, -, -, -⟩ := L7.cell hlq
                        have z2 := (L7.cell hs).2.1
                        have z3 := (L7.cell hs).1
                        rw [getD_set1, if_pos ⟨rfl, by rw [L6.1]; exact hlq⟩] at z1
                        rw [getD_set1, if_neg (fun x => hsq x.1.symm)] at z3
                        have hs36 : (s : Int) < (k : Int) := by omega
                        obtain ⟨w0', w1', w2'⟩ := id L7.2.2.1
                        have L8 := (L7.set s (min (M1.getD q (-1)) (M1.getD s (-1))) hg1).belo (Below.refl _ _).drew
                        generalize M1.getD q (-1) = a at *
                        generalize M1.getD s (-1) = b at *
                        clear ht e3 HTB HSP
                        go_wp2_with fail
                        go_region
                        go_wp2_with fail
                        go_region
                        go_wp2_with fail
                        go_roundw
                        case rel => exact ⟨q + 1, by omega, by go_num, by rw [HS.out, HSQ.out]; exact L8⟩
                        case measure => simp [intOf]; omega
                      · omega
            · obtain rfl : q = k := by omega
              go_wp2_with fail
              go_roundw
              case rel => exact ⟨r + 1, by omega, by go_num, by have e : spN W T bs (r + 1) = spR W T (spN W T bs r) bs.length := rfl; rw [e, HN.out]; exact L5⟩
              case measure => simp [intOf]; omega
        · obtain rfl : r = k := by omega
          go_wp2_with fail
          go_ret
          exact ⟨g, c3, rfl, by unfold spE; rw [HN.out]; exact L4.2.1.lower (Nat.le_succ _), L4.2.2.2⟩
set_option maxRecDepth 100000 in
set_option maxHeartbeats 2000000 in
theorem sPartsMany_any (W T : Int) (A : Option Addr) (c n : Nat) (bs : List Bool) (w : World) (hr : Rd w A (bs.map .bool)) (hn : bs.length = n) (hm : n ≤ maxLen) :
    Calls Tryz.prog 99 #[.agg #[.int .i64 W, .int .i64 T, .slice A n c]] w fun e w' => e = .returned (.int .i64 (if validB W T bs = true then ((prtN W T bs : Nat) : Int) else -1)) ∧ Below w.heap.size w w' := by
  have X0 := C3.new w (.int .i64 W) (.int .i64 T) (.slice A n c) 25
  have B0 := bl_alloc (Below.refl w.heap.size w) (.cells #[.int .i64 W, .int .i64 T, .slice A n c] 25)
  have CV := Lib.hid (by have := sRegionValid_any W T A c bs _ (hr.belo B0) (by rw [hn]; exact hm); rw [hn] at this; exact this)
  have CP := Lib.hid (fun (h : validB W T bs = true) (z : World) (R : Rd z A (bs.map .bool)) => sPartsOf_any W T A c n bs z R h hn)
  have HE := Lib.hid (fun (h : validB W T bs = true) => show n ≤ 36 ∧ (List.range n).countP (fun c => (spE W T bs).getD c (-1) == (c : Int)) = prtN W T bs ∧ (spE W T bs).length = n by
    have hf := valid_fld h
    have h1 := spE_parts hf
    have h2 := (spN_ok hf bs.length).len
    obtain ⟨⟨q1, q6⟩, ⟨t1, t6⟩, hlen, -⟩ := validB_iff.1 h
    have := mul_bd q1 q6 t1 t6
    rw [hn] at h1 h2
    exact ⟨by omega, h1, by unfold spE; rw [hn]; exact h2⟩)
  obtain ⟨x0, x1, x2⟩ := id X0
  generalize validB W T bs = v at CV CP HE ⊢
  generalize spE W T bs = M at CP HE
  generalize prtN W T bs = P at HE ⊢
  go_enter Tryz.func99, Tryz.ntmps99
  go_wp2_with fail
  refine CV.out.mono ?_
  rintro e w1 ⟨rfl, b1⟩
  have X1 := X0.belo b1
  have R1 := (hr.belo B0).belo b1
  have B1 := bl_go B0 b1
  obtain ⟨y0, y1, y2⟩ := id X1
  clear X0 B0 b1 x0 x1 x2 CV X1
  cases v with
  | false =>
    go_wp2_with fail
    go_ret
    exact ⟨rfl, B1⟩
  | true =>
    obtain ⟨n36, hE, hML⟩ := HE.out rfl
    have HEE := Lib.hid hE
    have HLN := Lib.hid hML
    clear HE hE hML hn hm
    go_wp2_with fail
    refine (CP.out trivial _ R1).mono ?_
    rintro e w2 ⟨g, cc, rfl, W2, b2⟩
    have B2 := bl_go B1 b2
    have R2 := W2.rd
    clear W2 b2 B1 CP y0 y1 y2
    go_wp2_with fail
    go_loopw [3, 5] (fun s i wr => ∃ k : Nat, k ≤ n ∧ i = .int .i64 k ∧ s = .int .i64 ((List.range k).countP (fun c => M.getD c (-1) == (c : Int)) : Nat) ∧ wr = w2) (fun _ i _ => n - (intOf i).toNat)
    case atStart => exact ⟨0, Nat.zero_le _, rfl, rfl, rfl⟩
    case round =>
      obtain ⟨k, hk, rfl, rfl, rfl⟩ := hrel
      by_cases hlt : k < n
      · have hkM : k < M.length := by rw [HLN.out]; exact hlt
        have hc := R2.cellEM hkM
        rw [Nat.zero_add] at hc
        have HK := Lib.hid (show M.getD k (-1) = M[k] by rw [List.getD_eq_getElem?_getD, List.getElem?_eq_getElem hkM]; rfl)
        have HSU := Lib.hid (show (List.range (k + 1)).countP (fun c => M.getD c (-1) == (c : Int)) = (List.range k).countP (fun c => M.getD c (-1) == (c : Int)) + (if M[k] == (k : Int) then 1 else 0) by
          rw [List.range_succ, List.countP_append, List.countP_singleton, HK.out])
        have hcl : (List.range k).countP (fun c => M.getD c (-1) == (c : Int)) ≤ k := by
          have := List.countP_le_length (p := fun c => M.getD c (-1) == (c : Int)) (l := List.range k)
          rw [List.length_range] at this
          exact this
        generalize (List.range k).countP (fun c => M.getD c (-1) == (c : Int)) = cn at HSU hcl ⊢
        generalize M[k] = v at hc HSU
        clear HK hkM
        cases h1 : (v == (k : Int)) with
        | true =>
          rw [h1] at HSU
          go_wp2_with fail
          go_roundw
          case rel => exact ⟨k + 1, by omega, by go_num, by rw [HSU.out]; rfl, trivial⟩
          case measure => simp [intOf]; omega
        | false =>
          rw [h1] at HSU
          go_wp2_with fail
          go_roundw
          case rel => exact ⟨k + 1, by omega, by go_num, by rw [HSU.out]; rfl, trivial⟩
          case measure => simp [intOf]; omega
      · obtain rfl : k = n := by omega
        rw [HEE.out]
        go_wp2_with fail
        go_ret
        exact ⟨rfl, B2⟩
/-- a search with a queue under way -/
structure BfsW (w : World) (W T : Int) (A : Option Addr) (n c gs base : Nat) (Q : List Nat) (S : List Bool) (v : Value) (wr : World) : Prop where
  own : OwnI wr base v (Q.map fun k : Nat => (k : Int))
  seen : Wr wr (w.heap.size + 1) 4 (some ⟨gs, 0, none⟩) (S.map .bool)
  box : C3 wr w.heap.size (.int .i64 W) (.int .i64 T) (.slice A n c)
  bel : Below w.heap.size w wr
  big : base ≤ wr.heap.size
  gs1 : w.heap.size < gs
  gs2 : gs < base
section
variable {w wr w' : World} {W T : Int} {A : Option Addr} {n c gs base : Nat} {Q : List Nat} {S : List Bool} {v : Value}
theorem BfsW.belo (h : BfsW w W T A n c gs base Q S v wr) (hb : Below wr.heap.size wr w') : BfsW w W T A n c gs base Q S v w' :=
  ⟨h.own.belo hb, h.seen.belo hb, h.box.belo hb, bl_go h.bel hb, Nat.le_trans h.big hb.size, h.gs1, h.gs2⟩
theorem BfsW.set (h : BfsW w W T A n c gs base Q S v wr) (k : Nat) (b : Bool) : BfsW w W T A n c gs base Q (S.set k b) v (wr.setCell ⟨gs, k, none⟩ (.bool b)) := by
  have h1 := h.gs1
  have h2 := h.gs2
  obtain ⟨A', c', e, ow⟩ := id h.own
  refine ⟨⟨A', c', e, ownsRow_setCell_below ow (by simpa using h2) _⟩, by rw [List.map_set]; exact h.seen.store k _, h.box.set (by simp; omega) _, h.bel.setCell (by simp; omega) _, by have := h.big; simpa [World.setCell] using this, h1, h2⟩
theorem BfsW.push {u : Nat} {v' : Value} (h : BfsW w W T A n c gs base Q S v wr) (ho : OwnI w' base v' ((Q.map fun k : Nat => (k : Int)) ++ [(u : Int)])) (hg : (wr.alloc (.cells #[.int .i64 u] 3)).grownBy w' v.ownBlock) : BfsW w W T A n c gs base (Q ++ [u]) S v' w' := by
  have h1 := h.gs1
  have h2 := h.gs2
  have hb := app_below (Below.refl base wr) (Nat.le_refl _) h.big h.own hg
  refine ⟨by rw [List.map_append]; exact ho, ?_, h.box.below hb (by omega), h.bel.trans (hb.mono (by omega)), Nat.le_trans h.big hb.size, h1, h2⟩
  exact h.seen.keep fun g e hlt => hb.block g (by injection e with e; injection e with e; omega)
end
set_option maxRecDepth 100000 in
set_option maxHeartbeats 4000000 in
theorem sOutside_any (W T : Int) (A : Option Addr) (c n : Nat) (bs : List Bool) (w : World) (hr : Rd w A (bs.map .bool)) (hf : FldF W T n) (hn : bs.length = n) :
    Calls Tryz.prog 100 #[.agg #[.int .i64 W, .int .i64 T, .slice A n c]] w fun e w' => ∃ b : Bool, e = .returned (.bool b) ∧ (b = true ↔ outA W T bs) ∧ Below w.heap.size w w' := by
  have n36 : n ≤ 36 := hf.bd
  obtain ⟨w1, w6, t1, t6, hlen⟩ := id hf
  have hfg : FldG W T bs.length := ⟨w1, t1, by rw [hn]; exact hlen⟩
  have hf2 := out_fld hfg
  obtain ⟨hN, hN64, hN1⟩ := outN_bd w1 w6 t1 t6
  have HST := Lib.hid (bfs_start hfg)
  have HFG := Lib.hid hfg
  have HF2 := Lib.hid hf2
  obtain ⟨N, hNe⟩ : ∃ N, outN W T = N := ⟨_, rfl⟩
  rw [hNe] at hN hN64 hN1 HST
  have HNE := Lib.hid hNe
  have HNB := Lib.hid hn
  have CAT := Lib.hid (fun (x y : Int) (z : World) (R : Rd z A (bs.map .bool)) (p : -1000 ≤ x ∧ x ≤ 1000) (q : -1000 ≤ y ∧ y ≤ 1000) => by
    have := sAt_any W T A c bs x y z R w1 w6 t1 t6 (by rw [hn]; exact hlen) p q
    rw [hn] at this
    exact this)
  have CC := Lib.hid (fun (z : World) (R : Rd z A (bs.map .bool)) => by
    have := l1count_any A c bs z R (by rw [hn]; unfold maxLen; omega)
    rw [hn] at this
    exact this)
  have hcb := cnt_le bs
  obtain ⟨i0, hi, hz0, hz1, hz2⟩ := info_parts Tryz.infoB
  have hb1 : i0.bytes * N ≤ 281474976710656 := by rw [hz2]; omega
  have HZ := Lib.hid (And.intro hz0 (And.intro hz1 hz2))
  have j1 : IntKind.i64.wrap ((W + 2) * (T + 2)) = (N : Int) := by rw [← hN]; exact IntWalk.i64_in _ (by omega)
  have X0 := C3.new w (.int .i64 W) (.int .i64 T) (.slice A n c) 25
  have B0 := bl_alloc (Below.refl w.heap.size w) (.cells #[.int .i64 W, .int .i64 T, .slice A n c] 25)
  obtain ⟨x0, x1, x2⟩ := id X0
  clear hz0 hz1 hz2 hlen hf hn hNe hN hfg hf2
  go_enter Tryz.func100, Tryz.ntmps100
  go_wp2_with (at_make; refine wpList_make_full _ rfl _ _ 23 rfl (w.heap.size + 1) 4 i0 (.bool false) 1 Tryz.underlying23 hi HZ.out.1 HZ.out.2.1 .i64 .i64 _ _ N rfl rfl rfl rfl hb1 (by unfold maxLen; omega) (by simp) ?_; intro v1 hown1 hgrow1; have hS1 : Wr v1 (w.heap.size + 1) 4 (some ⟨w.heap.size + 1, 0, none⟩) ((List.replicate N false).map .bool) := (by have h0 := Wr.of_own hown1; rw [show (Value.bool false).cells = #[.bool false] from rfl, toList_madeCells_one] at h0; simpa using h0); have hov := hS1.rd.cellEM (k := 0) (by simp; omega); obtain ⟨g9, e9, -, hgs, f9⟩ := hS1.form (by simp; omega); injection e9 with e9; injection e9 with e9; subst e9; have f0 := f9 0)
  have VB := (Below.refl (w.alloc (.cells #[.int .i64 W, .int .i64 T, .slice A n c] 25)).heap.size _).grown hgrow1 (Nat.le_refl _) (fun k hk => by cases hk)
  have X1 := X0.belo VB
  have B1 := bl_go B0 VB
  have hS2 := hS1.store 0 (.bool true)
  rw [← List.map_set] at hS2
  have F2 : BfsW w W T A n c (w.heap.size + 1) v1.heap.size [0] ((List.replicate N false).set 0 true) (.slice (some ⟨v1.heap.size, 0, none⟩) 1 1) ((v1.setCell ⟨w.heap.size + 1, 0, none⟩ (.bool true)).alloc (.cells #[.int .i64 0] 3)) := by
    have bz := bl_alloc (Below.refl (v1.setCell ⟨w.heap.size + 1, 0, none⟩ (.bool true)).heap.size (v1.setCell ⟨w.heap.size + 1, 0, none⟩ (.bool true))) (.cells #[.int .i64 0] 3)
    have hsz : (v1.setCell ⟨w.heap.size + 1, 0, none⟩ (.bool true)).heap.size = v1.heap.size := by simp [World.setCell]
    refine ⟨?_, hS2.belo bz, (X1.set (by simp) _).belo bz, bl_go (B1.setCell (by simp) _) bz, by rw [← hsz]; exact bz.size, Nat.lt_succ_self _, hgs⟩
    have := OwnI.uno (v1.setCell ⟨w.heap.size + 1, 0, none⟩ (.bool true)) 0
    rw [hsz] at this
    simpa using this
  generalize ((v1.setCell ⟨w.heap.size + 1, 0, none⟩ (.bool true)).alloc (.cells #[.int .i64 0] 3)) = w2 at *
  clear hS1 hS2 hov f0 f9 hown1 hgrow1 VB X1 B1 X0 B0 x0 x1 x2 hb1
  go_loopw [5, 6] (fun v i wr => ∃ (k : Nat) (Q : List Nat) (S : List Bool), i = .int .i64 k ∧ k ≤ Q.length ∧ Hid (BfsI W T bs Q S k 0) ∧ BfsW w W T A n c (w.heap.size + 1) v1.heap.size Q S v wr) (fun _ i _ => N + 1 - (intOf i).toNat)
  case atStart => exact ⟨0, [0], _, rfl, by simp, HST, F2⟩
  case round =>
    clear F2
    obtain ⟨k, Q, S, rfl, hk, HB, F3⟩ := hrel
    have hQN : Q.length ≤ N := by have := bfs_len HB.out; rw [HNE.out] at this; exact this
    obtain ⟨x0, x1, x2⟩ := id F3.box
    obtain ⟨A3, c3, ev, -⟩ := id F3.own
    rw [List.length_map] at ev
    subst ev
    by_cases hlt : k < Q.length
    · obtain ⟨g3, rfl⟩ := F3.own.head (by omega)
      have hq := F3.own.rd.2.cellEM (k := k) (by rw [List.length_map]; exact hlt)
      simp only [Nat.zero_add, List.getElem_map] at hq
      have HQ := Lib.hid (HB.out.con Q[k] (List.getElem_mem hlt))
      have HQE := Lib.hid (fun (h : k < Q.length) => (rfl : Q[k] = Q[k]))
      obtain ⟨u, hu⟩ : ∃ u, Q[k] = u := ⟨_, rfl⟩
      rw [hu] at hq HQ
      have huN : u < N := by have := HQ.out.1; rw [HNE.out] at this; exact this
      obtain ⟨p1, p2, p3, p4, p5⟩ := HF2.out.xy HQ.out.1
      have HU := Lib.hid hu
      have HP5 := Lib.hid p5
      have hm1 : (u : Int).tmod (W + 2) = (u : Int) % (W + 2) := Int.tmod_eq_emod_of_nonneg (by omega)
      have hm2 : (u : Int).tdiv (W + 2) = (u : Int) / (W + 2) := Int.tdiv_eq_ediv_of_nonneg (by omega)
      obtain ⟨X, hX⟩ : ∃ X, (u : Int) % (W + 2) = X := ⟨_, rfl⟩
      obtain ⟨Y, hY⟩ : ∃ Y, (u : Int) / (W + 2) = Y := ⟨_, rfl⟩
      rw [hX] at hm1 p1 p2
      rw [hY] at hm2 p3 p4
      have HX := Lib.hid hX
      have HY := Lib.hid hY
      clear hu hX hY p5
      go_wp2_with fail
      go_loopw [5, 9] (fun v i wr => ∃ (d : Nat) (Q2 : List Nat) (S2 : List Bool), i = .int .i64 ((d : Int) + 1) ∧ d ≤ 4 ∧ Hid (BfsI W T bs Q2 S2 k d ∧ k < Q2.length ∧ Q2[k]? = some u) ∧ BfsW w W T A n c (w.heap.size + 1) v1.heap.size Q2 S2 v wr) (fun _ i _ => 5 - (intOf i).toNat)
      case atStart => exact ⟨0, Q, S, by rfl, by omega, Lib.hid ⟨HB.out, hlt, by rw [List.getElem?_eq_getElem hlt, HU.out]⟩, F3⟩
      case round =>
        clear F3 x0 x1 x2 hq
        obtain ⟨d, Q2, S2, rfl, hd, HB2, F4⟩ := hrel
        obtain ⟨A4, c4, ev, -⟩ := id F4.own
        rw [List.length_map] at ev
        subst ev
        obtain ⟨x0, x1, x2⟩ := id F4.box
        have hQ2N : Q2.length ≤ N := by have := bfs_len HB2.out.1; rw [HNE.out] at this; exact this
        by_cases hd4 : d < 4
        · obtain ⟨dx, dy, hdir⟩ := isDir_of (show 1 ≤ (d : Int) + 1 ∧ (d : Int) + 1 ≤ 4 by omega)
          have HDIR := Lib.hid hdir
          obtain ⟨wq, hwq⟩ : ∃ wq : World, wq = wr := ⟨_, rfl⟩
          subst hwq
          go_upto_region 13 with fail
          go_cut [10] from 42 to 103 (fun s10 wx => s10 = .int .i64 (X + dx) ∧ BfsW w W T A n c (w.heap.size + 1) v1.heap.size Q2 S2 (.slice A4 Q2.length c4) wx)
          case first =>
              have hdl := HDIR.out
              rcases (show d = 0 ∨ d = 1 ∨ d = 2 ∨ d = 3 by omega) with rfl | rfl | rfl | rfl
              · obtain ⟨rfl, rfl⟩ : dx = 1 ∧ dy = 0 := by unfold IsDir at hdl; omega
                clear hdl hdir
                go_wp2_with fail
                go_meet
                exact ⟨by go_num, F4.belo (bl_alloc (Below.refl _ _) _)⟩
              · obtain ⟨rfl, rfl⟩ : dx = 0 ∧ dy = 1 := by unfold IsDir at hdl; omega
                clear hdl hdir
                go_wp2_with fail
                go_meet
                exact ⟨by go_num, F4.belo (bl_alloc (Below.refl _ _) _)⟩
              · obtain ⟨rfl, rfl⟩ : dx = -1 ∧ dy = 0 := by unfold IsDir at hdl; omega
                clear hdl hdir
                go_wp2_with fail
                go_meet
                exact ⟨by go_num, F4.belo (bl_alloc (Below.refl _ _) _)⟩
              · obtain ⟨rfl, rfl⟩ : dx = 0 ∧ dy = -1 := by unfold IsDir at hdl; omega
                clear hdl hdir
                go_wp2_with fail
                go_meet
                exact ⟨by go_num, F4.belo (bl_alloc (Below.refl _ _) _)⟩
          case rest =>
            obtain ⟨rfl, F5⟩ := hcut
            clear F4 x0 x1 x2
            go_upto_region 14 with fail
            go_cut [11] from 42 to 103 (fun s11 wx => s11 = .int .i64 (Y + dy) ∧ BfsW w W T A n c (w.heap.size + 1) v1.heap.size Q2 S2 (.slice A4 Q2.length c4) wx)
            case first =>
              have hdl := HDIR.out
              rcases (show d = 0 ∨ d = 1 ∨ d = 2 ∨ d = 3 by omega) with rfl | rfl | rfl | rfl
              · obtain ⟨rfl, rfl⟩ : dx = 1 ∧ dy = 0 := by unfold IsDir at hdl; omega
                clear hdl hdir
                go_wp2_with fail
                go_meet
                exact ⟨by go_num, F5.belo (bl_alloc (Below.refl _ _) _)⟩
              · obtain ⟨rfl, rfl⟩ : dx = 0 ∧ dy = 1 := by unfold IsDir at hdl; omega
                clear hdl hdir
                go_wp2_with fail
                go_meet
                exact ⟨by go_num, F5.belo (bl_alloc (Below.refl _ _) _)⟩
              · obtain ⟨rfl, rfl⟩ : dx = -1 ∧ dy = 0 := by unfold IsDir at hdl; omega
                clear hdl hdir
                go_wp2_with fail
                go_meet
                exact ⟨by go_num, F5.belo (bl_alloc (Below.refl _ _) _)⟩
              · obtain ⟨rfl, rfl⟩ : dx = 0 ∧ dy = -1 := by unfold IsDir at hdl; omega
                clear hdl hdir
                go_wp2_with fail
                go_meet
                exact ⟨by go_num, F5.belo (bl_alloc (Below.refl _ _) _)⟩
            case rest =>
              obtain ⟨rfl, F6⟩ := hcut
              obtain ⟨wd, hwd⟩ : ∃ wd : World, wd = wc := ⟨_, rfl⟩
              subst hwd
              clear F5
              obtain ⟨x0, x1, x2⟩ := id F6.box
              have hxb : -1 ≤ X + dx ∧ X + dx ≤ W + 2 := by unfold IsDir at hdir; omega
              have hyb : -1 ≤ Y + dy ∧ Y + dy ≤ T + 2 := by unfold IsDir at hdir; omega
              have HSTEP := HF2.out.step HQ.out.1 hdir
              rw [HX.out, HY.out] at HSTEP
              generalize X + dx = nx at *
              generalize Y + dy = ny at *
              obtain ⟨hxa, hxc⟩ := hxb
              obtain ⟨hya, hyc⟩ := hyb
              have i1 : IntKind.i64.wrap (W + 2 - 1) = W + 2 - 1 := IntWalk.i64_in _ (by omega)
              have i2 : IntKind.i64.wrap (T + 1) = T + 1 := IntWalk.i64_in _ (by omega)
              have HQ2 := Lib.hid (fun (a : Nat) (hi : k < Q2.length) (e : stepZ (W + 2) (T + 2) Q2[k] ((d : Int) + 1) = a) => (show stepZ (W + 2) (T + 2) u ((d : Int) + 1) = a by
                have := HB2.out.2.2
                rw [List.getElem?_eq_getElem hi] at this
                injection this with this
                rw [← this]; exact e))
              rcases HSTEP with ⟨s, e, hs, es1, es2, hin1, hin2, hin3, hin4⟩ | ⟨e, hnin⟩
              · have hsN : s < N := by rw [← HNE.out]; exact hs
                obtain ⟨q1, q2, q3, q4, q5⟩ := HF2.out.xy hs
                rw [es1, es2] at q5
                have hS2 : S2.length = N := by rw [HB2.out.1.len, HNE.out]
                have hm9 := Int.mul_le_mul (show ny ≤ 7 by omega) (show W + 2 ≤ 8 by omega) (by omega) (by omega)
                have hm8 : 0 ≤ ny * (W + 2) := Int.mul_nonneg hin3 (by omega)
                have i3 : IntKind.i64.wrap (ny * (W + 2)) = ny * (W + 2) := IntWalk.i64_in _ (by omega)
                have i4 : IntKind.i64.wrap (ny * (W + 2) + nx) = (s : Int) := by rw [q5]; exact IntWalk.i64_in _ (by omega)
                have hsI : (s : Int) < (N : Int) := by omega
                have hc := F6.seen.rd.cellEM (k := s) (by rw [hS2]; exact hsN)
                simp only [Nat.zero_add] at hc
                have HG := Lib.hid (show S2.getD s false = S2[s]'(by rw [hS2]; exact hsN) by rw [List.getD_eq_getElem?_getD, List.getElem?_eq_getElem (by rw [hS2]; exact hsN)]; rfl)
                generalize S2[s]'(by rw [hS2]; exact hsN) = bv at hc HG
                have HE := Lib.hid e
                have HO := Lib.hid (show outK W T bs s ↔ atQ W T bs (nx - 1) (ny - 1) = false by
                  rw [outK_iff HFG.out, es1, es2]
                  exact ⟨fun h => h.2, fun h => ⟨hs, h⟩⟩)
                have CA2 := Lib.hid (fun (z : World) (R : Rd z A (bs.map .bool)) => CAT.out (nx - 1) (ny - 1) z R (by omega) (by omega))
                have HS := Lib.hid hs
                clear e q1 q2 q3 q4 q5 es1 es2 hs hm9
                cases bv with
                | true =>
                  have HSK := Lib.hid (bfs_skip HB2.out.1 (fun hi a ea _ _ => by
                    have := HQ2.out a hi ea
                    rw [HE.out] at this
                    obtain rfl : s = a := by omega
                    exact HG.out))
                  go_wp2_with (first | (go_at_call 71; refine (l1in_t _ _ _ _ (by omega) (by omega)).mono ?_; rintro e w' ⟨rfl, rfl⟩))
                  go_roundw
                  case rel => exact ⟨d + 1, Q2, S2, by go_num, by omega, Lib.hid ⟨HSK.out, HB2.out.2⟩, F6⟩
                  case measure => simp [intOf]; omega
                | false =>
                  cases hat : atQ W T bs (nx - 1) (ny - 1) with
                  | true =>
                    have HSK := Lib.hid (bfs_skip HB2.out.1 (fun hi a ea _ ho => by
                      have := HQ2.out a hi ea
                      rw [HE.out] at this
                      obtain rfl : s = a := by omega
                      have := HO.out.1 ho
                      rw [hat] at this; cases this))
                    rw [hat] at CA2
                    clear hat
                    go_wp2_with (first | (go_at_call 71; refine (l1in_t _ _ _ _ (by omega) (by omega)).mono ?_; rintro e w' ⟨rfl, rfl⟩) | (go_at_call 124; refine (CA2.out _ (hr.below F6.bel (Nat.le_refl _))).mono ?_; rintro e w7 ⟨rfl, b7⟩))
                    go_roundw
                    case rel => exact ⟨d + 1, Q2, S2, by go_num, by omega, Lib.hid ⟨HSK.out, HB2.out.2⟩, F6.belo b7⟩
                    case measure => simp [intOf]; omega
                  | false =>
                    have HPU := Lib.hid (fun (hi : k < Q2.length) => bfs_push HB2.out.1 hd4 hi (a := s) (by
                      have := HB2.out.2.2
                      rw [List.getElem?_eq_getElem hi] at this
                      injection this with this
                      rw [this]; exact HE.out) HS.out (HO.out.2 hat) HG.out)
                    rw [hat] at CA2
                    clear hat
                    have hl9 : (Q2.map fun k : Nat => (k : Int)).length ≤ 1000000000000 := by rw [List.length_map]; omega
                    go_upto_region 17 with (first | (go_at_call 71; refine (l1in_t _ _ _ _ (by omega) (by omega)).mono ?_; rintro e w' ⟨rfl, rfl⟩) | (go_at_call 124; refine (CA2.out _ (hr.below F6.bel (Nat.le_refl _))).mono ?_; rintro e w7 ⟨rfl, b7⟩; have F7 := F6.belo b7; obtain ⟨y0, y1, y2⟩ := id F7.box; have F8 := F7.set s true; have hc7 := (b7.cell (p := ⟨w.heap.size + 1, s, none⟩) (World.block_lt_of_cell? _ _ hc)).trans hc; obtain ⟨g9, e9, -, -, f9⟩ := F7.seen.form (by intro e; have := congrArg List.length e; simp at this; rw [this] at hS2; simp at hS2; omega); injection e9 with e9; injection e9 with e9; subst e9; have f0 := f9 s))
                    clear hc7 f9 f0 F7 y0 y1 y2 b7
                    generalize w7.setCell ⟨w.heap.size + 1, s, none⟩ (.bool true) = w8 at *
                    go_wp2_with (at_builtin; refine app_int _ rfl _ _ rfl v1.heap.size _ _ rfl F8.own _ rfl hl9 F8.big ?_; intro A9 c9 w9 O9 g9; have F9 := F8.push O9 g9; rw [List.length_map] at O9 F9 ⊢)
                    go_roundw
                    case rel => exact ⟨d + 1, Q2 ++ [s], S2.set s true, by go_num, by omega, Lib.hid ⟨HPU.out HB2.out.2.1, by have := HB2.out.2.1; simp; omega, by rw [List.getElem?_append_left HB2.out.2.1]; exact HB2.out.2.2⟩, F9⟩
                    case measure => simp [intOf]; omega
              · have HSK := Lib.hid (bfs_skip HB2.out.1 (fun hi a ea _ _ => by
                  have := HQ2.out a hi ea
                  omega))
                clear e
                by_cases hnx : 0 ≤ nx ∧ nx ≤ W + 2 - 1
                · have hny : ny < 0 ∨ T + 1 < ny := by omega
                  obtain ⟨hn1, hn2⟩ := hnx
                  clear hnin
                  go_wp2_with (first | (go_at_call 71; refine (l1in_t _ _ _ _ (by omega) (by omega)).mono ?_; rintro e w' ⟨rfl, rfl⟩) | (go_at_call 71; refine (l1in_f _ _ _ _ (by omega)).mono ?_; rintro e w' ⟨rfl, rfl⟩))
                  go_roundw
                  case rel => exact ⟨d + 1, Q2, S2, by go_num, by omega, Lib.hid ⟨HSK.out, HB2.out.2⟩, F6⟩
                  case measure => simp [intOf]; omega
                · have hny : nx < 0 ∨ W + 2 - 1 < nx := by omega
                  clear hnin hnx
                  go_wp2_with (first | (go_at_call 71; refine (l1in_f _ _ _ _ (by omega)).mono ?_; rintro e w' ⟨rfl, rfl⟩))
                  go_roundw
                  case rel => exact ⟨d + 1, Q2, S2, by go_num, by omega, Lib.hid ⟨HSK.out, HB2.out.2⟩, F6⟩
                  case measure => simp [intOf]; omega
        · obtain rfl : d = 4 := by omega
          have HNX := Lib.hid (bfs_next HFG.out HB2.out.1)
          have hq2 := HB2.out.2.1
          go_wp2_with fail
          go_roundw
          case rel => exact ⟨k + 1, Q2, S2, by go_num, by omega, HNX, F4⟩
          case measure => simp [intOf]; omega
    · obtain rfl : k = Q.length := by omega
      have HBM := Lib.hid (bfs_many HFG.out HB.out)
      rw [HNE.out] at HBM
      have R3 := hr.below F3.bel (Nat.le_refl _)
      have hcn : cnt bs ≤ 36 := by have := HNB.out; omega
      have i1 : IntKind.i64.wrap ((N : Int) - cnt bs) = (N : Int) - cnt bs := IntWalk.i64_in _ (by omega)
      generalize cnt bs = q at CC HBM hcb hcn i1
      go_wp2_with (first | (go_at_call 132; refine (CC.out _ R3).mono ?_; rintro e w' ⟨rfl, rfl⟩))
      go_ret
      exact ⟨_, rfl, by rw [beq_iff_eq]; exact HBM.out, F3.bel⟩
set_option maxHeartbeats 1000000 in
theorem sSimple_any (W T : Int) (A : Option Addr) (c n : Nat) (bs : List Bool) (w : World) (hr : Rd w A (bs.map .bool)) (hn : bs.length = n) (hm : n ≤ maxLen) :
    Calls Tryz.prog 61 #[.agg #[.int .i64 W, .int .i64 T, .slice A n c]] w fun e w' => e = .returned (.bool (simpB W T bs)) ∧ Below w.heap.size w w' := by
  have X0 := C3.new w (.int .i64 W) (.int .i64 T) (.slice A n c) 25
  have B0 := bl_alloc (Below.refl w.heap.size w) (.cells #[.int .i64 W, .int .i64 T, .slice A n c] 25)
  have CV := Lib.hid (sPartsMany_any W T A c n bs _ (hr.belo B0) hn hm)
  have CP := Lib.hid (fun (h : validB W T bs = true) (z : World) (R : Rd z A (bs.map .bool)) => by
    obtain ⟨⟨q1, q6⟩, ⟨t1, t6⟩, hlen, -⟩ := validB_iff.1 h
    exact sOutside_any W T A c n bs z R ⟨q1, q6, t1, t6, by rw [← hn]; exact hlen⟩ hn)
  have HS := Lib.hid (fun (b : Bool) (h : b = true ↔ simpB W T bs = true) => show Ending.returned (.bool b) = Ending.returned (.bool (simpB W T bs)) from by
    rw [Bool.eq_iff_iff.2 h])
  have HI := Lib.hid (simp_iff (W := W) (T := T) (bs := bs))
  obtain ⟨x0, x1, x2⟩ := id X0
  generalize simpB W T bs = sv at HS HI ⊢
  by_cases h1 : validB W T bs = true ∧ prtN W T bs = 1
  · obtain ⟨hv, hp⟩ := h1
    rw [if_pos hv, hp] at CV
    have CP2 := Lib.hid (CP.out hv)
    have HV := Lib.hid (And.intro hv hp)
    clear hv hp CP hm hn
    go_enter Tryz.func61, Tryz.ntmps61
    go_wp2_with fail
    refine CV.out.mono ?_
    rintro e w1 ⟨rfl, b1⟩
    have X1 := X0.belo b1
    have R1 := (hr.belo B0).belo b1
    have B1 := bl_go B0 b1
    obtain ⟨y0, y1, y2⟩ := id X1
    clear X0 B0 b1 x0 x1 x2 CV X1
    go_wp2_with fail
    refine (CP2.out _ R1).mono ?_
    rintro e w2 ⟨b, rfl, hb, b2⟩
    have HB := Lib.hid hb
    clear hb
    go_wp2_with fail
    go_ret
    exact ⟨HS.out _ (by rw [HB.out, HI.out]; exact ⟨fun h => ⟨HV.out.1, HV.out.2, h⟩, fun h => h.2.2⟩), bl_go B1 b2⟩
  · obtain ⟨p, hp⟩ : ∃ p : Int, (if validB W T bs = true then ((prtN W T bs : Nat) : Int) else -1) = p := ⟨_, rfl⟩
    have hp1 : (p == 1) = false := by
      rw [beq_eq_false_iff_ne]
      rintro rfl
      split at hp
      · rename_i hv; exact h1 ⟨hv, by omega⟩
      · omega
    rw [hp] at CV
    have H1 := Lib.hid h1
    clear hp h1 CP
    go_enter Tryz.func61, Tryz.ntmps61
    go_wp2_with fail
    refine CV.out.mono ?_
    rintro e w1 ⟨rfl, b1⟩
    go_wp2_with fail
    go_ret
    exact ⟨HS.out _ (by rw [HI.out]; constructor; · intro h; cases h
                        · intro h; exact absurd ⟨h.1, h.2.1⟩ H1.out), bl_go B0 b1⟩
end Go.Proofs.YtafmpgikdhlknaaGreat

/- Heights and pushes as the reference tells them, plainly: sides of lists of heights, corners that sides reach, flips told by four cells. -/
namespace Go.Proofs.YtafmpgikdhlknaaGreat
open Go.RowKit

theorem sdX_inS {W T : Int} {bs : List Bool} {L : List Int} (h : tilingB W T bs L = true) {v : Nat} {b : Bool} (hx : sdX W T L v b = true) : sdI W T bs v b = true := by
  obtain ⟨hval, hl, ht⟩ := tiling_til h
  unfold sdX at hx
  rw [decide_eq_true_eq] at hx
  unfold sdI
  cases b with
  | false =>
    simp only [Bool.false_eq_true, if_false] at hx
    have h2 := (til_4 ht).2 hx
    rw [til_mem ht (by omega)]
    unfold slx srx sry at *
    simp only [Bool.false_eq_true, if_false] at *
    rw [til_mem ht (by omega)]; rfl
  | true =>
    simp only [if_true] at hx
    have h2 := (til_1 ht).1 hx
    rw [til_mem ht (by omega)]
    unfold slx srx sry at *
    simp only [if_true] at *
    rw [show cX W v - 1 + 1 = cX W v by omega] at h2
    rw [til_mem ht (by omega)]; rfl
/-- along a side heights differ as they may -/
theorem good_side {W T : Int} {bs : List Bool} (hs : simpB W T bs = true) {a : List Int} (h : GoodH W T bs a) {v : Nat} (hv : v < ncN W T) {b : Bool} (hu : sdU W T bs v b = true) {u : Nat} (e : sdT W v b = u) :
    a.getD u 0 - a.getD v 0 = rho (slx W v b) (cY W v) ∨ (sdI W T bs v b = true ∧ a.getD u 0 - a.getD v 0 = -3 * rho (slx W v b) (cY W v)) := by
  have ht := tilH_til hs h
  have := sd_rise hs ht hv hu e
  rw [hgt_tilH hs h] at this
  unfold sdZ at this
  by_cases hx : sdX W T (tilH W T bs a) v b = true
  · rw [if_pos hx] at this
    exact .inr ⟨sdX_inS ht hx, by omega⟩
  · rw [if_neg hx] at this
    exact .inl (by omega)
/-- every corner of a cell is an end of a side -/
theorem cor_side {W T : Int} {bs : List Bool} (hf : FldG W T bs.length) {v : Nat} (hv : v < ncN W T) (hc : corK W T bs v) :
    (∃ b, sdU W T bs v b = true) ∨ ∃ u b, u < ncN W T ∧ sdU W T bs u b = true ∧ sdT W u b = v := by
  unfold corK at hc
  change Cor _ (cX W v) (cY W v) at hc
  obtain ⟨x0, x1, y0, y1, e⟩ := c_xy hf hv
  rcases hc with h | h | h | h
  · exact .inl ⟨false, by unfold sdU slx; simp only [Bool.false_eq_true, if_false]; rw [h]; rfl⟩
  · exact .inl ⟨true, by unfold sdU slx; simp only [if_true]; rw [h]; rfl⟩
  · exact .inl ⟨false, by unfold sdU srx sry; simp only [Bool.false_eq_true, if_false]; rw [h]; simp⟩
  · have hin := at_in h
    unfold inF at hin
    obtain ⟨u, hu, u2, u3, u4⟩ := c_at hf (x := cX W v - 1) (y := cY W v) (by omega) (by omega) y0 y1
    refine .inr ⟨u, false, hu, ?_, ?_⟩
    · unfold sdU srx sry; simp only [Bool.false_eq_true, if_false]; rw [u2, u3, h]; simp
    · unfold sdT; simp only [Bool.false_eq_true, if_false]; omega
/-! ### Flips -/
def sqB (W T : Int) (bs : List Bool) (v : Nat) : Bool := atQ W T bs (vX W v - 1) (vY W v - 1) && (atQ W T bs (vX W v) (vY W v - 1) && (atQ W T bs (vX W v - 1) (vY W v) && atQ W T bs (vX W v) (vY W v)))
theorem sq_inn {W T : Int} {bs : List Bool} {v : Nat} (h : sqB W T bs v = true) : innK W T v := by
  unfold sqB at h
  simp only [Bool.and_eq_true] at h
  have h1 := at_in h.1
  have h2 := at_in h.2.2.2
  unfold inF at h1 h2
  unfold innK
  omega
theorem may_sq {W T : Int} {bs : List Bool} {L : List Int} (h : tilingB W T bs L = true) {v : Nat} (hb : (flatB W T L v || uprB W T L v) = true) : sqB W T bs v = true := by
  obtain ⟨hval, hl, ht⟩ := tiling_til h
  have hf := valid_fld hval
  have key : Sq (atQ W T bs) (vX W v) (vY W v) := by
    rw [Bool.or_eq_true] at hb
    rcases hb with h | h
    · exact flat_sq ht ((flatB_iff hf).1 h).2
    · exact upri_sq ht ((uprB_iff hf).1 h).2
  obtain ⟨a, b, c, d⟩ := key
  unfold sqB
  rw [a, b, c, d]; rfl
theorem may_no {W T : Int} {bs : List Bool} {L : List Int} (h : tilingB W T bs L = true) {v : Nat} (hq : sqB W T bs v = false) : flatB W T L v = false ∧ uprB W T L v = false := by
  have : (flatB W T L v || uprB W T L v) = false := by
    rw [Bool.eq_false_iff]
    intro hb
    rw [may_sq h hb] at hq; cases hq
  rwa [Bool.or_eq_false_iff] at this
end Go.Proofs.YtafmpgikdhlknaaGreat

/- Contract: the reference's heights of a tiling. -/
namespace Go.Proofs.YtafmpgikdhlknaaGreat
open Go.RowKit

/-- a domino lies across a side, as the reference asks -/
theorem sdX_ask {W T : Int} {bs : List Bool} {L : List Int} (h : tilingB W T bs L = true) {v : Nat} {b : Bool} (hi : sdI W T bs v b = true) : ∃ a k : Nat, edA W T bs v b = a ∧ edB W T bs v b = k ∧ a < bs.length ∧ k < bs.length ∧ (stepZ W T a (L.getD a 0) == (k : Int)) = sdX W T L v b := by
  obtain ⟨hval, hl, -⟩ := tiling_til h
  have hf := valid_fld hval
  obtain ⟨a, k, ea, ek, ha, hk, -, ⟨a1, a2⟩, -, -, -, hst⟩ := sd_cells hf hi
  obtain ⟨hL4, hX⟩ := sdX_at h hi ha a1 a2 hst
  unfold sdI at hi
  rw [Bool.and_eq_true] at hi
  exact ⟨a, k, by unfold edA; rw [if_pos hi.1, ea], by unfold edB; rw [if_pos hi.2, ek], ha, hk, hX⟩
theorem ed_out {W T : Int} {bs : List Bool} {v : Nat} {b : Bool} (hi : sdI W T bs v b = false) : edA W T bs v b = -1 ∨ edB W T bs v b = -1 := by
  unfold sdI at hi
  unfold edA edB
  cases h1 : atQ W T bs (slx W v b) (cY W v) with
  | false => exact .inl (by rw [if_neg (by exact Bool.false_ne_true)])
  | true =>
    rw [h1, Bool.true_and] at hi
    exact .inr (by rw [hi, if_neg (by exact Bool.false_ne_true)])
def bN (b : Bool) : Nat := if b = true then 1 else 0
/-- the search for heights under way: behind the sides ahead of (k, y) -/
def HsP (W T : Int) (bs : List Bool) (L M0 : List Int) (k y : Nat) (f : Int) (t : Bool) (M : List Int) : Prop :=
  ((f = -1 ∧ M = List.replicate (ncN W T) 99 ∧ k ≤ v0K W bs ∧ (k = v0K W bs → y = 0)) ∨ (f = (v0K W bs : Nat) ∧ RelI W T bs L M)) ∧
  (t = false → ∀ v b, (v < k ∨ (v = k ∧ bN b < y)) → sdU W T bs v b = true → evenS W M v b) ∧ un99 M + (if t = true then 1 else 0) ≤ un99 M0
def HsO (W T : Int) (bs : List Bool) (L : List Int) (f : Int) (t : Bool) (M : List Int) : Prop :=
  (f = -1 ∧ t = true ∧ M = List.replicate (ncN W T) 99) ∨ (f = (v0K W bs : Nat) ∧ RelI W T bs L M ∧ (t = false → ∀ v b, v < ncN W T → sdU W T bs v b = true → evenS W M v b))
theorem hs_start {W T : Int} {bs : List Bool} {L M : List Int} {f : Int} {t : Bool} (h : HsO W T bs L f t M) : HsP W T bs L M 0 0 f false M := by
  refine ⟨?_, fun _ v b hv => by omega, by simp⟩
  rcases h with ⟨h1, -, h2⟩ | ⟨h1, h2, -⟩
  · exact .inl ⟨h1, h2, Nat.zero_le _, fun _ => rfl⟩
  · exact .inr ⟨h1, h2⟩
theorem bN_inj {b c : Bool} (h : bN b = bN c) : b = c := by cases b <;> cases c <;> simp [bN] at h ⊢
theorem hs_skip {W T : Int} {bs : List Bool} (hs : simpB W T bs = true) {L M0 M : List Int} {k : Nat} {b : Bool} {f : Int} {t : Bool} (h : HsP W T bs L M0 k (bN b) f t M) (hu : sdU W T bs k b = false) : HsP W T bs L M0 k (bN b + 1) f t M := by
  obtain ⟨h1, h2, h3⟩ := h
  refine ⟨?_, fun ht v c hv hc => ?_, h3⟩
  · rcases h1 with ⟨a1, a2, a3, a4⟩ | h1
    · refine .inl ⟨a1, a2, a3, fun e => ?_⟩
      exfalso
      have h0 := a4 e
      have hb : b = false := by cases b with
        | false => rfl
        | true => simp [bN] at h0
      rw [e, hb, v0_use hs] at hu
      cases hu
    · exact .inr h1
  · refine h2 ht v c ?_ hc
    rcases hv with hv | ⟨hv, hb⟩
    · exact .inl hv
    · rcases Nat.lt_or_ge (bN c) (bN b) with h4 | h4
      · exact .inr ⟨hv, h4⟩
      · exfalso
        have := bN_inj (show bN c = bN b by omega)
        rw [hv, this, hu] at hc; cases hc
theorem hs_first {W T : Int} {bs : List Bool} (hs : simpB W T bs = true) {L M0 M : List Int} (ht : tilingB W T bs L = true) {k : Nat} {b : Bool} {t : Bool} (h : HsP W T bs L M0 k (bN b) (-1) t M) (hk : k < ncN W T) (hu : sdU W T bs k b = true) :
    k = v0K W bs ∧ HsP W T bs L M0 k (bN b) (v0K W bs : Nat) t (M.set k 0) := by
  obtain ⟨h1, h2, h3⟩ := h
  rcases h1 with ⟨-, a2, a3, a4⟩ | ⟨a1, -⟩
  · have hf := valid_fld (simp_iff.1 hs).1
    obtain ⟨u, eu, hu2, -, -, c1, c2⟩ := sd_to hf hk hu
    have hk0 := v0_le hs hk c1
    have e : k = v0K W bs := by omega
    refine ⟨e, .inr ⟨rfl, ?_⟩, fun _ v c hv hc => ?_, ?_⟩
    · rw [a2, e]; exact rel_start hs ht
    · exfalso
      rcases hv with hv | ⟨hv, hb⟩
      · obtain ⟨u, -, -, -, -, c1, -⟩ := sd_to hf (show v < ncN W T by omega) hc
        have := v0_le hs (show v < ncN W T by omega) c1
        omega
      · have := a4 e; omega
    · have hM : M.length = ncN W T := by rw [a2]; simp
      have := un99_set M k 0 (by omega) (by rw [a2, List.getD_eq_getElem?_getD, List.getElem?_replicate, if_pos hk]; rfl) (by omega)
      omega
  · omega
theorem hs_even {W T : Int} {bs : List Bool} {L M0 M : List Int} {k : Nat} {b : Bool} {f : Int} {t : Bool} (h : HsP W T bs L M0 k (bN b) f t M) (hf : f ≠ -1) (he : evenS W M k b) : HsP W T bs L M0 k (bN b + 1) f t M := by
  obtain ⟨h1, h2, h3⟩ := h
  refine ⟨.inr (h1.resolve_left (fun x => hf x.1)), fun ht v c hv hc => ?_, h3⟩
  rcases hv with hv | ⟨hv, hb⟩
  · exact h2 ht v c (.inl hv) hc
  · rcases Nat.lt_or_ge (bN c) (bN b) with h4 | h4
    · exact h2 ht v c (.inr ⟨hv, h4⟩) hc
    · have := bN_inj (show bN c = bN b by omega)
      rw [hv, this]; exact he
theorem hs_grow {W T : Int} {bs : List Bool} {L M0 M M' : List Int} {k y y' : Nat} {f : Int} {t : Bool} (h : HsP W T bs L M0 k y f t M) (hf : f ≠ -1) (hr : RelI W T bs L M') (hu : un99 M' + 1 = un99 M) : HsP W T bs L M0 k y' f true M' := by
  obtain ⟨h1, -, h3⟩ := h
  obtain ⟨h1, -⟩ := h1.resolve_left (fun x => hf x.1)
  exact ⟨.inr ⟨h1, hr⟩, (fun h => absurd h (by simp)), by simp only [if_true]; omega⟩
theorem hs_row {W T : Int} {bs : List Bool} {L M0 M : List Int} {k : Nat} {f : Int} {t : Bool} (h : HsP W T bs L M0 k 2 f t M) : HsP W T bs L M0 (k + 1) 0 f t M := by
  obtain ⟨h1, h2, h3⟩ := h
  refine ⟨?_, fun ht v c hv hc => ?_, h3⟩
  · rcases h1 with ⟨a1, a2, a3, a4⟩ | h1
    · refine .inl ⟨a1, a2, ?_, fun _ => rfl⟩
      rcases Nat.lt_or_ge k (v0K W bs) with h | h
      · exact h
      · have := a4 (by omega); omega
    · exact .inr h1
  · refine h2 ht v c ?_ hc
    rcases hv with hv | ⟨-, hb⟩
    · rcases Nat.lt_or_ge v k with h | h
      · exact .inl h
      · exact .inr ⟨by omega, by cases c <;> simp [bN]⟩
    · omega
theorem hs_end {W T : Int} {bs : List Bool} (hs : simpB W T bs = true) {L M0 M : List Int} {f : Int} {t : Bool} (h : HsP W T bs L M0 (ncN W T) 0 f t M) : HsO W T bs L f t M ∧ un99 M + (if t = true then 1 else 0) ≤ un99 M0 ∧ f ≠ -1 := by
  obtain ⟨h1, h2, h3⟩ := h
  rcases h1 with ⟨-, -, a3, -⟩ | ⟨a1, a2⟩
  · have := (v0_at hs).1; omega
  · exact ⟨.inr ⟨a1, a2, fun ht v b hv hc => h2 ht v b (.inl hv) hc⟩, h3, by omega⟩
/-- heights under way, in memory -/
structure HsW (w : World) (W T : Int) (A : Option Addr) (n c g N cap base : Nat) (M : List Int) (wr : World) : Prop where
  own : OwnI wr base (.slice (some ⟨g, 0, none⟩) N cap) M
  box : C3 wr w.heap.size (.int .i64 W) (.int .i64 T) (.slice A n c)
  bel : Below w.heap.size w wr
  lo : w.heap.size < base
section
variable {w wr w' : World} {W T : Int} {A : Option Addr} {n c g N cap base : Nat} {M : List Int}
theorem HsW.belo (h : HsW w W T A n c g N cap base M wr) (hb : Below wr.heap.size wr w') : HsW w W T A n c g N cap base M w' :=
  ⟨h.own.belo hb, h.box.belo hb, bl_go h.bel hb, h.lo⟩
theorem HsW.set (h : HsW w W T A n c g N cap base M wr) (k : Nat) (z : Int) : HsW w W T A n c g N cap base (M.set k z) (wr.setCell ⟨g, k, none⟩ (.int .i64 z)) := by
  obtain ⟨h1, -, h2, -⟩ := h.own.stored k z
  have h3 := h.lo
  exact ⟨h1, h.box.set (by simp; omega) _, h.bel.setCell (by simp; omega) _, h3⟩
theorem HsW.cell (h : HsW w W T A n c g N cap base M wr) {k : Nat} (hk : k < N) : wr.cell? ⟨g, k, none⟩ = some (.int .i64 (M.getD k 0)) ∧ wr.frozen? ⟨g, k, none⟩ = false := by
  obtain ⟨hN, hr⟩ := h.own.rd
  have hm : k < M.length := by omega
  have hc := hr.cellEM (k := k) hm
  rw [Nat.zero_add] at hc
  exact ⟨by rw [hc, getD_at _ _ hm], (h.own.stored k 0).2.1⟩
theorem HsW.len (h : HsW w W T A n c g N cap base M wr) : M.length = N := h.own.rd.1.symm
end
open Classical in
theorem un99W_own {w : World} {base g N cap : Nat} {M : List Int} (h : OwnI w base (.slice (some ⟨g, 0, none⟩) N cap) M) : un99W g N w = un99 M := by
  obtain ⟨hN, hr⟩ := h.rd
  subst hN
  rw [un99_range]
  unfold un99W
  refine List.countP_congr fun v hv => ?_
  rw [List.mem_range] at hv
  have hc := hr.cellEM (k := v) hv
  rw [Nat.zero_add] at hc
  rw [hc, decide_eq_true_eq, beq_iff_eq, List.getD_eq_getElem?_getD, List.getElem?_eq_getElem hv]
  simp
/-- an edge as l4Edge returns it -/
theorem edge_t (W T : Int) (A : Option Addr) (c n : Nat) (bs : List Bool) (v : Nat) (b : Bool) (w : World) (hr : Rd w A (bs.map .bool)) (hf : FldF W T n) (hn : bs.length = n) (hv : v < ncN W T) :
    Calls Tryz.prog 125 #[.agg #[.int .i64 W, .int .i64 T, .slice A n c], .int .i64 (v : Int), .bool b] w fun e w' => e = .returned (.tuple #[.int .i64 (sdT W v b), .bool (sdU W T bs v b), .bool (sdI W T bs v b), .int .i64 (edA W T bs v b), .int .i64 (edB W T bs v b), .bool (edD W v b)]) ∧ Below w.heap.size w w' :=
  edge_any W T A c n bs v b w hr hf hn hv
set_option maxRecDepth 100000 in
set_option maxHeartbeats 8000000 in
theorem heightsS_any (W T : Int) (A D : Option Addr) (c d n : Nat) (bs : List Bool) (L : List Int) (w : World) (hr : Rd w A (bs.map .bool)) (hd : Rd w D (L.map (.int .i64))) (hs : simpB W T bs = true) (h : tilingB W T bs L = true) (hn : bs.length = n) :
    Calls Tryz.prog 89 #[.agg #[.int .i64 W, .int .i64 T, .slice A n c], .slice D n d] w (NewRd (hgtV W T bs L) w) := by
  obtain ⟨hval, hl, -⟩ := tiling_til h
  obtain ⟨⟨w1, w6⟩, ⟨t1, t6⟩, hlen, -⟩ := validB_iff.1 hval
  have hf : FldF W T n := ⟨w1, w6, t1, t6, by rw [← hn]; exact hlen⟩
  have n36 : n ≤ 36 := hf.bd
  obtain ⟨-, hN1, hN49⟩ := nc_bd hf
  have hLn : L.length = n := by omega
  have HSB := Lib.hid hs
  have HTB := Lib.hid h
  have HV0 := Lib.hid (v0_at hs).1
  have CS := Lib.hid (fun (z : World) (R : Rd z A (bs.map .bool)) => sSimple_any W T A c n bs z R hn (by unfold maxLen; omega))
  have CT := Lib.hid (fun (z : World) (R : Rd z A (bs.map .bool)) (R2 : Rd z D (L.map (.int .i64))) => sTilingOk_any W T A D c d n n bs L z R R2 hn (by unfold maxLen; omega) hLn (by unfold maxLen; omega))
  rw [hs] at CS
  rw [h] at CT
  have CC := Lib.hid (fun (z : World) (R : Rd z A (bs.map .bool)) => sCorners_any W T A c bs z R (by rw [hn]; unfold maxLen; omega))
  rw [hval, if_pos rfl, hn] at CC
  have CE := Lib.hid (fun (v : Nat) (b : Bool) (hv : v < ncN W T) (z : World) (R : Rd z A (bs.map .bool)) => edge_t W T A c n bs v b z R hf hn hv)
  have CST := Lib.hid (fun (a : Nat) (ha : a < n) (q : Int) (z : World) => l2step_any W T (.slice A n c) a q z w1 w6 t1 t6 (by omega) (by have := hf.len; omega))
  have HFG := Lib.hid (valid_fld hval)
  obtain ⟨N, hN⟩ : ∃ N, ncN W T = N := ⟨_, rfl⟩
  rw [hN] at hN1 hN49 HV0 CC CE
  have HNE := Lib.hid hN
  have HLn := Lib.hid hLn
  have HBn := Lib.hid hn
  have X0 := C3.new w (.int .i64 W) (.int .i64 T) (.slice A n c) 25
  have B0 := bl_alloc (Below.refl w.heap.size w) (.cells #[.int .i64 W, .int .i64 T, .slice A n c] 25)
  have O1 := OwnI.empty (w.alloc (.cells #[.int .i64 W, .int .i64 T, .slice A n c] 25))
  have B1 := bl_alloc B0 (.cells #[] 3)
  have X1 := X0.alloc (.cells #[] 3)
  have hz : (w.alloc (.cells #[.int .i64 W, .int .i64 T, .slice A n c] 25)).heap.size = w.heap.size + 1 := by simp
  rw [hz] at O1
  have hbs1 : w.heap.size + 1 ≤ ((w.alloc (.cells #[.int .i64 W, .int .i64 T, .slice A n c] 25)).alloc (.cells #[] 3)).heap.size := by simp
  obtain ⟨x0, x1, x2⟩ := id X1
  clear hval hl hlen hf hs h hN hLn hn X0 B0
  go_enter Tryz.func89, Tryz.ntmps89
  go_wp2_with fail
  generalize hu : (w.alloc (.cells #[.int .i64 W, .int .i64 T, .slice A n c] 25)).alloc (.cells #[] 3) = u at *
  clear hu hz
  refine (CS.out _ (hr.belo B1)).mono ?_
  rintro e w2 ⟨rfl, b2⟩
  have B2 := bl_go B1 b2
  have X2 := X1.belo b2
  have O2 := O1.belo b2
  have hbs2 : w.heap.size + 1 ≤ w2.heap.size := Nat.le_trans hbs1 b2.size
  clear x0 x1 x2 X1 O1 B1 b2 CS hbs1
  obtain ⟨x0, x1, x2⟩ := id X2
  go_wp2_with fail
  refine (CT.out _ (hr.belo B2) (hd.belo B2)).mono ?_
  rintro e w3 ⟨rfl, b3⟩
  have B3 := bl_go B2 b3
  have X3 := X2.belo b3
  have O3 := O2.belo b3
  have hbs3 : w.heap.size + 1 ≤ w3.heap.size := Nat.le_trans hbs2 b3.size
  clear x0 x1 x2 X2 O2 B2 b3 CT hbs2
  go_wp2_with fail
  go_loopw [5, 7] (fun v i wr => ∃ k : Nat, k ≤ N ∧ i = .int .i64 k ∧ OwnI wr (w.heap.size + 1) v (List.replicate k 99) ∧ Below w.heap.size w wr ∧ C3 wr w.heap.size (.int .i64 W) (.int .i64 T) (.slice A n c) ∧ w.heap.size + 1 ≤ wr.heap.size) (fun _ i _ => N - (intOf i).toNat)
  case atStart => exact ⟨0, Nat.zero_le _, rfl, O3, B3, X3, hbs3⟩
  case round =>
    clear O3 hbs3 X3 B3
    obtain ⟨k, hk, rfl, O4, B4, X4, hbs4⟩ := hrel
    obtain ⟨x0, x1, x2⟩ := id X4
    go_wp2_with fail
    refine (CC.out _ (hr.belo B4)).mono ?_
    rintro e w5 ⟨rfl, b5⟩
    have B5 := bl_go B4 b5
    have O5 := O4.belo b5
    have X5 := X4.belo b5
    have hbs5 : w.heap.size + 1 ≤ w5.heap.size := Nat.le_trans hbs4 b5.size
    clear x0 x1 x2 X4 O4 b5 hbs4
    by_cases hlt : k < N
    · have hkI : (k : Int) < (N : Int) := by omega
      have HB5 := Lib.hid B5
      go_wp2_with (at_builtin; refine app_int _ rfl _ _ rfl (w.heap.size + 1) _ _ rfl O5 99 rfl (by rw [List.length_replicate]; omega) hbs5 ?_; intro A6 c6 w6 O6 g6)
      have b6 := app_below (Below.refl (w.heap.size + 1) w5) (Nat.le_refl _) hbs5 O5 g6
      go_roundw
      case rel => exact ⟨k + 1, by omega, by go_num, by rw [List.replicate_succ']; rw [List.length_replicate] at O6; exact O6, app_below HB5.out (Nat.le_succ _) hbs5 O5 g6, X5.below b6 (Nat.lt_succ_self _), Nat.le_trans hbs5 b6.size⟩
      case measure => simp [intOf]; omega
    · obtain rfl : k = N := by omega
      obtain ⟨A5, cap, rfl, own5⟩ := id O5
      rw [List.length_replicate] at O5 ⊢
      obtain ⟨g, rfl⟩ := O5.head (by omega)
      have H5 : HsW w W T A n c g k cap (w.heap.size + 1) (List.replicate k 99) w5 := ⟨O5, X5, B5, Nat.lt_succ_self _⟩
      clear own5 O5 X5 B5 hbs5
      go_wp2_with fail
      go_loopw [8, 6] (fun ch f wr => ∃ (t : Bool) (q : Int) (M : List Int), ch = .bool t ∧ f = .int .i64 q ∧ Hid (HsO W T bs L q t M) ∧ HsW w W T A n c g k cap (w.heap.size + 1) M wr) (fun ch _ wr => 2 * un99W g k wr + tN ch)
      case atStart => exact ⟨true, -1, _, rfl, rfl, Lib.hid (.inl ⟨rfl, rfl, by rw [HNE.out]⟩), H5⟩
      case round =>
        clear H5
        obtain ⟨t, q, M0, rfl, rfl, HO, H6⟩ := hrel
        cases t with
        | false =>
          have hOO : q = (v0K W bs : Nat) ∧ M0 = hgtV W T bs L := by
            rcases HO.out with ⟨-, h, -⟩ | ⟨h1, h2, h3⟩
            · cases h
            · exact ⟨h1, rel_fix HSB.out HTB.out h2 (h3 rfl)⟩
          have HM := Lib.hid hOO.2
          have hRES := H6.own.newRd H6.bel (Nat.le_succ _)
          have hlen := H6.len
          rw [HM.out] at hRES
          have HRES := Lib.hid hRES
          clear hOO hRES
          go_wp2_with fail
          go_ret
          exact HRES.out
        | true =>
          obtain ⟨wo, hwo⟩ : ∃ wo : World, wo = wr := ⟨_, rfl⟩
          subst hwo
          go_wp2_with fail
          go_loopw [8, 6, 9] (fun ch f i wr => ∃ (t : Bool) (q : Int) (M : List Int) (v : Nat), v ≤ k ∧ ch = .bool t ∧ f = .int .i64 q ∧ i = .int .i64 v ∧ Hid (HsP W T bs L M0 v 0 q t M) ∧ HsW w W T A n c g k cap (w.heap.size + 1) M wr) (fun _ _ i _ => k - (intOf i).toNat)
          case atStart => exact ⟨false, q, M0, 0, Nat.zero_le _, rfl, rfl, rfl, Lib.hid (hs_start HO.out), H6⟩
          case round =>
            obtain ⟨t, q1, M1, v, hv, rfl, rfl, rfl, HP1, H7⟩ := hrel
            by_cases hlt : v < k
            · have hvI : (v : Int) < (k : Int) := by omega
              have hvW : v < ncN W T := by rw [HNE.out]; exact hlt
              obtain ⟨wp, hwp⟩ : ∃ wp : World, wp = wr := ⟨_, rfl⟩
              subst hwp
              go_wp2_with fail
              go_loopw [8, 6, 10] (fun ch f i wr => ∃ (t : Bool) (q : Int) (M : List Int) (y : Nat), y ≤ 2 ∧ ch = .bool t ∧ f = .int .i64 q ∧ i = .int .i64 y ∧ Hid (HsP W T bs L M0 v y q t M) ∧ HsW w W T A n c g k cap (w.heap.size + 1) M wr) (fun _ _ i _ => 2 - (intOf i).toNat)
              case atStart => exact ⟨t, q1, M1, 0, Nat.zero_le _, rfl, rfl, rfl, HP1, H7⟩
              case round =>
                clear H7 HP1
                obtain ⟨t2, q2, M2, y, hy, rfl, rfl, rfl, HP2, H8⟩ := hrel
                by_cases hy2 : y < 2
                · obtain ⟨b, hb, hbN⟩ : ∃ b, ((y : Int) == 1) = b ∧ y = bN b := by
                    rcases (show y = 0 ∨ y = 1 by omega) with rfl | rfl
                    · exact ⟨false, rfl, rfl⟩
                    · exact ⟨true, rfl, rfl⟩
                  have HBN := Lib.hid hbN
                  have hyI : (y : Int) < 2 := by omega
                  have CEb := Lib.hid (CE.out v b hlt wr (hr.belo H8.bel))
                  obtain ⟨x0, x1, x2⟩ := id H8.box
                  rw [HBN.out] at HP2
                  clear hbN
                  cases hsu : sdU W T bs v b with
                  | false =>
                    have HP3 := Lib.hid (hs_skip HSB.out HP2.out hsu)
                    rw [← HBN.out] at HP3
                    rw [hsu] at CEb
                    clear hsu
                    go_wp2_with fail
                    refine CEb.out.mono ?_
                    rintro e w9 ⟨rfl, b9⟩
                    have H9 := H8.belo b9
                    clear x0 x1 x2 H8 b9 CEb
                    go_wp2_with fail
                    go_roundw
                    case rel => exact ⟨t2, q2, M2, y + 1, by omega, rfl, rfl, by go_num, HP3, H9⟩
                    case measure => simp [intOf]; omega
                  | true =>
                    obtain ⟨u, eu, hu, -, -, kc1, kc2⟩ := sd_to HFG.out hvW hsu
                    have huk : u < k := by rw [← HNE.out]; exact hu
                    have huI : (u : Int) < (k : Int) := by omega
                    have huv : u ≠ v := by
                      have h1 := HFG.out.w1
                      unfold sdT at eu
                      split at eu <;> omega
                    have HX1 := Lib.hid (fun (hi : sdI W T bs v b = true) => sdX_ask HTB.out hi)
                    have HX0 := Lib.hid (fun (hi : sdI W T bs v b = false) => show sdX W T L v b = false from by
                      rw [Bool.eq_false_iff]; intro hx; rw [sdX_inS HTB.out hx] at hi; cases hi)
                    have HXO := Lib.hid (fun (hi : sdI W T bs v b = false) => ed_out hi)
                    have HZ := Lib.hid (show (if sdX W T L v b = true then -3 * (if edD W v b = true then 1 else -1) else (if edD W v b = true then 1 else -1)) = sdZ W T L v b from by
                      unfold sdZ edD
                      rcases rho_or (slx W v b) (cY W v) with e | e <;> rw [e] <;> simp)
                    have hzb : sdZ W T L v b = 1 ∨ sdZ W T L v b = -1 ∨ sdZ W T L v b = 3 ∨ sdZ W T L v b = -3 := by
                      unfold sdZ
                      rcases rho_or (slx W v b) (cY W v) with e | e <;> rw [e] <;> split <;> simp
                    have HSTEP := Lib.hid (fun (M : List Int) (hM : RelI W T bs L M) => rel_step HSB.out HTB.out hM hvW hsu)
                    have HEVN := Lib.hid (fun (M : List Int) => show evenS W M v b ↔ (M.getD v 0 = 99 ↔ M.getD u 0 = 99) by unfold evenS; rw [eu, Int.toNat_natCast])
                    have HRS := Lib.hid (fun (M : List Int) => show relS W T L M v b = if M.getD v 0 ≠ 99 ∧ M.getD u 0 = 99 then M.set u (M.getD v 0 + sdZ W T L v b) else if M.getD v 0 = 99 ∧ M.getD u 0 ≠ 99 then M.set v (M.getD u 0 - sdZ W T L v b) else M by
                      unfold relS
                      rw [eu, Int.toNat_natCast])
                    have HGB := Lib.hid (fun (M : List Int) (hM : RelI W T bs L M) (j : Nat) (hj : j < ncN W T) (hc : corK W T bs j) (h9 : M.getD j 0 ≠ 99) => show -60 ≤ M.getD j 0 ∧ M.getD j 0 ≤ 60 from by
                      rcases hM.val j hj with e | e
                      · exact absurd e h9
                      · rw [e]; exact (hgtV_good HSB.out HTB.out).bd HSB.out hj hc)
                    have HGV := Lib.hid (fun (M : List Int) (hM : RelI W T bs L M) => HGB.out M hM v hvW kc1)
                    have HGU := Lib.hid (fun (M : List Int) (hM : RelI W T bs L M) => HGB.out M hM u hu kc2)
                    have HFI := Lib.hid (fun (M : List Int) (h : HsP W T bs L M0 v (bN b) (-1) t2 M) => hs_first HSB.out HTB.out h hvW hsu)
                    rw [hsu, eu] at CEb
                    generalize sdI W T bs v b = si at *
                    generalize edA W T bs v b = za at *
                    generalize edB W T bs v b = zb at *
                    generalize edD W v b = dd at *
                    generalize sdX W T L v b = sx at *
                    generalize sdZ W T L v b = sz at *
                    clear hsu eu kc1 kc2 hu HGB
                    go_wp2_with fail
                    refine CEb.out.mono ?_
                    rintro e w9 ⟨rfl, b9⟩
                    have H9 := H8.belo b9
                    clear x0 x1 x2 H8 b9 CEb
                    obtain ⟨y1, y2⟩ := H9.cell hlt
                    go_upto_if 65 with fail
                    go_cut [6] from 46 to 131 (fun s6 wx => ∃ M3, s6 = .int .i64 (v0K W bs : Nat) ∧ Hid (HsP W T bs L M0 v (bN b) (v0K W bs : Nat) t2 M3) ∧ HsW w W T A n c g k cap (w.heap.size + 1) M3 wx)
                    case first =>
                      by_cases hq : q2 = -1
                      · subst hq
                        obtain ⟨e0, hp0⟩ := HFI.out M2 HP2.out
                        have HP3 := Lib.hid hp0
                        have HE0 := Lib.hid e0
                        have H10 := H9.set v 0
                        clear hp0 e0
                        go_wp2_with fail
                        go_meet
                        exact ⟨_, by rw [← HE0.out], HP3, H10⟩
                      · have hq2 : q2 = (v0K W bs : Nat) := by
                          rcases HP2.out.1 with ⟨h, -⟩ | ⟨h, -⟩
                          · exact absurd h hq
                          · exact h
                        obtain rfl := hq2
                        have hqd : decide (((v0K W bs : Nat) : Int) < 0) = false := decide_eq_false (by omega)
                        clear hq
                        go_wp2_with fail
                        go_meet
                        exact ⟨_, rfl, HP2, H9⟩
                    case rest =>
                      obtain ⟨M3, rfl, HP3, H10⟩ := hcut
                      clear H9 HP2 y1 y2 HFI
                      have HR3 := Lib.hid (show RelI W T bs L M3 from by
                        rcases HP3.out.1 with ⟨h, -⟩ | ⟨-, h⟩
                        · omega
                        · exact h)
                      have HST3 := Lib.hid (HSTEP.out M3 HR3.out)
                      have HEV3 := Lib.hid (HEVN.out M3)
                      have HRS3 := Lib.hid (HRS.out M3)
                      have HGV3 := Lib.hid (HGV.out M3 HR3.out)
                      have HGU3 := Lib.hid (HGU.out M3 HR3.out)
                      clear HSTEP HEVN HRS HGV HGU
                      obtain ⟨x0, x1, x2⟩ := id H10.box
                      have hx0 := H10.box.lt
                      obtain ⟨wA, hwA⟩ : ∃ wA : World, wA = wc := ⟨_, rfl⟩
                      subst hwA
                      have D10 := hd.below H10.bel (Nat.le_refl _)
                      go_upto_region 23 with fail
                      go_cut [17] from 46 to 131 (fun s17 wx => s17 = .bool sx ∧ HsW w W T A n c g k cap (w.heap.size + 1) M3 wx)
                      case first =>
                        have L0 : ∀ z : BW wA, z.wo.cell? ⟨w.heap.size, 0, none⟩ = some (.int .i64 W) := fun z => z.cell hx0 x0
                        have L1 : ∀ z : BW wA, z.wo.cell? ⟨w.heap.size, 1, none⟩ = some (.int .i64 T) := fun z => z.cell hx0 x1
                        have L2 : ∀ z : BW wA, z.wo.cell? ⟨w.heap.size, 2, none⟩ = some (.slice A n c) := fun z => z.cell hx0 x2
                        cases si with
                        | true =>
                          obtain ⟨ka, kb, rfl, rfl, hka, hkb, hX⟩ := HX1.out rfl
                          have hkan : ka < n := by have := HBn.out; omega
                          have hkL : ka < L.length := by have := HLn.out; omega
                          obtain ⟨ad, rfl, hc⟩ := D10.atM hkL
                          rw [getD_at _ _ hkL] at hX
                          have CS2 := Lib.hid (fun z => CST.out ka hkan L[ka] z)
                          generalize L[ka] = lv at hc hX CS2
                          generalize stepZ W T ka lv = sv at hX CS2
                          have HX := Lib.hid hX
                          have hcl := World.block_lt_of_cell? _ _ hc
                          have L3 : ∀ z : BW wA, z.wo.cell? (ad.add ka) = some (.int .i64 lv) := fun z => (z.ok.cell (p := ad.add ka) hcl).trans hc
                          have hkaI : (ka : Int) < (n : Int) := by omega
                          have hka0 : decide (0 ≤ (ka : Int)) = true := decide_eq_true (by omega)
                          have hkb0 : decide (0 ≤ (kb : Int)) = true := decide_eq_true (by omega)
                          clear hX HX1 HX0 HXO hka hkb hc x0 x1 x2 D10
                          (refine region_bw (by kernel_rfl) (by kernel_rfl) ?_; (repeat (first | go_big_quiet_skip | (go_big_quiet_want; go_big_quiet_op; first | go_big_quiet_on | (refine ⟨.int .i64 sv, fun zz => ?_, ?_⟩; (go_at_call 102; with_reducible exact zz.on (CS2.out zz.wo)); go_big_quiet_on)))); refine wpQuiet_nil ?_; intro wz hw'; obtain ⟨zw, hw''⟩ := hw'; subst hw'')
                          go_wp2_with fail
                          go_meet
                          exact ⟨by rw [← HX.out], H10.belo zw.ok⟩
                        | false =>
                          have HX := Lib.hid (HX0.out rfl)
                          have hzo := HXO.out rfl
                          clear HX0 HX1 HXO x0 x1 x2
                          by_cases ha : za = -1
                          · subst ha
                            clear hzo
                            (refine region_bw (by kernel_rfl) (by kernel_rfl) ?_; (repeat (first | go_big_quiet_skip | (go_big_quiet_want; go_big_quiet_op; first | go_big_quiet_on | (refine ⟨.int .i64 0, fun zz => ?_, ?_⟩; (fail); go_big_quiet_on)))); refine wpQuiet_nil ?_; intro wz hw'; obtain ⟨zw, hw''⟩ := hw'; subst hw'')
                            go_wp2_with fail
                            go_meet
                            exact ⟨by rw [HX.out], H10.belo zw.ok⟩
                          · obtain rfl := hzo.resolve_left ha
                            clear hzo
                            cases hza : decide (0 ≤ za) with
                            | true =>
                              (refine region_bw (by kernel_rfl) (by kernel_rfl) ?_; (repeat (first | go_big_quiet_skip | (go_big_quiet_want; go_big_quiet_op; first | go_big_quiet_on | (refine ⟨.int .i64 0, fun zz => ?_, ?_⟩; (fail); go_big_quiet_on)))); refine wpQuiet_nil ?_; intro wz hw'; obtain ⟨zw, hw''⟩ := hw'; subst hw'')
                              go_wp2_with fail
                              go_meet
                              exact ⟨by rw [HX.out], H10.belo zw.ok⟩
                            | false =>
                              (refine region_bw (by kernel_rfl) (by kernel_rfl) ?_; (repeat (first | go_big_quiet_skip | (go_big_quiet_want; go_big_quiet_op; first | go_big_quiet_on | (refine ⟨.int .i64 0, fun zz => ?_, ?_⟩; (fail); go_big_quiet_on)))); refine wpQuiet_nil ?_; intro wz hw'; obtain ⟨zw, hw''⟩ := hw'; subst hw'')
                              go_wp2_with fail
                              go_meet
                              exact ⟨by rw [HX.out], H10.belo zw.ok⟩
                      case rest =>
                        obtain ⟨rfl, H11⟩ := hcut
                        clear H10 x0 x1 x2 D10 HX1 HX0 HXO
                        obtain ⟨wB, hwB⟩ : ∃ wB : World, wB = wc := ⟨_, rfl⟩
                        subst hwB
                        have CR := Lib.hid (fun z => srise_any dd sx z)
                        rw [HZ.out] at CR
                        go_wp2_with fail
                        refine (CR.out _).mono ?_
                        rintro e w12 ⟨rfl, rfl⟩
                        obtain ⟨y1, y2⟩ := H11.cell hlt
                        obtain ⟨z1, z2⟩ := H11.cell huk
                        have hM3 := H11.len
                        by_cases ha : M3.getD v 0 = 99
                        · rw [ha] at y1
                          by_cases hb9 : M3.getD u 0 = 99
                          · rw [hb9] at z1
                            have HP4 := Lib.hid (hs_even HP3.out (by omega) (HEV3.out.2 ⟨fun _ => hb9, fun _ => ha⟩))
                            rw [← HBN.out] at HP4
                            clear ha hb9
                            go_wp2_with fail
                            go_roundw
                            case rel => exact ⟨t2, _, M3, y + 1, by omega, rfl, rfl, by go_num, HP4, H11⟩
                            case measure => simp [intOf]; omega
                          · have hub := HGU3.out hb9
                            have hM : relS W T L M3 v b = M3.set v (M3.getD u 0 - sz) := by rw [HRS3.out, if_neg (fun x => x.1 ha), if_pos ⟨ha, hb9⟩]
                            have hun := HST3.out.2.resolve_left (fun x => hb9 ((HEV3.out.1 x.2).1 ha))
                            have HP4 := Lib.hid (hs_grow (y' := bN b + 1) HP3.out (by omega) HST3.out.1 hun.1)
                            rw [hM, ← HBN.out] at HP4
                            have H12 := H11.set v (M3.getD u 0 - sz)
                            generalize M3.getD u 0 = bb at *
                            have hb1 : (bb != 99) = true := by rw [bne_iff_ne]; exact hb9
                            have hb2 : (bb == 99) = false := by rw [beq_eq_false_iff_ne]; exact hb9
                            clear ha hb9 hM hun
                            go_wp2_with fail
                            go_roundw
                            case rel => exact ⟨true, _, _, y + 1, by omega, rfl, rfl, by go_num, HP4, H12⟩
                            case measure => simp [intOf]; omega
                        · have hab := HGV3.out ha
                          by_cases hb9 : M3.getD u 0 = 99
                          · rw [hb9] at z1
                            have hM : relS W T L M3 v b = M3.set u (M3.getD v 0 + sz) := by rw [HRS3.out, if_pos ⟨ha, hb9⟩]
                            have hun := HST3.out.2.resolve_left (fun x => ha ((HEV3.out.1 x.2).2 hb9))
                            have HP4 := Lib.hid (hs_grow (y' := bN b + 1) HP3.out (by omega) HST3.out.1 hun.1)
                            rw [hM, ← HBN.out] at HP4
                            have H12 := H11.set u (M3.getD v 0 + sz)
                            obtain ⟨v1, v2⟩ := H12.cell hlt
                            obtain ⟨u1, u2⟩ := H12.cell huk
                            rw [getD_setJ (by omega), if_neg (fun e => huv e.symm)] at v1
                            rw [getD_setJ (by omega), if_pos rfl] at u1
                            generalize M3.getD v 0 = a at *
                            have ha1 : (a != 99) = true := by rw [bne_iff_ne]; exact ha
                            have ha2 : (a == 99) = false := by rw [beq_eq_false_iff_ne]; exact ha
                            have hs1 : (a + sz != 99) = true := by rw [bne_iff_ne]; omega
                            clear ha hb9 hM hun
                            go_wp2_with fail
                            go_roundw
                            case rel => exact ⟨true, _, _, y + 1, by omega, rfl, rfl, by go_num, HP4, H12⟩
                            case measure => simp [intOf]; omega
                          · have HP4 := Lib.hid (hs_even HP3.out (by omega) (HEV3.out.2 ⟨fun x => absurd x ha, fun x => absurd x hb9⟩))
                            rw [← HBN.out] at HP4
                            generalize M3.getD v 0 = a at *
                            generalize M3.getD u 0 = bb at *
                            have ha1 : (a != 99) = true := by rw [bne_iff_ne]; exact ha
                            have ha2 : (a == 99) = false := by rw [beq_eq_false_iff_ne]; exact ha
                            have hb1 : (bb != 99) = true := by rw [bne_iff_ne]; exact hb9
                            have hb2 : (bb == 99) = false := by rw [beq_eq_false_iff_ne]; exact hb9
                            clear ha hb9
                            go_wp2_with fail
                            go_roundw
                            case rel => exact ⟨t2, _, M3, y + 1, by omega, rfl, rfl, by go_num, HP4, H11⟩
                            case measure => simp [intOf]; omega
                · obtain rfl : y = 2 := by omega
                  have HP3 := Lib.hid (hs_row HP2.out)
                  go_wp2_with fail
                  go_roundw
                  case rel => exact ⟨t2, q2, M2, v + 1, by omega, rfl, rfl, by go_num, HP3, H8⟩
                  case measure => simp [intOf]; omega
            · obtain rfl : v = k := by omega
              have hE := HP1.out
              rw [← HNE.out] at hE
              obtain ⟨e1, e2, -⟩ := hs_end HSB.out hE
              have HE1 := Lib.hid e1
              have hm0 := un99W_own H6.own
              have hm1 := un99W_own H7.own
              clear e1 hE H6
              go_wp2_with fail
              go_roundw
              case rel => exact ⟨t, q1, M1, rfl, rfl, HE1, H7⟩
              case measure =>
                rw [hm0, hm1]
                cases t <;> simp [tN] at e2 ⊢ <;> omega
end Go.Proofs.YtafmpgikdhlknaaGreat

/- Contract: the reference's HeightsOk, of heights that are right. -/
namespace Go.Proofs.YtafmpgikdhlknaaGreat
open Go.RowKit

/-- the corners met so far -/
def HkP (W T : Int) (bs : List Bool) (k y : Nat) (f : Int) (S : List Bool) : Prop :=
  ((f = -1 ∧ k ≤ v0K W bs ∧ (k = v0K W bs → y = 0)) ∨ f = (v0K W bs : Nat)) ∧ S.length = ncN W T ∧
  (∀ v b, (v < k ∨ (v = k ∧ bN b < y)) → sdU W T bs v b = true → S.getD v false = true ∧ S.getD (sdT W v b).toNat false = true)
theorem hk_before {v k : Nat} {b c : Bool} (h : v < k ∨ (v = k ∧ bN c < bN b + 1)) : (v < k ∨ (v = k ∧ bN c < bN b)) ∨ (v = k ∧ c = b) := by
  rcases h with h | ⟨h, h2⟩
  · exact .inl (.inl h)
  · rcases Nat.lt_or_ge (bN c) (bN b) with h4 | h4
    · exact .inl (.inr ⟨h, h4⟩)
    · exact .inr ⟨h, bN_inj (by omega)⟩
theorem hk_skip {W T : Int} {bs : List Bool} (hs : simpB W T bs = true) {k : Nat} {b : Bool} {f : Int} {S : List Bool} (h : HkP W T bs k (bN b) f S) (hu : sdU W T bs k b = false) : HkP W T bs k (bN b + 1) f S := by
  obtain ⟨h1, h2, h3⟩ := h
  refine ⟨?_, h2, fun v c hv hc => ?_⟩
  · rcases h1 with ⟨a1, a3, a4⟩ | h1
    · refine .inl ⟨a1, a3, fun e => ?_⟩
      exfalso
      have h0 := a4 e
      have hb : b = false := by cases b with
        | false => rfl
        | true => simp [bN] at h0
      rw [e, hb, v0_use hs] at hu
      cases hu
    · exact .inr h1
  · rcases hk_before hv with h | ⟨h4, h5⟩
    · exact h3 v c h hc
    · rw [h4, h5, hu] at hc; cases hc
theorem hk_fst {W T : Int} {bs : List Bool} (hs : simpB W T bs = true) {k : Nat} {b : Bool} {f : Int} {S : List Bool} (h : HkP W T bs k (bN b) f S) (hk : k < ncN W T) (hu : sdU W T bs k b = true) : (f = -1 ∧ k = v0K W bs) ∨ f = (v0K W bs : Nat) := by
  rcases h.1 with ⟨a1, a3, -⟩ | h1
  · have hf := valid_fld (simp_iff.1 hs).1
    obtain ⟨u, -, -, -, -, c1, -⟩ := sd_to hf hk hu
    have := v0_le hs hk c1
    exact .inl ⟨a1, by omega⟩
  · exact .inr h1
theorem getD_setB {l : List Bool} {k j : Nat} {v : Bool} (hk : k < l.length) : (l.set k v).getD j false = if j = k then v else l.getD j false := by
  rw [List.getD_eq_getElem?_getD, List.getElem?_set]
  by_cases h : k = j
  · subst h; rw [if_pos rfl, if_pos hk, if_pos rfl]; rfl
  · rw [if_neg h, if_neg (fun e => h e.symm), List.getD_eq_getElem?_getD]
theorem hk_put {W T : Int} {bs : List Bool} {k u : Nat} {b : Bool} {f : Int} {S : List Bool} (h : HkP W T bs k (bN b) f S) (hk : k < ncN W T) (hu : u < ncN W T) (e : sdT W k b = u) : HkP W T bs k (bN b + 1) (v0K W bs : Nat) ((S.set k true).set u true) := by
  obtain ⟨-, h2, h3⟩ := h
  have key : ∀ j, S.getD j false = true ∨ j = k ∨ j = u → ((S.set k true).set u true).getD j false = true := fun j hj => by
    rw [getD_setB (by rw [List.length_set]; omega), getD_setB (by omega)]
    by_cases h1 : j = u
    · rw [if_pos h1]
    · rw [if_neg h1]
      by_cases h4 : j = k
      · rw [if_pos h4]
      · rw [if_neg h4]
        rcases hj with hj | hj | hj
        · exact hj
        · exact absurd hj h4
        · exact absurd hj h1
  refine ⟨.inr rfl, by simp [h2], fun v c hv hc => ?_⟩
  rcases hk_before hv with h | ⟨h4, h5⟩
  · obtain ⟨a, b'⟩ := h3 v c h hc
    exact ⟨key _ (.inl a), key _ (.inl b')⟩
  · subst h4; subst h5
    refine ⟨key _ (.inr (.inl rfl)), key _ (.inr (.inr ?_))⟩
    rw [e]; rfl
theorem hk_row {W T : Int} {bs : List Bool} {k : Nat} {f : Int} {S : List Bool} (h : HkP W T bs k 2 f S) : HkP W T bs (k + 1) 0 f S := by
  obtain ⟨h1, h2, h3⟩ := h
  refine ⟨?_, h2, fun v c hv hc => ?_⟩
  · rcases h1 with ⟨a1, a3, a4⟩ | h1
    · refine .inl ⟨a1, ?_, fun _ => rfl⟩
      rcases Nat.lt_or_ge k (v0K W bs) with h | h
      · exact h
      · have := a4 (by omega); omega
    · exact .inr h1
  · refine h3 v c ?_ hc
    rcases hv with hv | ⟨-, hb⟩
    · rcases Nat.lt_or_ge v k with h | h
      · exact .inl h
      · exact .inr ⟨by omega, by cases c <;> simp [bN]⟩
    · omega
theorem hk_end {W T : Int} {bs : List Bool} (hs : simpB W T bs = true) {f : Int} {S : List Bool} (h : HkP W T bs (ncN W T) 0 f S) : f = (v0K W bs : Nat) ∧ ∀ v, v < ncN W T → corK W T bs v → S.getD v false = true := by
  obtain ⟨h1, h2, h3⟩ := h
  have hf := valid_fld (simp_iff.1 hs).1
  refine ⟨?_, fun v hv hc => ?_⟩
  · rcases h1 with ⟨-, a3, -⟩ | a1
    · have := (v0_at hs).1; omega
    · exact a1
  · rcases cor_side hf hv hc with ⟨b, hb⟩ | ⟨u, b, hu, hb, e⟩
    · exact (h3 v b (.inl hv) hb).1
    · have := (h3 u b (.inl hu) hb).2
      rw [e, Int.toNat_natCast] at this
      exact this
/-- in memory -/
structure HkW (w : World) (W T : Int) (A : Option Addr) (n c g N : Nat) (S : List Bool) (wr : World) : Prop where
  out : Wr wr (w.heap.size + 1) 4 (some ⟨g, 0, none⟩) (S.map .bool)
  box : C3 wr w.heap.size (.int .i64 W) (.int .i64 T) (.slice A n c)
  bel : Below w.heap.size w wr
  lo : w.heap.size < g
  len : S.length = N
section
variable {w wr w' : World} {W T : Int} {A : Option Addr} {n c g N : Nat} {S : List Bool}
theorem HkW.belo (h : HkW w W T A n c g N S wr) (hb : Below wr.heap.size wr w') : HkW w W T A n c g N S w' := ⟨h.out.belo hb, h.box.belo hb, bl_go h.bel hb, h.lo, h.len⟩
theorem HkW.set (h : HkW w W T A n c g N S wr) (k : Nat) (z : Bool) : HkW w W T A n c g N (S.set k z) (wr.setCell ⟨g, k, none⟩ (.bool z)) := by
  have h1 := h.lo
  exact ⟨by rw [List.map_set]; exact h.out.store k _, h.box.set (by simp; omega) _, h.bel.setCell (by simp; omega) _, h1, by rw [List.length_set]; exact h.len⟩
theorem HkW.cell (h : HkW w W T A n c g N S wr) {k : Nat} (hk : k < N) : wr.cell? ⟨g, k, none⟩ = some (.bool (S.getD k false)) ∧ wr.frozen? ⟨g, k, none⟩ = false := by
  have hm : k < S.length := by rw [h.len]; exact hk
  have hc := h.out.rd.cellEM (k := k) hm
  rw [Nat.zero_add] at hc
  obtain ⟨g', e, -, -, hf⟩ := h.out.form (by intro e; have := congrArg List.length e; simp at this; rw [this] at hm; simp at hm)
  injection e with e; injection e with e
  subst e
  exact ⟨by rw [hc, getD_in _ _ hm], hf k⟩
end
set_option maxRecDepth 100000 in
set_option maxHeartbeats 8000000 in
theorem heightsOkS_t (W T : Int) (A D : Option Addr) (c d n N : Nat) (bs : List Bool) (H : List Int) (w : World) (hr : Rd w A (bs.map .bool)) (hd : Rd w D (H.map (.int .i64))) (hs : simpB W T bs = true) (h : GoodH W T bs H) (hn : bs.length = n) (hN : ncN W T = N) :
    Calls Tryz.prog 134 #[.agg #[.int .i64 W, .int .i64 T, .slice A n c], .slice D N d] w fun e w' => e = .returned (.bool true) ∧ Below w.heap.size w w' := by
  obtain ⟨hval, -, -⟩ := simp_iff.1 hs
  obtain ⟨⟨w1, w6⟩, ⟨t1, t6⟩, hlen, -⟩ := validB_iff.1 hval
  have hf : FldF W T n := ⟨w1, w6, t1, t6, by rw [← hn]; exact hlen⟩
  have n36 : n ≤ 36 := hf.bd
  obtain ⟨-, hN1, hN49⟩ := nc_bd hf
  rw [hN] at hN1 hN49
  have HSB := Lib.hid hs
  have HG := Lib.hid h
  have HV0 := Lib.hid (v0_at hs).1
  have CS := Lib.hid (fun (z : World) (R : Rd z A (bs.map .bool)) => sSimple_any W T A c n bs z R hn (by unfold maxLen; omega))
  rw [hs] at CS
  have CC := Lib.hid (fun (z : World) (R : Rd z A (bs.map .bool)) => sCorners_any W T A c bs z R (by rw [hn]; unfold maxLen; omega))
  rw [hval, if_pos rfl, hn, hN] at CC
  have CE := Lib.hid (fun (v : Nat) (b : Bool) (hv : v < ncN W T) (z : World) (R : Rd z A (bs.map .bool)) => edge_t W T A c n bs v b z R hf hn hv)
  have HFG := Lib.hid (valid_fld hval)
  have HHL := Lib.hid (show H.length = N from by rw [h.len, hN])
  have HZ0 := Lib.hid (show H.getD (v0K W bs) 0 = 0 from by
    have e := h.zero
    obtain ⟨p0, p1, p2, -⟩ := v0_at hs
    rw [← p1, ← p2, hL_c (valid_fld hval) p0] at e
    exact e)
  rw [hN] at CE HV0
  have HNE := Lib.hid hN
  obtain ⟨i0, hi, hz0, hz1, hz2⟩ := info_parts Tryz.infoB
  have hb1 : i0.bytes * N ≤ 281474976710656 := by rw [hz2]; omega
  have HZ := Lib.hid (And.intro hz0 (And.intro hz1 hz2))
  have X0 := C3.new w (.int .i64 W) (.int .i64 T) (.slice A n c) 25
  have B0 := bl_alloc (Below.refl w.heap.size w) (.cells #[.int .i64 W, .int .i64 T, .slice A n c] 25)
  have hbs1 : w.heap.size + 1 ≤ (w.alloc (.cells #[.int .i64 W, .int .i64 T, .slice A n c] 25)).heap.size := by simp
  obtain ⟨x0, x1, x2⟩ := id X0
  clear hval hlen hf hs h hN hn hz0 hz1 hz2
  have hNN : ((N : Int) != (N : Int)) = false := by simp
  go_enter Tryz.func134, Tryz.ntmps134
  go_wp2_with fail
  generalize w.alloc (.cells #[.int .i64 W, .int .i64 T, .slice A n c] 25) = u at *
  refine (CS.out _ (hr.belo B0)).mono ?_
  rintro e w2 ⟨rfl, b2⟩
  have B2 := bl_go B0 b2
  have X2 := X0.belo b2
  have hbs2 : w.heap.size + 1 ≤ w2.heap.size := Nat.le_trans hbs1 b2.size
  clear x0 x1 x2 X0 B0 b2 CS hbs1
  obtain ⟨x0, x1, x2⟩ := id X2
  go_wp2_with fail
  refine (CC.out _ (hr.belo B2)).mono ?_
  rintro e w3 ⟨rfl, b3⟩
  have B3 := bl_go B2 b3
  have X3 := X2.belo b3
  have hbs3 : w.heap.size + 1 ≤ w3.heap.size := Nat.le_trans hbs2 b3.size
  clear x0 x1 x2 X2 B2 b3 CC hbs2
  go_wp2_with (at_make; refine wpList_make_full _ rfl _ _ 23 rfl w3.heap.size 4 i0 (.bool false) 1 Tryz.underlying23 hi HZ.out.1 HZ.out.2.1 .i64 .i64 _ _ N rfl rfl rfl rfl hb1 (by unfold maxLen; omega) (Nat.le_refl _) ?_; intro v1 hown1 hgrow1)
  have V1 := Wr.of_own hown1
  rw [show (Value.bool false).cells = #[.bool false] from rfl, toList_madeCells_one] at V1
  have VB := (Below.refl w3.heap.size w3).grown hgrow1 (Nat.le_refl _) (fun k hk => by cases hk)
  have H4 : HkW w W T A n c w3.heap.size N (List.replicate N false) v1 := ⟨(show Wr v1 w3.heap.size 4 (some ⟨w3.heap.size, 0, none⟩) ((List.replicate N false).map .bool) by simpa using V1).lower hbs3, X3.belo VB, bl_go B3 VB, hbs3, by simp⟩
  generalize w3.heap.size = g at *
  have HP4 : Hid (HkP W T bs 0 0 (-1) (List.replicate N false)) := Lib.hid ⟨.inl ⟨rfl, Nat.zero_le _, fun _ => rfl⟩, by rw [HNE.out]; simp, fun v b hv => by omega⟩
  clear V1 VB hown1 hgrow1 X3 B3 hbs3 hb1 hNN
  go_wp2_with fail
  go_loopw [6, 7] (fun f i wr => ∃ (q : Int) (S : List Bool) (v : Nat), v ≤ N ∧ f = .int .i64 q ∧ i = .int .i64 v ∧ Hid (HkP W T bs v 0 q S) ∧ HkW w W T A n c g N S wr) (fun _ i _ => N - (intOf i).toNat)
  case atStart => exact ⟨-1, _, 0, Nat.zero_le _, rfl, rfl, HP4, H4⟩
  case round =>
    clear H4 HP4
    obtain ⟨q1, S1, v, hv, rfl, rfl, HP1, H7⟩ := hrel
    by_cases hlt : v < N
    · have hvI : (v : Int) < (N : Int) := by omega
      have hvW : v < ncN W T := by rw [HNE.out]; exact hlt
      obtain ⟨wp, hwp⟩ : ∃ wp : World, wp = wr := ⟨_, rfl⟩
      subst hwp
      go_wp2_with fail
      go_loopw [6, 8] (fun f i wr => ∃ (q : Int) (S : List Bool) (y : Nat), y ≤ 2 ∧ f = .int .i64 q ∧ i = .int .i64 y ∧ Hid (HkP W T bs v y q S) ∧ HkW w W T A n c g N S wr) (fun _ i _ => 2 - (intOf i).toNat)
      case atStart => exact ⟨q1, S1, 0, Nat.zero_le _, rfl, rfl, HP1, H7⟩
      case round =>
        clear H7 HP1
        obtain ⟨q2, S2, y, hy, rfl, rfl, HP2, H8⟩ := hrel
        by_cases hy2 : y < 2
        · obtain ⟨b, hb, hbN⟩ : ∃ b, ((y : Int) == 1) = b ∧ y = bN b := by
            rcases (show y = 0 ∨ y = 1 by omega) with rfl | rfl
            · exact ⟨false, rfl, rfl⟩
            · exact ⟨true, rfl, rfl⟩
          have HBN := Lib.hid hbN
          have hyI : (y : Int) < 2 := by omega
          have CEb := Lib.hid (CE.out v b hlt wr (hr.belo H8.bel))
          obtain ⟨x0, x1, x2⟩ := id H8.box
          rw [HBN.out] at HP2
          clear hbN
          cases hsu : sdU W T bs v b with
          | false =>
            have HP3 := Lib.hid (hk_skip HSB.out HP2.out hsu)
            rw [← HBN.out] at HP3
            rw [hsu] at CEb
            clear hsu
            go_wp2_with fail
            refine CEb.out.mono ?_
            rintro e w9 ⟨rfl, b9⟩
            have H9 := H8.belo b9
            clear x0 x1 x2 H8 b9 CEb
            go_wp2_with fail
            go_roundw
            case rel => exact ⟨q2, S2, y + 1, by omega, rfl, by go_num, HP3, H9⟩
            case measure => simp [intOf]; omega
          | true =>
            obtain ⟨u, eu, hu, -, -, kc1, kc2⟩ := sd_to HFG.out hvW hsu
            have huk : u < N := by rw [← HNE.out]; exact hu
            have huI : (u : Int) < (N : Int) := by omega
            have hbv := HG.out.bd HSB.out hvW kc1
            have hbu := HG.out.bd HSB.out hu kc2
            have hgs := good_side HSB.out HG.out hvW hsu eu
            have HFI := Lib.hid (hk_fst HSB.out HP2.out hvW hsu)
            have HPT := Lib.hid (hk_put HP2.out hvW hu eu)
            rw [← HBN.out] at HPT
            have hdd : (edD W v b = true ∧ rho (slx W v b) (cY W v) = 1) ∨ (edD W v b = false ∧ rho (slx W v b) (cY W v) = -1) := by
              unfold edD
              rcases rho_or (slx W v b) (cY W v) with e | e <;> rw [e] <;> simp
            rw [hsu, eu] at CEb
            have hvH : v < H.length := by have := HHL.out; omega
            have huH : u < H.length := by have := HHL.out; omega
            obtain ⟨ad, rfl, cv⟩ := hd.atM hvH
            obtain ⟨ad', e', cu⟩ := hd.atM huH
            injection e' with e'
            subst e'
            rw [getD_in _ _ hvH] at hbv hgs
            rw [getD_in _ _ huH] at hbu hgs
            generalize H[v] = zv at *
            generalize H[u] = zu at *
            obtain ⟨dz, hdz, hdc⟩ : ∃ dz : Int, IntKind.i64.wrap (zu - zv) = dz ∧ ((edD W v b = true ∧ dz = 1) ∨ (edD W v b = false ∧ dz = -1) ∨ (edD W v b = true ∧ sdI W T bs v b = true ∧ dz = -3) ∨ (edD W v b = false ∧ sdI W T bs v b = true ∧ dz = 3)) := by
              refine ⟨zu - zv, IntWalk.i64_in _ (by omega), ?_⟩
              rcases hdd with ⟨h1, h2⟩ | ⟨h1, h2⟩ <;> rw [h2] at hgs <;> rcases hgs with h3 | ⟨h3, h4⟩
              · exact .inl ⟨h1, h3⟩
              · exact .inr (.inr (.inl ⟨h1, h3, by omega⟩))
              · exact .inr (.inl ⟨h1, h3⟩)
              · exact .inr (.inr (.inr ⟨h1, h3, by omega⟩))
            have HDC := Lib.hid hdc
            have KD := Lib.hid (fun (z : World) (Z : Below w.heap.size w z) => show z.cell? (ad.add v) = some (.int .i64 zv) ∧ z.cell? (ad.add u) = some (.int .i64 zu) from
              ⟨(Z.cell (p := ad.add v) (World.block_lt_of_cell? _ _ cv)).trans cv, (Z.cell (p := ad.add u) (World.block_lt_of_cell? _ _ cu)).trans cu⟩)
            clear cv cu
            generalize edA W T bs v b = za at *
            generalize edB W T bs v b = zb at *
            generalize edD W v b = dd at *
            generalize sdI W T bs v b = si at *
            obtain ⟨bv1, bv2⟩ := hbv
            obtain ⟨bu1, bu2⟩ := hbu
            clear hsu eu kc1 kc2 hu hdd hgs hdc hvH huH
            go_wp2_with fail
            refine CEb.out.mono ?_
            rintro e w9 ⟨rfl, b9⟩
            have H9 := H8.belo b9
            clear x0 x1 x2 H8 b9 CEb
            go_upto_if 55 with fail
            go_cut [6] from 36 to 101 (fun s6 wx => s6 = .int .i64 (v0K W bs : Nat) ∧ wx = w9)
            case first =>
              rcases HFI.out with ⟨rfl, e0⟩ | rfl
              · have HE0 := Lib.hid e0
                clear e0
                go_wp2_with fail
                go_meet
                exact ⟨by rw [← HE0.out], rfl⟩
              · have hqd : decide (((v0K W bs : Nat) : Int) < 0) = false := decide_eq_false (by omega)
                go_wp2_with fail
                go_meet
                exact ⟨rfl, rfl⟩
            case rest =>
              obtain ⟨rfl, rfl⟩ := hcut
              clear HFI
              obtain ⟨wA, hwA⟩ : ∃ wA : World, wA = wc := ⟨_, rfl⟩
              subst hwA
              obtain ⟨y1, y2⟩ := H9.cell hlt
              have H10 := H9.set v true
              obtain ⟨y3, y4⟩ := H10.cell huk
              have H11 := H10.set u true
              obtain ⟨d1, d2⟩ := KD.out _ H11.bel
              go_upto_region 17 with fail
              generalize (wA.setCell ⟨g, v, none⟩ (.bool true)).setCell ⟨g, u, none⟩ (.bool true) = wS at *
              clear y1 y2 y3 y4 H10 H9
              have H12 := H11.belo (Below.refl _ _).drew
              go_region
              rcases HDC.out with ⟨rfl, rfl⟩ | ⟨rfl, rfl⟩ | ⟨rfl, rfl, rfl⟩ | ⟨rfl, rfl, rfl⟩
              all_goals
                go_wp2_with (first
                  | (go_at_call 71; first | ((with_reducible refine (l1in_t zv (-60) 60 _ bv1 bv2).mono ?_); rintro e w' ⟨rfl, rfl⟩) | ((with_reducible refine (l1in_t zu (-60) 60 _ bu1 bu2).mono ?_); rintro e w' ⟨rfl, rfl⟩))
                  | (go_at_call 126; (with_reducible refine (srise_any _ _ _).mono ?_); rintro e w' ⟨rfl, rfl⟩))
                go_roundw
                case rel => exact ⟨_, _, y + 1, by omega, rfl, by go_num, HPT, H12⟩
                case measure => simp [intOf]; omega
        · obtain rfl : y = 2 := by omega
          have HP3 := Lib.hid (hk_row HP2.out)
          go_wp2_with fail
          go_roundw
          case rel => exact ⟨q2, S2, v + 1, by omega, rfl, by go_num, HP3, H8⟩
          case measure => simp [intOf]; omega
    · obtain rfl : v = N := by omega
      have hE := HP1.out
      rw [← HNE.out] at hE
      obtain ⟨rfl, hall⟩ := hk_end HSB.out hE
      have HALL := Lib.hid (fun (k : Nat) (hk : k < v) (hk2 : k < H.length) (hb : S1.getD k false = false) => show H[k] = 99 from by
        have hkW : k < ncN W T := by rw [HNE.out]; exact hk
        rw [← getD_in H 0 hk2]
        exact HG.out.none k hkW (fun hc => by rw [hall k hkW hc] at hb; cases hb))
      have D7 := hd.below H7.bel (Nat.le_refl _)
      have BF := H7.bel
      have HCL := Lib.hid (fun (k : Nat) (hk : k < v) => (H7.cell hk).1)
      clear hE hall HP1 H7
      go_wp2_with fail
      go_loop [16] (fun i => ∃ k : Nat, k ≤ v ∧ i = .int .i64 k) (fun i => v - (intOf i).toNat)
      case atStart => exact ⟨0, Nat.zero_le _, rfl⟩
      case round =>
        obtain ⟨k, hk, rfl⟩ := hrel
        by_cases hkl : k < v
        · have hkI : (k : Int) < (v : Int) := by omega
          have hkH : k < H.length := by have := HHL.out; omega
          have y1 := HCL.out k hkl
          obtain ⟨ad, rfl, ck⟩ := D7.atM hkH
          cases hb : S1.getD k false with
          | true =>
            rw [hb] at y1
            clear hb
            go_wp2_with fail
            go_round
            case rel => exact ⟨k + 1, by omega, by go_num⟩
            case measure => simp [intOf]; omega
          | false =>
            rw [HALL.out k hkl hkH hb] at ck
            rw [hb] at y1
            clear hb
            go_wp2_with fail
            go_round
            case rel => exact ⟨k + 1, by omega, by go_num⟩
            case measure => simp [intOf]; omega
        · have h0H : v0K W bs < H.length := by have := HHL.out; have := HV0.out; omega
          have h0I : ((v0K W bs : Nat) : Int) < (v : Int) := by have := HV0.out; omega
          obtain ⟨ad, rfl, ck⟩ := D7.atM h0H
          rw [← getD_in H 0 h0H, HZ0.out] at ck
          go_wp2_with fail
          go_ret
          exact ⟨rfl, BF⟩
end Go.Proofs.YtafmpgikdhlknaaGreat

/- Contracts: the reference's lesser and greater heights. -/
namespace Go.Proofs.YtafmpgikdhlknaaGreat
open Go.RowKit

theorem i_newS (w : World) (q : Int) : (w.alloc (.cells #[.int .i64 q] 3)).cell? ⟨w.heap.size, 0, none⟩ = some (.int .i64 q) := cell_of_row _ _ _ _ _ _ (heap_alloc_new w _)
set_option maxRecDepth 100000 in
set_option maxHeartbeats 4000000 in
theorem heightsLowS_any (W T : Int) (A D E : Option Addr) (c d e9 n N : Nat) (bs : List Bool) (xs ys : List Int) (w : World) (hr : Rd w A (bs.map .bool)) (ha : Rd w D (xs.map (.int .i64))) (hb : Rd w E (ys.map (.int .i64))) (hs : simpB W T bs = true) (hx : GoodH W T bs xs) (hy : GoodH W T bs ys) (hn : bs.length = n) (hN : ncN W T = N) :
    Calls Tryz.prog 106 #[.agg #[.int .i64 W, .int .i64 T, .slice A n c], .slice D N d, .slice E N e9] w (NewRd (pickL min xs ys) w) := by
  have hN49 : N ≤ 49 := by
    obtain ⟨⟨w1, w6⟩, ⟨t1, t6⟩, hlen, -⟩ := validB_iff.1 (simp_iff.1 hs).1
    have := nc_bd (n := bs.length) (⟨w1, w6, t1, t6, hlen⟩ : FldF W T bs.length)
    omega
  have HXL := Lib.hid (show xs.length = N by rw [hx.len, hN])
  have HYL := Lib.hid (show ys.length = N by rw [hy.len, hN])
  have HPL := Lib.hid (show (pickL min xs ys).length = N by unfold pickL; rw [List.length_zipWith, HXL.out, HYL.out]; simp)
  have C1 := Lib.hid (fun (z : World) (R : Rd z A (bs.map .bool)) (Q : Rd z D (xs.map (.int .i64))) => heightsOkS_t W T A D c d n N bs xs z R Q hs hx hn hN)
  have C2 := Lib.hid (fun (z : World) (R : Rd z A (bs.map .bool)) (Q : Rd z E (ys.map (.int .i64))) => heightsOkS_t W T A E c e9 n N bs ys z R Q hs hy hn hN)
  have HTK := Lib.hid (fun (k : Nat) (h1 : k < xs.length) (h2 : k < ys.length) => show (pickL min xs ys).take (k + 1) = (pickL min xs ys).take k ++ [min xs[k] ys[k]] from by
    have h3 : k < (pickL min xs ys).length := by unfold pickL; rw [List.length_zipWith]; omega
    rw [take_one_more _ k h3]
    simp [pickL])
  have X0 := C3.new w (.int .i64 W) (.int .i64 T) (.slice A n c) 25
  have B0 := bl_alloc (Below.refl w.heap.size w) (.cells #[.int .i64 W, .int .i64 T, .slice A n c] 25)
  have O1 := OwnI.empty (w.alloc (.cells #[.int .i64 W, .int .i64 T, .slice A n c] 25))
  have B1 := bl_alloc B0 (.cells #[] 3)
  have X1 := X0.alloc (.cells #[] 3)
  have hz : (w.alloc (.cells #[.int .i64 W, .int .i64 T, .slice A n c] 25)).heap.size = w.heap.size + 1 := by simp
  rw [hz] at O1
  have hbs1 : w.heap.size + 1 ≤ ((w.alloc (.cells #[.int .i64 W, .int .i64 T, .slice A n c] 25)).alloc (.cells #[] 3)).heap.size := by simp
  obtain ⟨x0, x1, x2⟩ := id X1
  clear X0 B0 hs hx hy hn hN
  go_enter Tryz.func106, Tryz.ntmps106
  go_wp2_with fail
  generalize hu : (w.alloc (.cells #[.int .i64 W, .int .i64 T, .slice A n c] 25)).alloc (.cells #[] 3) = u at *
  clear hu hz x0 x1 x2
  go_loopw [7, 8] (fun v i wr => ∃ k : Nat, k ≤ N ∧ i = .int .i64 k ∧ OwnI wr (w.heap.size + 1) v ((pickL min xs ys).take k) ∧ Below w.heap.size w wr ∧ C3 wr w.heap.size (.int .i64 W) (.int .i64 T) (.slice A n c) ∧ w.heap.size + 1 ≤ wr.heap.size) (fun _ i _ => N - (intOf i).toNat)
  case atStart => exact ⟨0, Nat.zero_le _, rfl, O1, B1, X1, hbs1⟩
  case round =>
    clear O1 hbs1 X1 B1
    obtain ⟨k, hk, rfl, O4, B4, X4, hbs4⟩ := hrel
    by_cases hlt : k < N
    · have hkI : (k : Int) < (N : Int) := by omega
      obtain ⟨x0, x1, x2⟩ := id X4
      go_wp2_with fail
      refine (C1.out _ (hr.belo B4) (ha.belo B4)).mono ?_
      rintro e w5 ⟨rfl, b5⟩
      have B5 := bl_go B4 b5
      have O5 := O4.belo b5
      have X5 := X4.belo b5
      have hbs5 : w.heap.size + 1 ≤ w5.heap.size := Nat.le_trans hbs4 b5.size
      clear x0 x1 x2 X4 O4 b5 hbs4 B4
      obtain ⟨x0, x1, x2⟩ := id X5
      go_wp2_with fail
      refine (C2.out _ (hr.belo B5) (hb.belo B5)).mono ?_
      rintro e w6 ⟨rfl, b6⟩
      have B6 := bl_go B5 b6
      have O6 := O5.belo b6
      have X6 := X5.belo b6
      have hbs6 : w.heap.size + 1 ≤ w6.heap.size := Nat.le_trans hbs5 b6.size
      clear x0 x1 x2 X5 O5 b6 hbs5 B5
      have hkx : k < xs.length := by have := HXL.out; omega
      have hky : k < ys.length := by have := HYL.out; omega
      have HT := Lib.hid (HTK.out k hkx hky)
      obtain ⟨ad, rfl, ca⟩ := ha.atM hkx
      obtain ⟨ad', rfl, cb⟩ := hb.atM hky
      generalize xs[k] = za at *
      generalize ys[k] = zb at *
      have KD := Lib.hid (fun (z : World) (Z : Below w.heap.size w z) => show z.cell? (ad.add k) = some (.int .i64 za) ∧ z.cell? (ad'.add k) = some (.int .i64 zb) from
        ⟨(Z.cell (p := ad.add k) (World.block_lt_of_cell? _ _ ca)).trans ca, (Z.cell (p := ad'.add k) (World.block_lt_of_cell? _ _ cb)).trans cb⟩)
      obtain ⟨d1, d2⟩ := KD.out _ B6
      have HLT := Lib.hid (show ((pickL min xs ys).take k).length = k by rw [List.length_take, HPL.out]; omega)
      obtain ⟨zm, hzm⟩ : ∃ zm, min za zb = zm := ⟨_, rfl⟩
      have hmm : ∀ (z : World) (ts : Array TypeId) (t : TypeId), (Builtin.min_ ts t #[.int .i64 za, .int .i64 zb]).run Tryz.prog z = .ok (.int .i64 zm) z := by
        intro z ts t
        have e : (if zb < za then zb else za) = zm := by rw [← hzm]; rw [Int.min_def]; split <;> split <;> omega
        simp [Builtin.min_, Builtin.min2, e]
      rw [hzm] at HT
      have O7 := (O6.drew).alloc (.cells #[.int .i64 zm] 3)
      have B7 : Below w.heap.size w (w6.drew.alloc (.cells #[.int .i64 zm] 3)) := bl_alloc B6.drew _
      have c7 := i_newS w6.drew zm
      have hbs7 : w.heap.size + 1 ≤ (w6.drew.alloc (.cells #[.int .i64 zm] 3)).heap.size := by have := (bl_alloc (Below.refl w6.drew.heap.size w6.drew) (.cells #[.int .i64 zm] 3)).size; exact Nat.le_trans hbs6 this
      have X7 : C3 (w6.drew.alloc (.cells #[.int .i64 zm] 3)) w.heap.size (.int .i64 W) (.int .i64 T) (.slice A n c) := C3.alloc (C3.drew X6) _
      have KH := Lib.hid (fun (z : World) (Z : Below w.heap.size w z) => KD.out z Z)
      clear ca cb hzm
      go_wp2_with fail
      go_region_held3 (fun w' => w'.cell? (ad.add k) = some (.int .i64 za) ∧ w'.cell? (ad'.add k) = some (.int .i64 zb))
        (first | (with_reducible exact KH.out _ B8) | (with_reducible exact KH.out _ B7) | (with_reducible exact KH.out _ B6) | (with_reducible exact KH.out _ B6.drew) | go_keep)
        ((refine step_app_int _ (by rfl) _ _ (by rfl) (w.heap.size + 1) _ _ (by rfl) O7 zm w6.heap.size (by rfl) c7 (by rw [HLT.out]; omega) hbs7 ?_; intro g8 k8 w8 O8 G8 e8; have B8 := grown_below B7 (Nat.le_succ _) hbs7 O7 G8; have Y8 := grown_below (Below.refl (w.heap.size + 1) _) (Nat.le_refl _) hbs7 O7 G8))
      have X8 := X7.below Y8 (Nat.lt_succ_self _)
      have hbs8 := Nat.le_trans hbs7 Y8.size
      rw [HLT.out, ← HT.out] at O8
      clear O6 O7 B7 c7 X7 Y8 X6
      go_wp2_with fail
      go_roundw
      case rel => exact ⟨k + 1, by omega, by go_num, by rw [show min k (pickL min xs ys).length = k by rw [HPL.out]; omega]; exact O8, B8, X8, hbs8⟩
      case measure => simp [intOf]; omega
    · obtain rfl : k = N := by omega
      have HT := Lib.hid (show (pickL min xs ys).take k = pickL min xs ys by rw [List.take_of_length_le (by rw [HPL.out]; omega)])
      rw [HT.out] at O4
      obtain ⟨x0, x1, x2⟩ := id X4
      have HRES := Lib.hid (O4.newRd B4 (Nat.le_succ _))
      go_wp2_with fail
      go_ret
      exact HRES.out
set_option maxRecDepth 100000 in
set_option maxHeartbeats 4000000 in
theorem heightsHighS_any (W T : Int) (A D E : Option Addr) (c d e9 n N : Nat) (bs : List Bool) (xs ys : List Int) (w : World) (hr : Rd w A (bs.map .bool)) (ha : Rd w D (xs.map (.int .i64))) (hb : Rd w E (ys.map (.int .i64))) (hs : simpB W T bs = true) (hx : GoodH W T bs xs) (hy : GoodH W T bs ys) (hn : bs.length = n) (hN : ncN W T = N) :
    Calls Tryz.prog 135 #[.agg #[.int .i64 W, .int .i64 T, .slice A n c], .slice D N d, .slice E N e9] w (NewRd (pickL max xs ys) w) := by
  have hN49 : N ≤ 49 := by
    obtain ⟨⟨w1, w6⟩, ⟨t1, t6⟩, hlen, -⟩ := validB_iff.1 (simp_iff.1 hs).1
    have := nc_bd (n := bs.length) (⟨w1, w6, t1, t6, hlen⟩ : FldF W T bs.length)
    omega
  have HXL := Lib.hid (show xs.length = N by rw [hx.len, hN])
  have HYL := Lib.hid (show ys.length = N by rw [hy.len, hN])
  have HPL := Lib.hid (show (pickL max xs ys).length = N by unfold pickL; rw [List.length_zipWith, HXL.out, HYL.out]; simp)
  have C1 := Lib.hid (fun (z : World) (R : Rd z A (bs.map .bool)) (Q : Rd z D (xs.map (.int .i64))) => heightsOkS_t W T A D c d n N bs xs z R Q hs hx hn hN)
  have C2 := Lib.hid (fun (z : World) (R : Rd z A (bs.map .bool)) (Q : Rd z E (ys.map (.int .i64))) => heightsOkS_t W T A E c e9 n N bs ys z R Q hs hy hn hN)
  have HTK := Lib.hid (fun (k : Nat) (h1 : k < xs.length) (h2 : k < ys.length) => show (pickL max xs ys).take (k + 1) = (pickL max xs ys).take k ++ [max xs[k] ys[k]] from by
    have h3 : k < (pickL max xs ys).length := by unfold pickL; rw [List.length_zipWith]; omega
    rw [take_one_more _ k h3]
    simp [pickL])
  have X0 := C3.new w (.int .i64 W) (.int .i64 T) (.slice A n c) 25
  have B0 := bl_alloc (Below.refl w.heap.size w) (.cells #[.int .i64 W, .int .i64 T, .slice A n c] 25)
  have O1 := OwnI.empty (w.alloc (.cells #[.int .i64 W, .int .i64 T, .slice A n c] 25))
  have B1 := bl_alloc B0 (.cells #[] 3)
  have X1 := X0.alloc (.cells #[] 3)
  have hz : (w.alloc (.cells #[.int .i64 W, .int .i64 T, .slice A n c] 25)).heap.size = w.heap.size + 1 := by simp
  rw [hz] at O1
  have hbs1 : w.heap.size + 1 ≤ ((w.alloc (.cells #[.int .i64 W, .int .i64 T, .slice A n c] 25)).alloc (.cells #[] 3)).heap.size := by simp
  obtain ⟨x0, x1, x2⟩ := id X1
  clear X0 B0 hs hx hy hn hN
  go_enter Tryz.func135, Tryz.ntmps135
  go_wp2_with fail
  generalize hu : (w.alloc (.cells #[.int .i64 W, .int .i64 T, .slice A n c] 25)).alloc (.cells #[] 3) = u at *
  clear hu hz x0 x1 x2
  go_loopw [7, 8] (fun v i wr => ∃ k : Nat, k ≤ N ∧ i = .int .i64 k ∧ OwnI wr (w.heap.size + 1) v ((pickL max xs ys).take k) ∧ Below w.heap.size w wr ∧ C3 wr w.heap.size (.int .i64 W) (.int .i64 T) (.slice A n c) ∧ w.heap.size + 1 ≤ wr.heap.size) (fun _ i _ => N - (intOf i).toNat)
  case atStart => exact ⟨0, Nat.zero_le _, rfl, O1, B1, X1, hbs1⟩
  case round =>
    clear O1 hbs1 X1 B1
    obtain ⟨k, hk, rfl, O4, B4, X4, hbs4⟩ := hrel
    by_cases hlt : k < N
    · have hkI : (k : Int) < (N : Int) := by omega
      obtain ⟨x0, x1, x2⟩ := id X4
      go_wp2_with fail
      refine (C1.out _ (hr.belo B4) (ha.belo B4)).mono ?_
      rintro e w5 ⟨rfl, b5⟩
      have B5 := bl_go B4 b5
      have O5 := O4.belo b5
      have X5 := X4.belo b5
      have hbs5 : w.heap.size + 1 ≤ w5.heap.size := Nat.le_trans hbs4 b5.size
      clear x0 x1 x2 X4 O4 b5 hbs4 B4
      obtain ⟨x0, x1, x2⟩ := id X5
      go_wp2_with fail
      refine (C2.out _ (hr.belo B5) (hb.belo B5)).mono ?_
      rintro e w6 ⟨rfl, b6⟩
      have B6 := bl_go B5 b6
      have O6 := O5.belo b6
      have X6 := X5.belo b6
      have hbs6 : w.heap.size + 1 ≤ w6.heap.size := Nat.le_trans hbs5 b6.size
      clear x0 x1 x2 X5 O5 b6 hbs5 B5
      have hkx : k < xs.length := by have := HXL.out; omega
      have hky : k < ys.length := by have := HYL.out; omega
      have HT := Lib.hid (HTK.out k hkx hky)
      obtain ⟨ad, rfl, ca⟩ := ha.atM hkx
      obtain ⟨ad', rfl, cb⟩ := hb.atM hky
      generalize xs[k] = za at *
      generalize ys[k] = zb at *
      have KD := Lib.hid (fun (z : World) (Z : Below w.heap.size w z) => show z.cell? (ad.add k) = some (.int .i64 za) ∧ z.cell? (ad'.add k) = some (.int .i64 zb) from
        ⟨(Z.cell (p := ad.add k) (World.block_lt_of_cell? _ _ ca)).trans ca, (Z.cell (p := ad'.add k) (World.block_lt_of_cell? _ _ cb)).trans cb⟩)
      obtain ⟨d1, d2⟩ := KD.out _ B6
      have HLT := Lib.hid (show ((pickL max xs ys).take k).length = k by rw [List.length_take, HPL.out]; omega)
      obtain ⟨zm, hzm⟩ : ∃ zm, max za zb = zm := ⟨_, rfl⟩
      have hmm : ∀ (z : World) (ts : Array TypeId) (t : TypeId), (Builtin.max_ ts t #[.int .i64 za, .int .i64 zb]).run Tryz.prog z = .ok (.int .i64 zm) z := by
        intro z ts t
        have e : (if za < zb then zb else za) = zm := by rw [← hzm]; rw [Int.max_def]; split <;> split <;> omega
        simp [Builtin.max_, Builtin.max2, e]
      rw [hzm] at HT
      have O7 := (O6.drew).alloc (.cells #[.int .i64 zm] 3)
      have B7 : Below w.heap.size w (w6.drew.alloc (.cells #[.int .i64 zm] 3)) := bl_alloc B6.drew _
      have c7 := i_newS w6.drew zm
      have hbs7 : w.heap.size + 1 ≤ (w6.drew.alloc (.cells #[.int .i64 zm] 3)).heap.size := by have := (bl_alloc (Below.refl w6.drew.heap.size w6.drew) (.cells #[.int .i64 zm] 3)).size; exact Nat.le_trans hbs6 this
      have X7 : C3 (w6.drew.alloc (.cells #[.int .i64 zm] 3)) w.heap.size (.int .i64 W) (.int .i64 T) (.slice A n c) := C3.alloc (C3.drew X6) _
      have KH := Lib.hid (fun (z : World) (Z : Below w.heap.size w z) => KD.out z Z)
      clear ca cb hzm
      go_wp2_with fail
      go_region_held3 (fun w' => w'.cell? (ad.add k) = some (.int .i64 za) ∧ w'.cell? (ad'.add k) = some (.int .i64 zb))
        (first | (with_reducible exact KH.out _ B8) | (with_reducible exact KH.out _ B7) | (with_reducible exact KH.out _ B6) | (with_reducible exact KH.out _ B6.drew) | go_keep)
        ((refine step_app_int _ (by rfl) _ _ (by rfl) (w.heap.size + 1) _ _ (by rfl) O7 zm w6.heap.size (by rfl) c7 (by rw [HLT.out]; omega) hbs7 ?_; intro g8 k8 w8 O8 G8 e8; have B8 := grown_below B7 (Nat.le_succ _) hbs7 O7 G8; have Y8 := grown_below (Below.refl (w.heap.size + 1) _) (Nat.le_refl _) hbs7 O7 G8))
      have X8 := X7.below Y8 (Nat.lt_succ_self _)
      have hbs8 := Nat.le_trans hbs7 Y8.size
      rw [HLT.out, ← HT.out] at O8
      clear O6 O7 B7 c7 X7 Y8 X6
      go_wp2_with fail
      go_roundw
      case rel => exact ⟨k + 1, by omega, by go_num, by rw [show min k (pickL max xs ys).length = k by rw [HPL.out]; omega]; exact O8, B8, X8, hbs8⟩
      case measure => simp [intOf]; omega
    · obtain rfl : k = N := by omega
      have HT := Lib.hid (show (pickL max xs ys).take k = pickL max xs ys by rw [List.take_of_length_le (by rw [HPL.out]; omega)])
      rw [HT.out] at O4
      obtain ⟨x0, x1, x2⟩ := id X4
      have HRES := Lib.hid (O4.newRd B4 (Nat.le_succ _))
      go_wp2_with fail
      go_ret
      exact HRES.out
end Go.Proofs.YtafmpgikdhlknaaGreat

/- Contract: the reference's TilingBy, of heights that are right. -/
namespace Go.Proofs.YtafmpgikdhlknaaGreat
open Go.RowKit

set_option maxRecDepth 100000 in
set_option maxHeartbeats 1000000 in
theorem sLaidBareW_any (W T : Int) (A : Option Addr) (c n : Nat) (bs : List Bool) (w : World) (hr : Rd w A (bs.map .bool)) (hv : validB W T bs = true) (hn : bs.length = n) :
    Calls Tryz.prog 85 #[.agg #[.int .i64 W, .int .i64 T, .slice A n c]] w (NewWI (List.replicate n 0) n w) := by
  obtain ⟨h1, h2, h3, h4, hb36, hl⟩ := valid_len hv
  have hpos := (mul_bd h1 h2 h3 h4).1
  have X0 := C3.new w (.int .i64 W) (.int .i64 T) (.slice A n c) 25
  have B0 := bl_alloc (Below.refl w.heap.size w) (.cells #[.int .i64 W, .int .i64 T, .slice A n c] 25)
  have HRV := Lib.hid (sRegionValid_any W T A c bs _ (hr.belo B0) (by unfold maxLen; omega))
  rw [hv, hn] at HRV
  have hn1 : 1 ≤ n := by omega
  have hn36 : n ≤ 36 := by omega
  obtain ⟨i0, hi, hz0, hz1, hz2⟩ := info_parts Tryz.infoI
  have hb1 : i0.bytes * n ≤ 281474976710656 := by rw [hz2]; omega
  have HZ := Lib.hid (And.intro hz0 (And.intro hz1 hz2))
  obtain ⟨y0, y1, y2⟩ := id X0
  clear hz0 hz1 hz2 hl hv hn hb36 hpos
  go_enter Tryz.func85, Tryz.ntmps85
  go_wp2_with fail
  refine HRV.out.mono ?_
  rintro e w1 ⟨rfl, b1⟩
  have B1 := bl_go B0 b1
  clear y0 y1 y2
  obtain ⟨x0, x1, x2⟩ := X0.belo b1
  go_wp2_with (at_make; refine wpList_make_full _ rfl _ _ 29 rfl w1.heap.size 3 i0 (.int .i64 0) 1 Tryz.underlying29 hi HZ.out.1 HZ.out.2.1 .i64 .i64 _ _ n rfl rfl rfl rfl hb1 (by unfold maxLen; omega) (Nat.le_refl _) ?_; intro w2 hown2 hgrow2)
  go_ret
  have hw2 := Wr.of_own hown2
  rw [show (Value.int .i64 0).cells = #[.int .i64 0] from rfl, toList_madeCells_one] at hw2
  have hw3 : Wr w2 w1.heap.size 3 (some ⟨w1.heap.size, 0, none⟩) ((List.replicate n 0).map (.int .i64)) := by simpa using hw2
  obtain ⟨g, eg, -, hgs, -⟩ := hw3.form (by simp; omega)
  injection eg with eg; injection eg with eg
  exact ⟨w1.heap.size, rfl, hw3.lower B1.size, B1.size, by omega, B1.grown hgrow2 B1.size (fun k hk => by cases hk)⟩
/-- a list of numbers under way, in a block of its own -/
structure TbW (w : World) (W T : Int) (A : Option Addr) (n c g N : Nat) (M : List Int) (wr : World) : Prop where
  out : Wr wr (w.heap.size + 1) 3 (some ⟨g, 0, none⟩) (M.map (.int .i64))
  box : C3 wr w.heap.size (.int .i64 W) (.int .i64 T) (.slice A n c)
  bel : Below w.heap.size w wr
  lo : w.heap.size < g
  len : M.length = N
section
variable {w wr w' : World} {W T : Int} {A : Option Addr} {n c g N : Nat} {M : List Int}
theorem TbW.belo (h : TbW w W T A n c g N M wr) (hb : Below wr.heap.size wr w') : TbW w W T A n c g N M w' := ⟨h.out.belo hb, h.box.belo hb, bl_go h.bel hb, h.lo, h.len⟩
theorem TbW.set (h : TbW w W T A n c g N M wr) (k : Nat) (z : Int) : TbW w W T A n c g N (M.set k z) (wr.setCell ⟨g, k, none⟩ (.int .i64 z)) := by
  have h1 := h.lo
  exact ⟨by rw [List.map_set]; exact h.out.store k _, h.box.set (by simp; omega) _, h.bel.setCell (by simp; omega) _, h1, by rw [List.length_set]; exact h.len⟩
theorem TbW.cell (h : TbW w W T A n c g N M wr) {k : Nat} (hk : k < N) : wr.cell? ⟨g, k, none⟩ = some (.int .i64 (M.getD k 0)) ∧ wr.frozen? ⟨g, k, none⟩ = false := by
  have hm : k < M.length := by rw [h.len]; exact hk
  have hc := h.out.rd.cellEM (k := k) hm
  rw [Nat.zero_add] at hc
  obtain ⟨g', e, -, -, hf⟩ := h.out.form (by intro e; have := congrArg List.length e; simp at this; rw [this] at hm; simp at hm)
  injection e with e; injection e with e
  subst e
  exact ⟨by rw [hc, getD_in _ _ hm], hf k⟩
end
/-- the sides ahead of (k, y) -/
def AhP (k y : Nat) : Nat → Bool → Prop := fun v b => v < k ∨ (v = k ∧ bN b < y)
/-- a list of numbers with true -/
def TilP (n : Nat) (L : List Int) (w : World) (e : Ending) (w' : World) : Prop :=
  ∃ g : Nat, e = .returned (.tuple #[.slice (some ⟨g, 0, none⟩) n n, .bool true]) ∧ Wr w' w.heap.size 3 (some ⟨g, 0, none⟩) (L.map (.int .i64)) ∧ w.heap.size ≤ g ∧ g < w'.heap.size ∧ Below w.heap.size w w'
set_option maxRecDepth 100000 in
set_option maxHeartbeats 8000000 in
theorem tilingByS_any (W T : Int) (A D : Option Addr) (c d n N : Nat) (bs : List Bool) (H : List Int) (w : World) (hr : Rd w A (bs.map .bool)) (hd : Rd w D (H.map (.int .i64))) (hs : simpB W T bs = true) (h : GoodH W T bs H) (hn : bs.length = n) (hN : ncN W T = N) :
    Calls Tryz.prog 105 #[.agg #[.int .i64 W, .int .i64 T, .slice A n c], .slice D N d] w (TilP n (tilH W T bs H) w) := by
  obtain ⟨hval, -, -⟩ := simp_iff.1 hs
  obtain ⟨⟨w1, w6⟩, ⟨t1, t6⟩, hlen, -⟩ := validB_iff.1 hval
  have hf : FldF W T n := ⟨w1, w6, t1, t6, by rw [← hn]; exact hlen⟩
  have n36 : n ≤ 36 := hf.bd
  obtain ⟨-, hN1, hN49⟩ := nc_bd hf
  rw [hN] at hN1 hN49
  have HFG := Lib.hid (valid_fld hval)
  have HG := Lib.hid h
  have HBD := Lib.hid (fun (v : Nat) (hv : v < ncN W T) => show -60 ≤ H.getD v 0 ∧ H.getD v 0 ≤ 99 from by
    by_cases hc : corK W T bs v
    · have := h.bd hs hv hc; omega
    · rw [h.none v hv hc]; omega)
  have CO := Lib.hid (fun (z : World) (R : Rd z A (bs.map .bool)) (R2 : Rd z D (H.map (.int .i64))) => heightsOkS_t W T A D c d n N bs H z R R2 hs h hn hN)
  have CB := Lib.hid (fun (z : World) (R : Rd z A (bs.map .bool)) => sLaidBareW_any W T A c n bs z R hval hn)
  have CE := Lib.hid (fun (v : Nat) (b : Bool) (hv : v < ncN W T) (z : World) (R : Rd z A (bs.map .bool)) => edge_t W T A c n bs v b z R hf hn hv)
  have CST := Lib.hid (fun (a : Nat) (ha : a < n) (q : Int) (z : World) => l2step_any W T (.slice A n c) a q z w1 w6 t1 t6 (by omega) (by have := hf.len; omega))
  have HHL := Lib.hid (show H.length = N from by rw [h.len, hN])
  have HST := Lib.hid (by_start (W := W) (T := T) (bs := bs) (hs := H) (P := AhP 0 0) (fun v b hp => by rcases hp with hp | ⟨-, hp⟩ <;> omega))
  rw [hn] at HST
  have HNE := Lib.hid hN
  have HBn := Lib.hid hn
  have X0 := C3.new w (.int .i64 W) (.int .i64 T) (.slice A n c) 25
  have B0 := bl_alloc (Below.refl w.heap.size w) (.cells #[.int .i64 W, .int .i64 T, .slice A n c] 25)
  have hbs1 : w.heap.size + 1 ≤ (w.alloc (.cells #[.int .i64 W, .int .i64 T, .slice A n c] 25)).heap.size := by simp
  obtain ⟨x0, x1, x2⟩ := id X0
  rw [hN] at CE HBD
  clear hval hlen hf hs h hN hn
  go_enter Tryz.func105, Tryz.ntmps105
  go_wp2_with fail
  generalize w.alloc (.cells #[.int .i64 W, .int .i64 T, .slice A n c] 25) = u at *
  refine (CO.out _ (hr.belo B0) (hd.belo B0)).mono ?_
  rintro e w2 ⟨rfl, b2⟩
  have B2 := bl_go B0 b2
  have X2 := X0.belo b2
  have hbs2 : w.heap.size + 1 ≤ w2.heap.size := Nat.le_trans hbs1 b2.size
  clear x0 x1 x2 X0 B0 b2 CO hbs1
  obtain ⟨x0, x1, x2⟩ := id X2
  go_wp2_with fail
  refine (CB.out _ (hr.belo B2)).mono ?_
  rintro e w3 ⟨g, rfl, W3, hg3, hgs3, b3⟩
  have H4 : TbW w W T A n c g n (List.replicate n 0) w3 := ⟨W3.lower hbs2, X2.belo b3, bl_go B2 b3, by omega, by simp⟩
  clear x0 x1 x2 X2 B2 b3 CB W3 hbs2 hg3 hgs3
  go_wp2_with fail
  go_loopw [7] (fun i wr => ∃ (v : Nat) (M : List Int), v ≤ N ∧ i = .int .i64 v ∧ Hid (ByI W T bs H M (AhP v 0)) ∧ TbW w W T A n c g n M wr) (fun i _ => N - (intOf i).toNat)
  case atStart => exact ⟨0, _, Nat.zero_le _, rfl, HST, H4⟩
  case round =>
    clear H4
    obtain ⟨v, M1, hv, rfl, HP1, H7⟩ := hrel
    by_cases hlt : v < N
    · have hvI : (v : Int) < (N : Int) := by omega
      have hvW : v < ncN W T := by rw [HNE.out]; exact hlt
      obtain ⟨wp, hwp⟩ : ∃ wp : World, wp = wr := ⟨_, rfl⟩
      subst hwp
      go_wp2_with fail
      go_loopw [8] (fun i wr => ∃ (M : List Int) (y : Nat), y ≤ 2 ∧ i = .int .i64 y ∧ Hid (ByI W T bs H M (AhP v y)) ∧ TbW w W T A n c g n M wr) (fun i _ => 2 - (intOf i).toNat)
      case atStart => exact ⟨M1, 0, Nat.zero_le _, rfl, HP1, H7⟩
      case round =>
        clear H7 HP1
        obtain ⟨M2, y, hy, rfl, HP2, H8⟩ := hrel
        by_cases hy2 : y < 2
        · obtain ⟨b, hb, hbN⟩ : ∃ b, ((y : Int) == 1) = b ∧ y = bN b := by
            rcases (show y = 0 ∨ y = 1 by omega) with rfl | rfl
            · exact ⟨false, rfl, rfl⟩
            · exact ⟨true, rfl, rfl⟩
          have HBN := Lib.hid hbN
          have hyI : (y : Int) < 2 := by omega
          have CEb := Lib.hid (CE.out v b hlt wr (hr.belo H8.bel))
          have HKEEP := Lib.hid (fun (hc : crH W T bs H v b = false) => show ByI W T bs H M2 (AhP v (y + 1)) from by_keep HP2.out (fun v' b' _ hc' hp => by
            rcases hp with hp | ⟨hp1, hp2⟩
            · exact .inl hp
            · rcases Nat.lt_or_ge (bN b') y with h4 | h4
              · exact .inr ⟨hp1, h4⟩
              · have : b' = b := bN_inj (by omega)
                rw [hp1, this, hc] at hc'; cases hc'))
          have HSET := Lib.hid (fun (hc : crH W T bs H v b = true) {a k : Nat} (ha : a < bs.length) (hkl : k < bs.length) (a1 : (a : Int) % W = slx W v b ∧ (a : Int) / W = cY W v) (c1 : (k : Int) % W = srx W v ∧ (k : Int) / W = sry W v b) =>
            show ByI W T bs H ((M2.set a (d0B b)).set k (backZ (d0B b))) (AhP v (y + 1)) from by_set HFG.out HG.out.ok HP2.out hvW hc ha hkl a1 c1 (fun v' b' _ hc' hp => by
            rcases hp with hp | ⟨hp1, hp2⟩
            · exact .inl (.inl hp)
            · rcases Nat.lt_or_ge (bN b') y with h4 | h4
              · exact .inl (.inr ⟨hp1, h4⟩)
              · exact .inr ⟨hp1, bN_inj (by omega)⟩))
          have HIU := Lib.hid (fun (h : sdI W T bs v b = true) => show sdU W T bs v b = true ∧ ∃ u : Nat, sdT W v b = u ∧ u < N ∧ crH W T bs H v b = (decide (H.getD u 0 - H.getD v 0 = 3) || decide (H.getD u 0 - H.getD v 0 = -3)) from by
            have hsu := sdI_use h
            obtain ⟨u, eu, hu, -, -, -, -⟩ := sd_to HFG.out hvW hsu
            exact ⟨hsu, u, eu, by rw [← HNE.out]; exact hu, by unfold crH crD; rw [eu, Int.toNat_natCast, h, Bool.true_and]⟩)
          have HCF := Lib.hid (fun (h : sdI W T bs v b = false) => show crH W T bs H v b = false from by unfold crH; rw [h]; rfl)
          have HCELL := Lib.hid (fun (hc : crH W T bs H v b = true) => show ∃ a k : Nat, edA W T bs v b = a ∧ edB W T bs v b = k ∧ a < n ∧ k < n ∧ a ≠ k ∧ (∀ w : Int, 1 ≤ w → w ≤ 4 → (stepZ W T a w = k ↔ w = d0B b)) ∧ ByI W T bs H ((M2.set a (d0B b)).set k (backZ (d0B b))) (AhP v (y + 1)) from by
            have hi : sdI W T bs v b = true := by
              cases h : sdI W T bs v b with
              | true => rfl
              | false => rw [HCF.out h] at hc; cases hc
            obtain ⟨a, k, ea, ek, ha, hk, hak, ha1, hk1, -, -, hst⟩ := sd_cells HFG.out hi
            have h2 := HSET.out hc ha hk ha1 hk1
            unfold sdI at hi
            rw [Bool.and_eq_true] at hi
            rw [HBn.out] at ha hk
            exact ⟨a, k, by unfold edA; rw [if_pos hi.1, ea], by unfold edB; rw [if_pos hi.2, ek], ha, hk, hak, hst, h2⟩)
          have hq4 : d0B b = 1 ∨ d0B b = 4 := by unfold d0B; cases b <;> simp
          obtain ⟨x0, x1, x2⟩ := id H8.box
          generalize sdT W v b = tt at *
          generalize sdU W T bs v b = su at *
          generalize sdI W T bs v b = si at *
          generalize edA W T bs v b = za at *
          generalize edB W T bs v b = zb at *
          generalize edD W v b = dd at *
          generalize crH W T bs H v b = cr at *
          generalize d0B b = q0 at *
          clear hbN HSET
          go_wp2_with fail
          refine CEb.out.mono ?_
          rintro e w9 ⟨rfl, b9⟩
          have H9 := H8.belo b9
          clear x0 x1 x2 H8 b9 CEb
          go_upto_region 11 with fail
          go_cut [72] from 29 to 91 (fun s72 wx => s72 = .bool cr ∧ TbW w W T A n c g n M2 wx)
          case first =>
            cases si with
            | false =>
              have HC := Lib.hid (HCF.out rfl)
              clear HIU HCF HCELL
              cases su with
              | true =>
                (refine region_bw (by kernel_rfl) (by kernel_rfl) ?_; (repeat (first | go_big_quiet_skip | (go_big_quiet_want; go_big_quiet_op; first | go_big_quiet_on | (refine ⟨.int .i64 0, fun zz => ?_, ?_⟩; (fail); go_big_quiet_on)))); refine wpQuiet_nil ?_; intro wz hw'; obtain ⟨zw, hw''⟩ := hw'; subst hw'')
                go_wp2_with fail
                go_meet
                exact ⟨by rw [HC.out], H9.belo zw.ok⟩
              | false =>
                (refine region_bw (by kernel_rfl) (by kernel_rfl) ?_; (repeat (first | go_big_quiet_skip | (go_big_quiet_want; go_big_quiet_op; first | go_big_quiet_on | (refine ⟨.int .i64 0, fun zz => ?_, ?_⟩; (fail); go_big_quiet_on)))); refine wpQuiet_nil ?_; intro wz hw'; obtain ⟨zw, hw''⟩ := hw'; subst hw'')
                go_wp2_with fail
                go_meet
                exact ⟨by rw [HC.out], H9.belo zw.ok⟩
            | true =>
              obtain ⟨rfl, u, rfl, huk, hC⟩ := HIU.out rfl
              have huI : (u : Int) < (N : Int) := by omega
              have hbv := HBD.out v hlt
              have hbu := HBD.out u huk
              have hvH : v < H.length := by have := HHL.out; omega
              have huH : u < H.length := by have := HHL.out; omega
              obtain ⟨ad, rfl, cv⟩ := (hd.below H9.bel (Nat.le_refl _)).atM hvH
              obtain ⟨ad', e', cu⟩ := (hd.below H9.bel (Nat.le_refl _)).atM huH
              injection e' with e'
              subst e'
              rw [getD_in _ _ hvH] at hbv hC
              rw [getD_in _ _ huH] at hbu hC
              generalize H[v] = zv at *
              generalize H[u] = zu at *
              obtain ⟨dz, hdz⟩ : ∃ dz, zu - zv = dz := ⟨_, rfl⟩
              rw [hdz] at hC
              have hwr : IntKind.i64.wrap (zu - zv) = dz := by rw [IntWalk.i64_in _ (by omega)]; exact hdz
              have HC := Lib.hid hC
              have hcvl := World.block_lt_of_cell? _ _ cv
              have hcul := World.block_lt_of_cell? _ _ cu
              have L0 : ∀ z : BW w9, z.wo.cell? (ad.add v) = some (.int .i64 zv) := fun z => (z.ok.cell (p := ad.add v) hcvl).trans cv
              have L1 : ∀ z : BW w9, z.wo.cell? (ad.add u) = some (.int .i64 zu) := fun z => (z.ok.cell (p := ad.add u) hcul).trans cu
              clear hC hvH huH hbv hbu cv cu hdz HIU HCF HCELL
              by_cases h3 : dz = 3
              · subst h3
                have HC2 := Lib.hid (show cr = true from HC.out)
                (refine region_bw (by kernel_rfl) (by kernel_rfl) ?_; (repeat (first | go_big_quiet_skip | (go_big_quiet_want; go_big_quiet_op; first | go_big_quiet_on | (refine ⟨.int .i64 0, fun zz => ?_, ?_⟩; (fail); go_big_quiet_on)))); refine wpQuiet_nil ?_; intro wz hw'; obtain ⟨zw, hw''⟩ := hw'; subst hw'')
                go_wp2_with fail
                go_meet
                exact ⟨by rw [HC2.out], H9.belo zw.ok⟩
              · have h3b : (dz == 3) = false := by rw [beq_eq_false_iff_ne]; exact h3
                have HC2 := Lib.hid (show (dz == -3) = cr by rw [HC.out, decide_eq_false h3, Bool.false_or]; rfl)
                clear h3
                (refine region_bw (by kernel_rfl) (by kernel_rfl) ?_; (repeat (first | go_big_quiet_skip | (go_big_quiet_want; go_big_quiet_op; first | go_big_quiet_on | (refine ⟨.int .i64 0, fun zz => ?_, ?_⟩; (fail); go_big_quiet_on)))); refine wpQuiet_nil ?_; intro wz hw'; obtain ⟨zw, hw''⟩ := hw'; subst hw'')
                go_wp2_with fail
                go_meet
                exact ⟨by rw [← HC2.out], H9.belo zw.ok⟩
          case rest =>
            obtain ⟨rfl, H10⟩ := hcut
            clear H9 HIU HCF
            cases cr with
            | false =>
              have HP3 := Lib.hid (HKEEP.out rfl)
              go_wp2_with fail
              go_roundw
              case rel => exact ⟨M2, y + 1, by omega, by go_num, HP3, H10⟩
              case measure => simp [intOf]; omega
            | true =>
              obtain ⟨a, k, rfl, rfl, ha, hk, hak, hst, hby⟩ := HCELL.out rfl
              have HBY := Lib.hid hby
              have HST2 := Lib.hid hst
              have HQ := Lib.hid hq4
              clear hby hst HCELL HKEEP HP2
              have haI : (a : Int) < (n : Int) := by omega
              have hkI : (k : Int) < (n : Int) := by omega
              go_wp2_with fail
              go_loopw [15] (fun i wr => ∃ (st : Nat) (M : List Int), 1 ≤ st ∧ st ≤ 5 ∧ i = .int .i64 st ∧ Hid (M = if q0 < (st : Int) then (M2.set a q0).set k (backZ q0) else M2) ∧ TbW w W T A n c g n M wr) (fun i _ => 5 - (intOf i).toNat)
              case atStart => exact ⟨1, M2, Nat.le_refl _, by omega, rfl, Lib.hid (by rw [if_neg (by omega)]), H10⟩
              case round =>
                clear H10
                obtain ⟨st, M, hs1, hs5, rfl, HM0, H11⟩ := hrel
                by_cases hst4 : st ≤ 4
                · have hstI : (st : Int) ≤ 4 := by omega
                  have CS2 := Lib.hid (CST.out a ha st wr)
                  have hiff := HST2.out st (by omega) (by omega)
                  obtain ⟨x0, x1, x2⟩ := id H11.box
                  by_cases hq : (st : Int) = q0
                  · have hsv := hiff.2 hq
                    rw [hsv] at CS2
                    have HQ0 := Lib.hid hq
                    have HM1 := Lib.hid (show M = M2 by rw [HM0.out, if_neg (by omega)])
                    clear hsv hiff hq
                    go_wp2_with fail
                    refine CS2.out.mono ?_
                    rintro e w12 ⟨rfl, b12⟩
                    have H12 := H11.belo b12
                    clear x0 x1 x2 H11 b12 CS2
                    obtain ⟨y1, y2⟩ := H12.cell ha
                    have H13 := H12.set a (st : Int)
                    obtain ⟨y3, y4⟩ := H13.cell hk
                    have H14 := H13.set k (backZ (st : Int))
                    go_wp2_with (go_at_call 123; refine (sback_any _ _ (by omega) (by omega)).mono ?_; rintro e w' ⟨rfl, rfl⟩)
                    go_roundw
                    case rel => exact ⟨st + 1, _, by omega, by omega, by go_num, Lib.hid (by rw [if_pos (by have := HQ0.out; omega), ← HQ0.out, HM1.out]), H14⟩
                    case measure => simp [intOf]; omega
                  · have hsv : (stepZ W T a st == (k : Int)) = false := by rw [beq_eq_false_iff_ne]; exact fun e => hq (hiff.1 e)
                    have HM := Lib.hid (show (if q0 < (st : Int) then (M2.set a q0).set k (backZ q0) else M2) = (if q0 < ((st + 1 : Nat) : Int) then (M2.set a q0).set k (backZ q0) else M2) by
                      by_cases h1 : q0 < (st : Int)
                      · rw [if_pos h1, if_pos (by omega)]
                      · rw [if_neg h1, if_neg (by omega)])
                    generalize stepZ W T a st = sv at CS2 hsv
                    clear hq hiff
                    have HM1 := Lib.hid (HM0.out.trans HM.out)
                    go_wp2_with fail
                    refine CS2.out.mono ?_
                    rintro e w12 ⟨rfl, b12⟩
                    have H12 := H11.belo b12
                    clear x0 x1 x2 H11 b12 CS2
                    go_wp2_with fail
                    go_roundw
                    case rel => exact ⟨st + 1, M, by omega, by omega, by go_num, HM1, H12⟩
                    case measure => simp [intOf]; omega
                · obtain rfl : st = 5 := by omega
                  have HM1 := Lib.hid (show M = (M2.set a q0).set k (backZ q0) by rw [HM0.out, if_pos (by have := HQ.out; omega)])
                  rw [HM1.out] at H11
                  go_wp2_with fail
                  go_roundw
                  case rel => exact ⟨_, y + 1, by omega, by go_num, HBY, H11⟩
                  case measure => simp [intOf]; omega
        · obtain rfl : y = 2 := by omega
          have HP3 := Lib.hid (show ByI W T bs H M2 (AhP (v + 1) 0) from by_keep HP2.out (fun v' b' _ _ hp => by
            rcases hp with hp | ⟨-, hp⟩
            · rcases Nat.lt_or_ge v' v with h | h
              · exact .inl h
              · exact .inr ⟨by omega, by cases b' <;> simp [bN]⟩
            · omega))
          go_wp2_with fail
          go_roundw
          case rel => exact ⟨v + 1, M2, by omega, by go_num, HP3, H8⟩
          case measure => simp [intOf]; omega
    · obtain rfl : v = N := by omega
      have HM := Lib.hid (show M1 = tilH W T bs H from by_all HFG.out HG.out.ok HP1.out (fun v' b' hv' _ => .inl (by have := HNE.out; omega)))
      have hW := H7.out
      rw [HM.out] at hW
      have hgs : g < wr.heap.size := by
        obtain ⟨g', eg, -, hgs, -⟩ := H7.out.form (by intro e; have := congrArg List.length e; simp at this; have h9 := H7.len; rw [this] at h9; simp at h9; have := HFG.out; have := mul_bd w1 w6 t1 t6; have := HBn.out; have := HFG.out.len; omega)
        injection eg with eg; injection eg with eg
        omega
      have HRES := Lib.hid (show TilP n (tilH W T bs H) w (.returned (.tuple #[.slice (some ⟨g, 0, none⟩) n n, .bool true])) wr from ⟨g, rfl, hW.lower (Nat.le_succ _), Nat.le_of_lt H7.lo, hgs, H7.bel⟩)
      clear hW hgs
      go_wp2_with fail
      go_ret2
      exact HRES.out
end Go.Proofs.YtafmpgikdhlknaaGreat

/- Contracts: the reference's tilings of the lesser and of the greater heights. -/
namespace Go.Proofs.YtafmpgikdhlknaaGreat
open Go.RowKit

/-- a result whose length is known -/
theorem NewRd.toNum {xs : List Int} {N : Nat} {w w' : World} {e : Ending} (h : NewRd xs w e w') (hN : xs.length = N) : ∃ (A : Option Addr) (c : Nat), e = .returned (.slice A N c) ∧ Rd w' A (xs.map (.int .i64)) ∧ Below w.heap.size w w' := by
  obtain ⟨A, c, he, h1, h2, -⟩ := h
  exact ⟨A, c, by rw [he, hN], h1, h2⟩
theorem calls_toN {P : Program} {f : FuncId} {args : Array Value} {xs : List Int} {N : Nat} {w : World} (h : Calls P f args w (NewRd xs w)) (hN : xs.length = N) : Calls P f args w fun e w' => ∃ (A : Option Addr) (c : Nat), e = .returned (.slice A N c) ∧ Rd w' A (xs.map (.int .i64)) ∧ Below w.heap.size w w' :=
  h.mono fun _ _ h => h.toNum hN
set_option maxRecDepth 100000 in
set_option maxHeartbeats 4000000 in
theorem tilingLowS_any (W T : Int) (A D E : Option Addr) (c d e9 n : Nat) (bs : List Bool) (L M : List Int) (w : World) (hr : Rd w A (bs.map .bool)) (ha : Rd w D (L.map (.int .i64))) (hb : Rd w E (M.map (.int .i64))) (hs : simpB W T bs = true) (hL : tilingB W T bs L = true) (hM : tilingB W T bs M = true) (hn : bs.length = n) :
    Calls Tryz.prog 70 #[.agg #[.int .i64 W, .int .i64 T, .slice A n c], .slice D n d, .slice E n e9] w (TilP n (tilH W T bs (pickL min (hgtV W T bs L) (hgtV W T bs M))) w) := by
  have gL := hgtV_good hs hL
  have gM := hgtV_good hs hM
  have gP := good_min hs gL gM
  obtain ⟨N, hN⟩ : ∃ N, ncN W T = N := ⟨_, rfl⟩
  have C1 := Lib.hid (fun (z : World) (R : Rd z A (bs.map .bool)) (Q : Rd z D (L.map (.int .i64))) => calls_toN (heightsS_any W T A D c d n bs L z R Q hs hL hn) (show (hgtV W T bs L).length = N by rw [gL.len, hN]))
  have C2 := Lib.hid (fun (z : World) (R : Rd z A (bs.map .bool)) (Q : Rd z E (M.map (.int .i64))) => calls_toN (heightsS_any W T A E c e9 n bs M z R Q hs hM hn) (show (hgtV W T bs M).length = N by rw [gM.len, hN]))
  have C3' := Lib.hid (fun (z : World) (A1 A2 : Option Addr) (c1 c2 : Nat) (R : Rd z A (bs.map .bool)) (Q1 : Rd z A1 ((hgtV W T bs L).map (.int .i64))) (Q2 : Rd z A2 ((hgtV W T bs M).map (.int .i64))) =>
    calls_toN (heightsLowS_any W T A A1 A2 c c1 c2 n N bs _ _ z R Q1 Q2 hs gL gM hn hN) (show (pickL min (hgtV W T bs L) (hgtV W T bs M)).length = N by rw [gP.len, hN]))
  have C4 := Lib.hid (fun (z : World) (A1 : Option Addr) (c1 : Nat) (R : Rd z A (bs.map .bool)) (Q1 : Rd z A1 ((pickL min (hgtV W T bs L) (hgtV W T bs M)).map (.int .i64))) => tilingByS_any W T A A1 c c1 n N bs _ z R Q1 hs gP hn hN)
  have X0 := C3.new w (.int .i64 W) (.int .i64 T) (.slice A n c) 25
  have B0 := bl_alloc (Below.refl w.heap.size w) (.cells #[.int .i64 W, .int .i64 T, .slice A n c] 25)
  have r0 := hr.belo B0
  have a0 := ha.belo B0
  have b0 := hb.belo B0
  have hwu : w.heap.size ≤ (w.alloc (.cells #[.int .i64 W, .int .i64 T, .slice A n c] 25)).heap.size := B0.size
  obtain ⟨x0, x1, x2⟩ := id X0
  generalize hgtV W T bs L = H1 at *
  generalize hgtV W T bs M = H2 at *
  generalize pickL min H1 H2 = H3 at *
  generalize tilH W T bs H3 = R0 at *
  clear gL gM gP hN hL hM hs hr ha hb hn
  go_enter Tryz.func70, Tryz.ntmps70
  go_wp2_with fail
  generalize w.alloc (.cells #[.int .i64 W, .int .i64 T, .slice A n c] 25) = u at *
  have Z0 : Below u.heap.size u u.drew := (Below.refl _ _).drew
  have KS := Lib.hid (fun (z : World) (Z : Below u.heap.size u z) => show z.cell? ⟨w.heap.size, 0, none⟩ = some (.int .i64 W) ∧ z.cell? ⟨w.heap.size, 1, none⟩ = some (.int .i64 T) ∧ z.cell? ⟨w.heap.size, 2, none⟩ = some (.slice A n c) from X0.belo Z)
  have HS0 := KS.out _ (Below.refl _ _)
  have D1 := Lib.hid (fun (z : World) (Z : Below u.heap.size u z) => C1.out z (r0.belo Z) (a0.belo Z))
  have D2 := Lib.hid (fun (z : World) (Z : Below u.heap.size u z) => C2.out z (r0.belo Z) (b0.belo Z))
  have D3 := Lib.hid (fun (z : World) (Z : Below u.heap.size u z) (A1 A2 : Option Addr) (c1 c2 : Nat) (Q1 : Rd z A1 (H1.map (.int .i64))) (Q2 : Rd z A2 (H2.map (.int .i64))) => C3'.out z A1 A2 c1 c2 (r0.belo Z) Q1 Q2)
  have D4 := Lib.hid (fun (z : World) (Z : Below u.heap.size u z) (A1 : Option Addr) (c1 : Nat) (Q1 : Rd z A1 (H3.map (.int .i64))) => C4.out z A1 c1 (r0.belo Z) Q1)
  clear C1 C2 C3' C4 r0 a0 b0 X0
  go_region_held3 (fun w' => w'.cell? ⟨w.heap.size, 0, none⟩ = some (.int .i64 W) ∧ w'.cell? ⟨w.heap.size, 1, none⟩ = some (.int .i64 T) ∧ w'.cell? ⟨w.heap.size, 2, none⟩ = some (.slice A n c))
    (first | (with_reducible exact KS.out _ Z6) | (with_reducible exact KS.out _ Z5) | (with_reducible exact KS.out _ Z4) | (with_reducible exact KS.out _ Z3) | (with_reducible exact KS.out _ Z0) | (with_reducible exact HS0) | go_keep)
    ((first
      | (go_at_call 89; first
        | ((with_reducible refine (D1.out _ Z0).mono ?_); rintro e w3 ⟨A3, c3, rfl, R3, b3⟩; have Z3 := Z0.trans (b3.mono Z0.size))
        | ((with_reducible refine (D2.out _ Z3).mono ?_); rintro e w4 ⟨A4, c4, rfl, R4, b4⟩; have Z4 := Z3.trans (b4.mono Z3.size); have Q3 := R3.belo b4))
      | (go_at_call 106; (with_reducible refine (D3.out _ Z4 A3 A4 c3 c4 Q3 R4).mono ?_); rintro e w5 ⟨A5, c5, rfl, R5, b5⟩; have Z5 := Z4.trans (b5.mono Z4.size))
      | (go_at_call 105; (with_reducible refine (D4.out _ Z5 A5 c5 R5).mono ?_); rintro e w6 ⟨g6, rfl, W6, hg6, hgs6, b6⟩; have Z6 := Z5.trans (b6.mono Z5.size))))
  have h5 := Nat.le_trans hwu Z5.size
  have HRES := Lib.hid (show TilP n R0 w (.returned (.tuple #[.slice (some ⟨g6, 0, none⟩) n n, .bool true])) w6 from ⟨g6, rfl, W6.lower h5, Nat.le_trans h5 hg6, hgs6, bl_go B0 Z6⟩)
  go_wp2_with fail
  go_ret2
  exact HRES.out
set_option maxRecDepth 100000 in
set_option maxHeartbeats 4000000 in
theorem tilingHighS_any (W T : Int) (A D E : Option Addr) (c d e9 n : Nat) (bs : List Bool) (L M : List Int) (w : World) (hr : Rd w A (bs.map .bool)) (ha : Rd w D (L.map (.int .i64))) (hb : Rd w E (M.map (.int .i64))) (hs : simpB W T bs = true) (hL : tilingB W T bs L = true) (hM : tilingB W T bs M = true) (hn : bs.length = n) :
    Calls Tryz.prog 107 #[.agg #[.int .i64 W, .int .i64 T, .slice A n c], .slice D n d, .slice E n e9] w (TilP n (tilH W T bs (pickL max (hgtV W T bs L) (hgtV W T bs M))) w) := by
  have gL := hgtV_good hs hL
  have gM := hgtV_good hs hM
  have gP := good_max hs gL gM
  obtain ⟨N, hN⟩ : ∃ N, ncN W T = N := ⟨_, rfl⟩
  have C1 := Lib.hid (fun (z : World) (R : Rd z A (bs.map .bool)) (Q : Rd z D (L.map (.int .i64))) => calls_toN (heightsS_any W T A D c d n bs L z R Q hs hL hn) (show (hgtV W T bs L).length = N by rw [gL.len, hN]))
  have C2 := Lib.hid (fun (z : World) (R : Rd z A (bs.map .bool)) (Q : Rd z E (M.map (.int .i64))) => calls_toN (heightsS_any W T A E c e9 n bs M z R Q hs hM hn) (show (hgtV W T bs M).length = N by rw [gM.len, hN]))
  have C3' := Lib.hid (fun (z : World) (A1 A2 : Option Addr) (c1 c2 : Nat) (R : Rd z A (bs.map .bool)) (Q1 : Rd z A1 ((hgtV W T bs L).map (.int .i64))) (Q2 : Rd z A2 ((hgtV W T bs M).map (.int .i64))) =>
    calls_toN (heightsHighS_any W T A A1 A2 c c1 c2 n N bs _ _ z R Q1 Q2 hs gL gM hn hN) (show (pickL max (hgtV W T bs L) (hgtV W T bs M)).length = N by rw [gP.len, hN]))
  have C4 := Lib.hid (fun (z : World) (A1 : Option Addr) (c1 : Nat) (R : Rd z A (bs.map .bool)) (Q1 : Rd z A1 ((pickL max (hgtV W T bs L) (hgtV W T bs M)).map (.int .i64))) => tilingByS_any W T A A1 c c1 n N bs _ z R Q1 hs gP hn hN)
  have X0 := C3.new w (.int .i64 W) (.int .i64 T) (.slice A n c) 25
  have B0 := bl_alloc (Below.refl w.heap.size w) (.cells #[.int .i64 W, .int .i64 T, .slice A n c] 25)
  have r0 := hr.belo B0
  have a0 := ha.belo B0
  have b0 := hb.belo B0
  have hwu : w.heap.size ≤ (w.alloc (.cells #[.int .i64 W, .int .i64 T, .slice A n c] 25)).heap.size := B0.size
  obtain ⟨x0, x1, x2⟩ := id X0
  generalize hgtV W T bs L = H1 at *
  generalize hgtV W T bs M = H2 at *
  generalize pickL max H1 H2 = H3 at *
  generalize tilH W T bs H3 = R0 at *
  clear gL gM gP hN hL hM hs hr ha hb hn
  go_enter Tryz.func107, Tryz.ntmps107
  go_wp2_with fail
  generalize w.alloc (.cells #[.int .i64 W, .int .i64 T, .slice A n c] 25) = u at *
  have Z0 : Below u.heap.size u u.drew := (Below.refl _ _).drew
  have KS := Lib.hid (fun (z : World) (Z : Below u.heap.size u z) => show z.cell? ⟨w.heap.size, 0, none⟩ = some (.int .i64 W) ∧ z.cell? ⟨w.heap.size, 1, none⟩ = some (.int .i64 T) ∧ z.cell? ⟨w.heap.size, 2, none⟩ = some (.slice A n c) from X0.belo Z)
  have HS0 := KS.out _ (Below.refl _ _)
  have D1 := Lib.hid (fun (z : World) (Z : Below u.heap.size u z) => C1.out z (r0.belo Z) (a0.belo Z))
  have D2 := Lib.hid (fun (z : World) (Z : Below u.heap.size u z) => C2.out z (r0.belo Z) (b0.belo Z))
  have D3 := Lib.hid (fun (z : World) (Z : Below u.heap.size u z) (A1 A2 : Option Addr) (c1 c2 : Nat) (Q1 : Rd z A1 (H1.map (.int .i64))) (Q2 : Rd z A2 (H2.map (.int .i64))) => C3'.out z A1 A2 c1 c2 (r0.belo Z) Q1 Q2)
  have D4 := Lib.hid (fun (z : World) (Z : Below u.heap.size u z) (A1 : Option Addr) (c1 : Nat) (Q1 : Rd z A1 (H3.map (.int .i64))) => C4.out z A1 c1 (r0.belo Z) Q1)
  clear C1 C2 C3' C4 r0 a0 b0 X0
  go_region_held3 (fun w' => w'.cell? ⟨w.heap.size, 0, none⟩ = some (.int .i64 W) ∧ w'.cell? ⟨w.heap.size, 1, none⟩ = some (.int .i64 T) ∧ w'.cell? ⟨w.heap.size, 2, none⟩ = some (.slice A n c))
    (first | (with_reducible exact KS.out _ Z6) | (with_reducible exact KS.out _ Z5) | (with_reducible exact KS.out _ Z4) | (with_reducible exact KS.out _ Z3) | (with_reducible exact KS.out _ Z0) | (with_reducible exact HS0) | go_keep)
    ((first
      | (go_at_call 89; first
        | ((with_reducible refine (D1.out _ Z0).mono ?_); rintro e w3 ⟨A3, c3, rfl, R3, b3⟩; have Z3 := Z0.trans (b3.mono Z0.size))
        | ((with_reducible refine (D2.out _ Z3).mono ?_); rintro e w4 ⟨A4, c4, rfl, R4, b4⟩; have Z4 := Z3.trans (b4.mono Z3.size); have Q3 := R3.belo b4))
      | (go_at_call 135; (with_reducible refine (D3.out _ Z4 A3 A4 c3 c4 Q3 R4).mono ?_); rintro e w5 ⟨A5, c5, rfl, R5, b5⟩; have Z5 := Z4.trans (b5.mono Z4.size))
      | (go_at_call 105; (with_reducible refine (D4.out _ Z5 A5 c5 R5).mono ?_); rintro e w6 ⟨g6, rfl, W6, hg6, hgs6, b6⟩; have Z6 := Z5.trans (b6.mono Z5.size))))
  have h5 := Nat.le_trans hwu Z5.size
  have HRES := Lib.hid (show TilP n R0 w (.returned (.tuple #[.slice (some ⟨g6, 0, none⟩) n n, .bool true])) w6 from ⟨g6, rfl, W6.lower h5, Nat.le_trans h5 hg6, hgs6, bl_go B0 Z6⟩)
  go_wp2_with fail
  go_ret2
  exact HRES.out
end Go.Proofs.YtafmpgikdhlknaaGreat
