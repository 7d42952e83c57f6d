/- The walk of the law FnCellsBeside. -/
import Derived.Test.YtbplnjigoghboaaDrawBes
import Derived.Test.YtbplnjigoghboaaBesideE
import Derived.Test.YtbplnjigoghboaaAscend
import Derived.Test.YtbplnjigoghboaaAlive
import Derived.Test.YtbplnjigoghboaaBw
import Derived.Test.YtbplnjigoghboaaMemE
import Derived.Deep.RegionHeld3
namespace Go.Proofs.Ytbplnjigoghboaa
open Go.RowKit

/-! ### The law -/
theorem mem_besB {W T : Int} {bs : List Bool} {cells : List Int} {l : Nat} : (l : Int) ∈ besL W T bs cells ↔ l < bs.length ∧ bs.getD l false = true ∧ ∃ way : Int, 1 ≤ way ∧ way ≤ 4 ∧ 0 ≤ stepZ W T l way ∧ stepZ W T l way ∈ cells := by
  unfold besL
  rw [mem_pick]
  constructor
  · rintro ⟨i, hi, hp, e⟩
    obtain rfl : l = i := by omega
    unfold isBes at hp
    rw [Bool.and_eq_true, nbr_iff] at hp
    obtain ⟨hb, d, d1, d2, h⟩ := hp
    exact ⟨hi, hb, d, d1, by omega, h⟩
  · rintro ⟨hi, hb, d, d1, d2, h⟩
    refine ⟨l, hi, ?_, rfl⟩
    unfold isBes
    rw [Bool.and_eq_true, nbr_iff]
    exact ⟨hb, d, d1, by omega, h⟩
def okC (n : Nat) (back : List Int) (xs : List Bool) (c : Int) : Bool := decide (0 ≤ c) && (decide (c < n) && (decide (c ∈ back) || !xs.getD c.toNat false))
def anyTo (n : Nat) (back : List Int) (xs : List Bool) (L : List Int) : Nat → Bool
  | 0 => false
  | j + 1 => anyTo n back xs L j || okC n back xs (L.getD j 0)
theorem anyTo_t {n : Nat} {back : List Int} {xs : List Bool} {L : List Int} {j k : Nat} (h : j < k) (ho : okC n back xs (L.getD j 0) = true) : anyTo n back xs L k = true := by
  induction k with
  | zero => omega
  | succ k ih =>
    show (anyTo n back xs L k || okC n back xs (L.getD k 0)) = true
    rcases Nat.lt_or_ge j k with h1 | h1
    · rw [ih h1]; rfl
    · obtain rfl : j = k := by omega
      rw [ho, Bool.or_true]
theorem bes_law {W T : Int} {xs : List Bool} {L : List Int} (h1 : 1 ≤ W) (h2 : W ≤ 6) (h3 : 1 ≤ T) (h4 : T ≤ 6) (hl : (xs.length : Int) = W * T) {x : Int} (hx : x ∈ besL W T xs L) :
    x ∈ besL W T xs (L ++ [0]) ∧ anyTo xs.length (besL W T xs [x]) xs L L.length = true := by
  obtain ⟨l, rfl⟩ : ∃ l : Nat, x = l := by
    unfold besL at hx
    obtain ⟨i, -, -, rfl⟩ := mem_pick.1 hx
    exact ⟨i, rfl⟩
  obtain ⟨hi, hb, way, w1, w2, s0, hs⟩ := mem_besB.1 hx
  refine ⟨mem_besB.2 ⟨hi, hb, way, w1, w2, s0, List.mem_append_left _ hs⟩, ?_⟩
  have hbd := step_bd (W := W) (T := T) (c := (l : Int)) way h1 h2 h3 h4 (by omega) (by omega)
  have hr := step_rev (W := W) (T := T) (c := (l : Int)) (d := way) h1 h2 h3 h4 (by omega) (by omega) w1 w2 s0
  obtain ⟨b1, b2⟩ := back_bd way
  obtain ⟨c, hc⟩ := Int.eq_ofNat_of_zero_le s0
  rw [hc] at hs hbd hr
  obtain ⟨j, hj, e⟩ := List.getElem_of_mem hs
  refine anyTo_t hj ?_
  rw [show L.getD j 0 = (c : Int) by rw [List.getD_eq_getElem?_getD, List.getElem?_eq_getElem hj]; exact e]
  unfold okC
  have hcn : (c : Int) < (xs.length : Int) := by omega
  rw [decide_eq_true (show (0 : Int) ≤ c by omega), decide_eq_true hcn, Bool.true_and, Bool.true_and, Int.toNat_natCast]
  cases hcb : xs.getD c false with
  | false => rw [Bool.not_false, Bool.or_true]
  | true =>
    rw [decide_eq_true (mem_besB.2 ⟨by omega, hcb, backZ way, b1, b2, by omega, by rw [hr]; simp⟩)]; rfl

/-! ### Lists in memory -/
theorem ownI_none (w : World) (base : Nat) (hb : base ≤ w.heap.size) : OwnI (w.alloc (.cells #[] 3)) base (.slice (some ⟨w.heap.size, 0, none⟩) 0 0) [] :=
  ⟨_, _, rfl, World.ownsRow_lit w #[] 0 hb (by unfold maxLen; omega) (by simp)⟩
theorem ownI_one (w : World) (u : Int) : OwnI (w.alloc (.cells #[.int .i64 u] 3)) w.heap.size (.slice (some ⟨w.heap.size, 0, none⟩) 1 1) [u] :=
  ⟨_, _, rfl, World.ownsRow_lit w #[.int .i64 u] 1 (Nat.le_refl _) (by unfold maxLen; omega) (by simp)⟩
theorem i_new (w : World) (q : Int) : (w.alloc (.cells #[.int .i64 q] 3)).cell? ⟨w.heap.size, 0, none⟩ = some (.int .i64 q) := cell_of_row _ _ _ _ _ _ (heap_alloc_new w _)
theorem i_old {w w' : World} {h : Nat} {v : Value} {row : Option Nat} (e : w.cell? ⟨h, 0, none⟩ = some v) (hg : w.grownBy w' row) (hr : row ≠ some h) : w'.cell? ⟨h, 0, none⟩ = some v :=
  (hg.cell_far ⟨h, 0, none⟩ (World.block_lt_of_cell? w _ e) (fun x => hr x.symm)).trans e
section
variable {ops : Array Oper} {rest : List Oper} {o : Oper} {a : Act} {Q : Exit → Act → World → Prop}
/-- a list of numbers is appended to an empty one -/
theorem step_app_ints0 {K : Act → World → Prop} {E : Prop} (W : World) (hgd : o.guard = none) (s x : Operand) (ho : o.op = .call { callee := .builtin .append, args := #[s, x], argTypes := #[33, 33] })
    (base : Nat) (v : Value) (hs : a.eval s = v) (hown : OwnI W base v []) (ys : List Int) (D : Option Addr) (d : Nat) (hx : a.eval x = .slice D ys.length d) (hD : Src D d ys) (hr : Rd W D (ys.map (.int .i64))) (hn2 : ys.length ≤ 1000000) (hbase : base ≤ W.heap.size)
    (h : ∀ (A' : Option Addr) (c' : Nat) (w' : World), OwnI w' base (.slice A' ys.length c') ys → W.grownBy w' v.ownBlock → K (a.put o.dst (.slice A' ys.length c')) w') :
    if Region.wanted o (yielded ops a.tmps) = true then Oper.wp Try.prog o a W K Q else E :=
  step_app_ints W hgd s x ho base v [] hs hown ys D d hx hD hr hn2 (by simp) hbase (fun A' c' w' h1 h2 => by
    simp only [List.length_nil, Nat.zero_add, List.nil_append] at h1 ⊢
    exact h A' c' w' h1 h2)
end
set_option maxRecDepth 100000 in
set_option maxHeartbeats 8000000 in
theorem fnCellsBeside_walk {w0 : World} (A : Option Addr) (c : Nat) (bs : List Int) (hcap : bs.length ≤ c) (hm : bs.length ≤ maxLen) (hr : Rd w0 A (bs.map (.int .u8))) (hw : ∀ n ∈ bs, 0 ≤ n ∧ n ≤ 255) :
    Calls Try.prog 6 #[.slice A bs.length c] w0 fun e w' => e = .returned (.bool true) ∧ Below w0.heap.size w0 w' := by
  have HW := Lib.hid hw
  clear hw
  unfold maxLen at hm
  by_cases hn : bs.length ≤ 1048576
  · have hg : decide ((1048576 : Int) < (bs.length : Int)) = false := by simp; omega
    go_enter Try.func6, Try.ntmps6
    go_wp2_with fail
    refine (drawCellsBeside_any A c bs _ hr HW.out hn hcap).mono ?_
    rintro e w1 ⟨W, T, xs, B, k, L, D, d, rfl, R1, hl1, D1, hL38, hsrc, B1⟩
    clear hg hn hm hr HW hcap
    have hmx : xs.length ≤ maxLen := by unfold maxLen; omega
    have cI := fun (z : World) (R : Rd z B (xs.map .bool)) (R2 : Rd z D (L.map (.int .i64))) => iCellsBeside_any W T B D k d xs L z R R2 hmx (by omega)
    have cS := fun (z : World) (R : Rd z B (xs.map .bool)) (R2 : Rd z D (L.map (.int .i64))) => sCellsBeside_any W T B D k d xs L z R R2 hmx (by omega)
    have CV := Lib.hid (fun (z : World) (R : Rd z B (xs.map .bool)) => sRegionValid_any W T B k xs z R hmx)
    have R2 := R1.alloc (.cells #[.int .i64 W, .int .i64 T, .slice B xs.length k] 40)
    have D2 := D1.alloc (.cells #[.int .i64 W, .int .i64 T, .slice B xs.length k] 40)
    have B2 := bl_alloc B1 (.cells #[.int .i64 W, .int .i64 T, .slice B xs.length k] 40)
    have X2 := C3.new w1 (.int .i64 W) (.int .i64 T) (.slice B xs.length k) 40
    have hVl := besV_len W T xs L (n := 37) hl1
    clear R1 B1 D1
    go_wp2_with fail
    generalize w1.alloc (.cells #[.int .i64 W, .int .i64 T, .slice B xs.length k] 40) = w2 at *
    generalize w1.heap.size = bx at *
    cases hv : validB W T xs with
    | true =>
      obtain ⟨h1, h2, h3, h4, h5, h6⟩ := valid_len hv
      have HV := Lib.hid hv
      have hVe : besV W T xs L = besL W T xs L := by unfold besV; rw [if_pos hv]
      have HM := Lib.hid (fun (x : Int) (hx : x ∈ besL W T xs L) => bes_law h1 h2 h3 h4 h6 hx)
      have HP : Hid ((besL W T xs L).Pairwise (· < ·)) := Lib.hid (pick_sorted _ _)
      have HB := Lib.hid (fun (x : Int) (hx : x ∈ besL W T xs L) => (show 0 ≤ x ∧ x < xs.length by
        unfold besL at hx
        obtain ⟨i, hi, -, rfl⟩ := mem_pick.1 hx
        omega))
      have cM := fun (z : World) (g7 k7 b0 : Nat) (R : Rd z B (xs.map .bool)) (O : OwnI z b0 (.slice (some ⟨g7, 0, none⟩) (L.length + 1) k7) (L ++ [0])) => (show Calls Try.prog 34 #[.agg #[.int .i64 W, .int .i64 T, .slice B xs.length k], .slice (some ⟨g7, 0, none⟩) (L.length + 1) k7] z (NewW (besL W T xs (L ++ [0])) z) by
        have h := iCellsBeside_any W T B (some ⟨g7, 0, none⟩) k k7 xs (L ++ [0]) z R O.rd.2 hmx (by simp; omega)
        unfold besV at h
        rw [if_pos hv, show (L ++ [(0 : Int)]).length = L.length + 1 by simp] at h
        exact h)
      have cO := fun (z : World) (h : Nat) (x : Int) (R : Rd z B (xs.map .bool)) (O : Rd z (some ⟨h, 0, none⟩) ([x].map (.int .i64))) => (show Calls Try.prog 34 #[.agg #[.int .i64 W, .int .i64 T, .slice B xs.length k], .slice (some ⟨h, 0, none⟩) 1 1] z (NewW (besL W T xs [x]) z) by
        have h := iCellsBeside_any W T B (some ⟨h, 0, none⟩) k 1 xs [x] z R O hmx (by simp)
        unfold besV at h
        rw [if_pos hv] at h
        exact h)
      have CM := Lib.hid cM
      have CO := Lib.hid cO
      have hNl : (besL W T xs (L ++ [0])).length ≤ 37 := Nat.le_trans (besL_len _ _ _ _) hl1
      have HOL := Lib.hid (fun x : Int => Nat.le_trans (besL_len W T xs [x]) hl1)
      rw [hVe] at cI cS hVl
      clear hv hVe cM cO h6
      generalize besL W T xs L = V at cI cS hVl HM HP HB
      generalize besL W T xs (L ++ [0]) = N at HM CM hNl
      have CI := Lib.hid cI
      have CS := Lib.hid cS
      have hVm : V.length ≤ maxLen := by unfold maxLen; omega
      have hNm : N.length ≤ maxLen := by unfold maxLen; omega
      have HSRC := Lib.hid hsrc
      clear cI cS hsrc
      obtain ⟨x0, x1, x2⟩ := id X2
      refine (CI.out _ R2 D2).mono ?_
      rintro e w3 ⟨A3, rfl, G3, b3⟩
      have R3 := R2.belo b3
      have D3 := D2.belo b3
      have B3 := bl_go B2 b3
      have X3 := X2.belo b3
      have L3 := G3.rd
      clear R2 B2 X2 D2 b3 x0 x1 x2 G3 CI
      obtain ⟨x0, x1, x2⟩ := id X3
      go_wp2_with fail
      refine (CS.out _ R3 D3).mono ?_
      rintro e w4 ⟨A4, c4, rfl, P4, b4, f4⟩
      have R4 := R3.belo b4
      have D4 := D3.belo b4
      have B4 := bl_go B3 b4
      have X4 := X3.belo b4
      have L4 := L3.belo b4
      clear R3 B3 X3 D3 b4 x0 x1 x2 L3 f4 CS
      go_wp2_with fail
      refine (sameInts_t _ _ _ _ V _ L4 P4 hVm).mono ?_
      rintro e w5 ⟨rfl, b5⟩
      have R5 := R4.belo b5
      have D5 := D4.belo b5
      have B5 := bl_go B4 b5
      have X5 := X4.belo b5
      have L5 := L4.belo b5
      clear R4 B4 X4 D4 b5 L4 P4
      obtain ⟨x0, x1, x2⟩ := id X5
      go_wp2_with fail
      refine (CV.out _ R5).mono ?_
      rintro e w6 ⟨rfl, b6⟩
      rw [HV.out]
      have R6 := R5.belo b6
      have D6 := D5.belo b6
      have B6' := bl_go B5 b6
      have X6 := X5.belo b6
      have L6 := L5.belo b6
      clear R5 B5 X5 D5 b6 L5 x0 x1 x2 CV
      have KS := Lib.hid (fun (z : World) (hb : Below w6.heap.size w6 z) => X6.belo hb)
      have OA : OwnI (w6.alloc (.cells #[] 3)).drew w6.heap.size (.slice (some ⟨w6.heap.size, 0, none⟩) 0 0) [] := ownI_none w6 w6.heap.size (Nat.le_refl _)
      have OB : OwnI ((w6.alloc (.cells #[] 3)).alloc (.cells #[.int .i64 0] 3)).drew w6.heap.size (.slice (some ⟨w6.heap.size, 0, none⟩) 0 0) [] := (ownI_none w6 w6.heap.size (Nat.le_refl _)).alloc (.cells #[.int .i64 0] 3)
      have OC : OwnI ((w6.alloc (.cells #[.int .i64 0] 3)).alloc (.cells #[] 3)).drew w6.heap.size (.slice (some ⟨w6.heap.size + 1, 0, none⟩) 0 0) [] := by
        have h := ownI_none (w6.alloc (.cells #[.int .i64 0] 3)) w6.heap.size (by simp)
        rw [show (w6.alloc (.cells #[.int .i64 0] 3)).heap.size = w6.heap.size + 1 by simp] at h
        exact h
      have B0 : Below w6.heap.size w6 w6.drew := (Below.refl _ _).drew
      have BX : Below w6.heap.size w6 (w6.alloc (.cells #[.int .i64 0] 3)).drew := (bl_alloc (Below.refl _ _) _).drew
      have BA : Below w6.heap.size w6 (w6.alloc (.cells #[] 3)).drew := (bl_alloc (Below.refl _ _) _).drew
      have BB : Below w6.heap.size w6 ((w6.alloc (.cells #[] 3)).alloc (.cells #[.int .i64 0] 3)).drew := (bl_alloc (bl_alloc (Below.refl _ _) _) _).drew
      have BC : Below w6.heap.size w6 ((w6.alloc (.cells #[.int .i64 0] 3)).alloc (.cells #[] 3)).drew := (bl_alloc (bl_alloc (Below.refl _ _) _) _).drew
      have RA := D6.belo BA
      have RB := D6.belo BB
      have RC := D6.belo BC
      have XB : ((w6.alloc (.cells #[] 3)).alloc (.cells #[.int .i64 0] 3)).drew.cell? ⟨w6.heap.size + 1, 0, none⟩ = some (.int .i64 0) := by
        have h := i_new (w6.alloc (.cells #[] 3)) 0
        rw [show (w6.alloc (.cells #[] 3)).heap.size = w6.heap.size + 1 by simp] at h
        exact h
      have XC : ((w6.alloc (.cells #[.int .i64 0] 3)).alloc (.cells #[] 3)).drew.cell? ⟨w6.heap.size, 0, none⟩ = some (.int .i64 0) :=
        (World.cell?_alloc_lt _ _ _ (by simp)).trans (i_new w6 0)
      have hL9 : L.length ≤ 1000000 := by omega
      have hL99 : L.length ≤ 1000000000000 := by omega
      go_wp2_with fail
      go_region_held3 (fun w' => w'.cell? ⟨bx, 0, none⟩ = some (.int .i64 W) ∧ w'.cell? ⟨bx, 1, none⟩ = some (.int .i64 T) ∧ w'.cell? ⟨bx, 2, none⟩ = some (.slice B xs.length k))
        (first | exact KS.out _ B8z | exact KS.out _ B7 | exact KS.out _ B7.drew | exact KS.out _ B6a | exact KS.out _ B6a.drew | exact KS.out _ B6 | exact KS.out _ B6.drew | exact KS.out _ BB | exact KS.out _ BC | exact KS.out _ BA | exact KS.out _ BX | exact KS.out _ B0)
        (first
        | (refine step_app_ints0 _ rfl _ _ rfl w6.heap.size _ rfl OA L D d rfl HSRC.out RA hL9 BA.size ?_; intro g6 k6 v6 O6 G6; have B6 := grown_below BA (Nat.le_refl _) BA.size OA G6; have O6a := O6.alloc (.cells #[.int .i64 0] 3); have B6a := bl_alloc B6 (.cells #[.int .i64 0] 3))
        | (refine step_app_ints0 _ rfl _ _ rfl w6.heap.size _ rfl OB L D d rfl HSRC.out RB hL9 BB.size ?_; intro g6 k6 v6 O6 G6; have B6 := grown_below BB (Nat.le_refl _) BB.size OB G6; have X6' := i_old (row := some w6.heap.size) XB G6 (by simp))
        | (refine step_app_ints0 _ rfl _ _ rfl w6.heap.size _ rfl OC L D d rfl HSRC.out RC hL9 BC.size ?_; intro g6 k6 v6 O6 G6; have B6 := grown_below BC (Nat.le_refl _) BC.size OC G6; have X6' := i_old (row := some (w6.heap.size + 1)) XC G6 (by simp))
        | (refine step_app_int (v6.alloc (.cells #[.int .i64 0] 3)) rfl _ _ rfl w6.heap.size (.slice g6 L.length k6) L rfl O6a 0 v6.heap.size rfl (i_new v6 0) hL99 B6a.size ?_; intro g7 k7 w7 O7 G7 e7; have B7 := grown_below B6a (Nat.le_refl _) B6a.size O6a G7)
        | (refine step_app_int v6 rfl _ _ rfl w6.heap.size (.slice g6 L.length k6) L rfl O6 0 _ rfl X6' hL99 B6.size ?_; intro g7 k7 w7 O7 G7 e7; have B7 := grown_below B6 (Nat.le_refl _) B6.size O6 G7)
        | (go_at_call 34; (with_reducible refine (CM.out _ _ _ _ (R6.belo B7) O7).mono ?_); rintro e w8 ⟨A8, rfl, W8, b8⟩; have B8z := bl_go B7 b8))
      all_goals (
        have R8 := R6.belo B8z
        have D8 := D6.belo B8z
        have Z8 := bl_go B6' B8z
        have X8 := X6.belo B8z
        have L8 := L6.belo B8z
        have N8 := W8.rd
        clear OA OB OC BA BB BC BX B0 RA RB RC XB XC KS B7 B6 O6 O7 G6 G7 e7 R6 D6 B6' X6 L6 B8z b8 W8 CM
        have HSV := Lib.hid (And.intro R8 (And.intro D8 (And.intro L8 N8)))
        clear R8 D8 L8 N8
        go_wp2_with fail
        go_loopw [7] (fun i wr => ∃ j : Nat, j ≤ V.length ∧ i = .int .i64 j ∧ Below w8.heap.size w8 wr) (fun i _ => V.length - (intOf i).toNat)
        case atStart => exact ⟨0, Nat.zero_le _, rfl, Below.refl _ _⟩
        case round =>
          obtain ⟨j, hj, rfl, Y1⟩ := hrel
          have X9 := X8.belo Y1
          have L9 := HSV.out.2.2.1.belo Y1
          obtain ⟨wo, hwo⟩ : ∃ wo : World, wo = wr := ⟨_, rfl⟩
          subst hwo
          by_cases hlt : j < V.length
          · have hjI : (j : Int) < (V.length : Int) := by omega
            obtain ⟨bv, ov, rfl, hc⟩ := L9.atEM hlt
            have hxm : V[j] ∈ V := List.getElem_mem hlt
            have hxb := HB.out _ hxm
            have hxl := HM.out _ hxm
            obtain ⟨x, hx⟩ : ∃ x, V[j] = x := ⟨_, rfl⟩
            have HVX := Lib.hid hx
            rw [hx] at hc hxb hxl
            clear hx hxm
            have HXN := Lib.hid hxl.1
            have HXA := Lib.hid hxl.2
            have hxl2 := HOL.out x
            have CX := Lib.hid (fun z h => CO.out z h x)
            clear hxl
            generalize besL W T xs [x] = M at HXA CX hxl2
            have hMm : M.length ≤ maxLen := by unfold maxLen; omega
            have hz1 := World.block_lt_of_cell? wo _ hc
            have KS := Lib.hid (fun (z : World) (hb : Below wo.heap.size wo z) => And.intro (X9.belo hb) (((bcell hb).1 bv (ov + j) hz1).trans hc))
            have R9 := HSV.out.1.belo Y1
            have BX : Below wo.heap.size wo (wo.alloc (.cells #[.int .i64 x] 3)).drew := (bl_alloc (Below.refl _ _) _).drew
            have B0 : Below wo.heap.size wo wo.drew := (Below.refl _ _).drew
            have RX := R9.belo BX
            have OX : Rd (wo.alloc (.cells #[.int .i64 x] 3)).drew (some ⟨wo.heap.size, 0, none⟩) ([x].map (.int .i64)) := (ownI_one wo x).rd.2
            go_wp2_with fail
            go_region_held3 (fun w' => (w'.cell? ⟨bx, 0, none⟩ = some (.int .i64 W) ∧ w'.cell? ⟨bx, 1, none⟩ = some (.int .i64 T) ∧ w'.cell? ⟨bx, 2, none⟩ = some (.slice B xs.length k)) ∧ w'.cell? ⟨bv, ov + j, none⟩ = some (.int .i64 x))
              (first | exact KS.out _ B9 | exact KS.out _ BX | exact KS.out _ B0)
              ((go_at_call 34; (with_reducible refine (CX.out _ _ RX OX).mono ?_); rintro e w9 ⟨A9, rfl, W9, b9⟩; have B9 := bl_go BX b9))
            have M9 := W9.rd
            have X10 := X9.belo B9
            have L10 := L9.belo B9
            have Y2 := bl_go Y1 B9
            clear KS BX B0 RX OX W9 b9 B9 L9 X9 R9 hc hz1
            go_wp2_with fail
            go_loopw [9, 10] (fun s i wr => ∃ m : Nat, m ≤ L.length ∧ i = .int .i64 m ∧ s = .bool (anyTo xs.length M xs L m) ∧ Below w9.heap.size w9 wr) (fun _ i _ => L.length - (intOf i).toNat)
            case atStart => exact ⟨0, Nat.zero_le _, rfl, rfl, Below.refl _ _⟩
            case round =>
              obtain ⟨m, hmL, rfl, rfl, Y3⟩ := hrel
              by_cases hm2 : m < L.length
              · have hmI : (m : Int) < (L.length : Int) := by omega
                have Y4 := bl_go Y2 Y3
                have X11 := X10.belo Y3
                have M11 := M9.belo Y3
                have D11 := HSV.out.2.1.belo Y4
                have R11 := HSV.out.1.belo Y4
                obtain ⟨bd, od, rfl, hd⟩ := D11.atEM hm2
                have HS : Hid (anyTo xs.length M xs L (m + 1) = (anyTo xs.length M xs L m || okC xs.length M xs L[m])) := Lib.hid (by
                  show (anyTo xs.length M xs L m || okC xs.length M xs (L.getD m 0)) = _
                  rw [List.getD_eq_getElem?_getD, List.getElem?_eq_getElem hm2]; rfl)
                obtain ⟨q, hq⟩ : ∃ q, L[m] = q := ⟨_, rfl⟩
                rw [hq] at hd HS
                clear hq
                obtain ⟨x0, x1, x2⟩ := id X11
                have s0 := World.block_lt_of_cell? wr _ hd
                have s1 := X11.lt
                have LD : ∀ z : BW wr, z.wo.cell? ⟨bd, od + m, none⟩ = some (.int .i64 q) := fun z => z.cell s0 hd
                have LX : ∀ z : BW wr, z.wo.cell? ⟨bx, 2, none⟩ = some (.slice B xs.length k) := fun z => z.cell s1 x2
                have CH := Lib.hid (fun (z : BW wr) (n : Int) => (hasInt_any A9 M.length M.length M n z.wo (M11.belo z.ok) rfl hMm).mono fun e w' h => (show e = .returned (.bool (decide (n ∈ M))) ∧ Below z.wo.heap.size z.wo w' from ⟨h.1, by rw [← h.2]; exact Below.refl _ _⟩))
                have RR := Lib.hid R11
                clear X11 M11 D11 R11 x0 x1 x2 hd s0 Y4
                generalize hbv : anyTo xs.length M xs L m = b at HS
                clear hbv
                cases b with
                | true =>
                  have HT := Lib.hid (show anyTo xs.length M xs L (m + 1) = true by rw [HS.out]; rfl)
                  clear HS
                  go_wp2_with fail
                  (refine region_bw (by kernel_rfl) (by kernel_rfl) ?_; (repeat (first | go_big_quiet_skip | (go_big_quiet_want; go_big_quiet_op; first | go_big_quiet_on | (refine ⟨.bool false, fun zz => ?_, ?_⟩; (fail); go_big_quiet_on)))); refine wpQuiet_nil ?_; intro wz hw'; obtain ⟨zw, hw''⟩ := hw'; subst hw'')
                  go_wp2_with fail
                  go_roundw
                  case rel => exact ⟨m + 1, by omega, by go_num, by rw [HT.out], bl_go Y3 zw.ok⟩
                  case measure => simp [intOf]; omega
                | false =>
                  by_cases hq0 : 0 ≤ q
                  · by_cases hq1 : q < (xs.length : Int)
                    · obtain ⟨qn, rfl⟩ := Int.eq_ofNat_of_zero_le hq0
                      have hqn : qn < xs.length := by omega
                      obtain ⟨bb, ob, rfl, hb⟩ := RR.out.atEM hqn
                      have hgq : xs.getD qn false = xs[qn] := by rw [List.getD_eq_getElem?_getD, List.getElem?_eq_getElem hqn]; rfl
                      generalize xs[qn] = u at hb hgq
                      have s0 := World.block_lt_of_cell? wr _ hb
                      have LB : ∀ z : BW wr, z.wo.cell? ⟨bb, ob + qn, none⟩ = some (.bool u) := fun z => z.cell s0 hb
                      clear hb s0
                      by_cases hin : (qn : Int) ∈ M
                      · have HT := Lib.hid (show anyTo xs.length M xs L (m + 1) = true by rw [HS.out]; unfold okC; rw [decide_eq_true hq0, decide_eq_true hq1, decide_eq_true hin]; rfl)
                        have HI := Lib.hid (decide_eq_true hin)
                        clear HS hin hgq
                        go_wp2_with fail
                        (refine region_bw (by kernel_rfl) (by kernel_rfl) ?_; (repeat (first | go_big_quiet_skip | (go_big_quiet_want; go_big_quiet_op; first | go_big_quiet_on | (refine ⟨.bool true, fun zz => ?_, ?_⟩; (go_at_call 38; with_reducible exact zz.on' (CH.out zz qn) (congrArg Value.bool HI.out)); go_big_quiet_on)))); refine wpQuiet_nil ?_; intro wz hw'; obtain ⟨zw, hw''⟩ := hw'; subst hw'')
                        go_wp2_with fail
                        go_roundw
                        case rel => exact ⟨m + 1, by omega, by go_num, by rw [HT.out], bl_go Y3 zw.ok⟩
                        case measure => simp [intOf]; omega
                      · have HT := Lib.hid (show anyTo xs.length M xs L (m + 1) = !u by rw [HS.out]; unfold okC; rw [decide_eq_true hq0, decide_eq_true hq1, decide_eq_false hin, Int.toNat_natCast, hgq]; simp)
                        have HI := Lib.hid (decide_eq_false hin)
                        clear HS hin hgq
                        cases u with
                        | true =>
                          go_wp2_with fail
                          (refine region_bw (by kernel_rfl) (by kernel_rfl) ?_; (repeat (first | go_big_quiet_skip | (go_big_quiet_want; go_big_quiet_op; first | go_big_quiet_on | (refine ⟨.bool false, fun zz => ?_, ?_⟩; (go_at_call 38; with_reducible exact zz.on' (CH.out zz qn) (congrArg Value.bool HI.out)); go_big_quiet_on)))); refine wpQuiet_nil ?_; intro wz hw'; obtain ⟨zw, hw''⟩ := hw'; subst hw'')
                          go_wp2_with fail
                          go_roundw
                          case rel => exact ⟨m + 1, by omega, by go_num, by rw [HT.out]; rfl, bl_go Y3 zw.ok⟩
                          case measure => simp [intOf]; omega
                        | false =>
                          go_wp2_with fail
                          (refine region_bw (by kernel_rfl) (by kernel_rfl) ?_; (repeat (first | go_big_quiet_skip | (go_big_quiet_want; go_big_quiet_op; first | go_big_quiet_on | (refine ⟨.bool false, fun zz => ?_, ?_⟩; (go_at_call 38; with_reducible exact zz.on' (CH.out zz qn) (congrArg Value.bool HI.out)); go_big_quiet_on)))); refine wpQuiet_nil ?_; intro wz hw'; obtain ⟨zw, hw''⟩ := hw'; subst hw'')
                          go_wp2_with fail
                          go_roundw
                          case rel => exact ⟨m + 1, by omega, by go_num, by rw [HT.out]; rfl, bl_go Y3 zw.ok⟩
                          case measure => simp [intOf]; omega
                    · have HT := Lib.hid (show anyTo xs.length M xs L (m + 1) = false by rw [HS.out]; unfold okC; rw [decide_eq_false hq1]; simp)
                      have d1 : decide (q < (xs.length : Int)) = false := decide_eq_false hq1
                      clear HS
                      go_wp2_with fail
                      (refine region_bw (by kernel_rfl) (by kernel_rfl) ?_; (repeat (first | go_big_quiet_skip | (go_big_quiet_want; go_big_quiet_op; first | go_big_quiet_on | (refine ⟨.bool false, fun zz => ?_, ?_⟩; (fail); go_big_quiet_on)))); refine wpQuiet_nil ?_; intro wz hw'; obtain ⟨zw, hw''⟩ := hw'; subst hw'')
                      go_wp2_with fail
                      go_roundw
                      case rel => exact ⟨m + 1, by omega, by go_num, by rw [HT.out], bl_go Y3 zw.ok⟩
                      case measure => simp [intOf]; omega
                  · have HT := Lib.hid (show anyTo xs.length M xs L (m + 1) = false by rw [HS.out]; unfold okC; rw [decide_eq_false hq0]; simp)
                    have d1 : decide (0 ≤ q) = false := decide_eq_false hq0
                    clear HS
                    go_wp2_with fail
                    (refine region_bw (by kernel_rfl) (by kernel_rfl) ?_; (repeat (first | go_big_quiet_skip | (go_big_quiet_want; go_big_quiet_op; first | go_big_quiet_on | (refine ⟨.bool false, fun zz => ?_, ?_⟩; (fail); go_big_quiet_on)))); refine wpQuiet_nil ?_; intro wz hw'; obtain ⟨zw, hw''⟩ := hw'; subst hw'')
                    go_wp2_with fail
                    go_roundw
                    case rel => exact ⟨m + 1, by omega, by go_num, by rw [HT.out], bl_go Y3 zw.ok⟩
                    case measure => simp [intOf]; omega
              · obtain rfl : m = L.length := by omega
                have L11 := L10.belo Y3
                have hc11 := L11.cellEM hlt
                have N11 := HSV.out.2.2.2.belo (bl_go Y2 Y3)
                have HI := Lib.hid (decide_eq_true HXN.out)
                rw [HVX.out] at hc11
                have CH := Lib.hid (hasInt_any A8 N.length N.length N x wr N11 rfl hNm)
                rw [HI.out] at CH
                rw [HXA.out]
                go_wp2_with (go_at_call 38; refine CH.out.mono ?_; rintro e w' ⟨rfl, rfl⟩)
                go_roundw
                case rel => exact ⟨j + 1, by omega, by go_num, bl_go Y2 Y3⟩
                case measure => simp [intOf]; omega
          · obtain rfl : j = V.length := by omega
            go_wp2_with (go_at_call 39; refine (ascend_t _ _ V _ L9 (by omega) HP.out).mono ?_; rintro e w10 ⟨rfl, b10⟩)
            go_ret
            exact ⟨rfl, bl_go (bl_go Z8 Y1) b10⟩)
    | false =>
      have hVe : besV W T xs L = [] := by unfold besV; rw [hv]; rfl
      have HV := Lib.hid hv
      rw [hVe] at cI cS
      clear hv hVe hVl
      have CI := Lib.hid cI
      have CS := Lib.hid cS
      clear cI cS
      obtain ⟨x0, x1, x2⟩ := id X2
      refine (CI.out _ R2 D2).mono ?_
      rintro e w3 ⟨A3, rfl, G3, b3⟩
      have R3 := R2.belo b3
      have D3 := D2.belo b3
      have B3 := bl_go B2 b3
      have X3 := X2.belo b3
      clear R2 B2 X2 D2 b3 x0 x1 x2
      obtain ⟨x0, x1, x2⟩ := id X3
      go_wp2_with fail
      refine (CS.out _ R3 D3).mono ?_
      rintro e w4 ⟨A4, c4, rfl, P4, b4, f4⟩
      have R4 := R3.belo b4
      have B4 := bl_go B3 b4
      have X4 := X3.belo b4
      have L4 := G3.rd.belo b4
      clear R3 B3 X3 D3 b4 x0 x1 x2 G3 f4
      go_wp2_with fail
      refine (sameInts_t _ _ _ _ [] _ L4 P4 (by unfold maxLen; simp)).mono ?_
      rintro e w5 ⟨rfl, b5⟩
      have R5 := R4.belo b5
      have B5 := bl_go B4 b5
      have X5 := X4.belo b5
      clear R4 B4 X4 b5 L4 P4
      obtain ⟨x0, x1, x2⟩ := id X5
      go_wp2_with (first
        | (go_at_call 37; refine (CV.out _ R5).mono ?_; rintro e w6 ⟨rfl, b6⟩; rw [HV.out]; have B6 := bl_go B5 b6)
        | (go_at_call 22; refine (alive_any _).mono ?_; rintro e w7 ⟨rfl, b7⟩))
      go_ret
      exact ⟨rfl, bl_go B6 b7⟩
  · have hg : decide ((1048576 : Int) < (bs.length : Int)) = true := by simp; omega
    go_enter Try.func6, Try.ntmps6
    go_wp2
    go_ret
    exact ⟨rfl, Below.refl _ _⟩
end Go.Proofs.Ytbplnjigoghboaa
