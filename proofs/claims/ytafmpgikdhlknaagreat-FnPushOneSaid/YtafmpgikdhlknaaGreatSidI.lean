
/- Contracts: the program's list of the sides of cells. -/
import Derived.Test.YtafmpgikdhlknaaGreatRelN
import Derived.Test.YtafmpgikdhlknaaGreatAtI
import Derived.Test.YtafmpgikdhlknaaGreatFldB
import Derived.Test.YtafmpgikdhlknaaGreatCell
import Derived.Deep.Cut
import Derived.Deep.CutRange
namespace Go.Proofs.YtafmpgikdhlknaaGreat
open Go.RowKit

/-! ### Lists of sides in memory -/
def sdV (W : Int) (s : Nat × Bool) : List Value := [.int .i64 (s.1 : Int), .int .i64 (sdT W s.1 s.2), .int .i64 (slx W s.1 s.2), .int .i64 (cY W s.1), .int .i64 (srx W s.1), .int .i64 (sry W s.1 s.2)]
def sdsV (W : Int) (L : List (Nat × Bool)) : List Value := L.flatMap (sdV W)
theorem sdsV_len (W : Int) (L : List (Nat × Bool)) : (sdsV W L).length = L.length * 6 := by
  induction L with
  | nil => rfl
  | cons a l ih => unfold sdsV at ih ⊢; rw [List.flatMap_cons, List.length_append, ih, List.length_cons]; simp [sdV]; omega
theorem sdsV_app (W : Int) (a b : List (Nat × Bool)) : sdsV W (a ++ b) = sdsV W a ++ sdsV W b := by unfold sdsV; rw [List.flatMap_append]
theorem sdsV_get (W : Int) (L : List (Nat × Bool)) (k : Nat) (h : k < L.length) (i : Nat) (hi : i < 6) : (sdsV W L)[k * 6 + i]? = (sdV W L[k])[i]? := by
  induction L generalizing k with
  | nil => simp at h
  | cons a l ih =>
    have e : sdsV W (a :: l) = sdV W a ++ sdsV W l := rfl
    have hl : (sdV W a).length = 6 := rfl
    cases k with
    | zero => rw [e, Nat.zero_mul, Nat.zero_add, List.getElem?_append_left (by omega)]; rfl
    | succ k =>
      have := ih k (by simpa using h)
      rw [e, show (k + 1) * 6 + i = 6 + (k * 6 + i) by omega, List.getElem?_append_right (by omega), hl, Nat.add_sub_cancel_left]
      exact this
def RdSd (W : Int) (w : World) (A : Option Addr) (L : List (Nat × Bool)) : Prop := Rd w A (sdsV W L)
theorem RdSd.at_ {W : Int} {w : World} {A : Option Addr} {L : List (Nat × Bool)} (h : RdSd W w A L) {k : Nat} (hk : k < L.length) :
    ∃ b off, A = some ⟨b, off, none⟩ ∧ w.cell? ⟨b, off + k * 6, none⟩ = some (.int .i64 (L[k].1 : Int)) ∧ w.cell? ⟨b, off + k * 6 + 1, none⟩ = some (.int .i64 (sdT W L[k].1 L[k].2)) ∧
      w.cell? ⟨b, off + k * 6 + 2, none⟩ = some (.int .i64 (slx W L[k].1 L[k].2)) ∧ w.cell? ⟨b, off + k * 6 + 3, none⟩ = some (.int .i64 (cY W L[k].1)) ∧ w.cell? ⟨b, off + k * 6 + 4, none⟩ = some (.int .i64 (srx W L[k].1)) ∧
      w.cell? ⟨b, off + k * 6 + 5, none⟩ = some (.int .i64 (sry W L[k].1 L[k].2)) := by
  have hn : (sdsV W L).length ≠ 0 := by rw [sdsV_len]; omega
  obtain ⟨ad, e, hc⟩ := h (by intro e; rw [e] at hn; exact hn rfl)
  have h0 := hc _ _ (sdsV_get W L 0 (by omega) 0 (by omega))
  rw [Nat.zero_mul, add_zero'] at h0
  have hs := World.cell?_spot h0
  obtain ⟨b, off, spot⟩ := ad
  simp only at hs
  subst hs
  have key : ∀ (i : Nat) (u : Value), (sdV W L[k])[i]? = some u → i < 6 → w.cell? ⟨b, off + k * 6 + i, none⟩ = some u := fun i u hu hi => by
    have := hc (k * 6 + i) u (by rw [sdsV_get W L k hk i hi]; exact hu)
    rw [add_off, ← Nat.add_assoc] at this
    exact this
  exact ⟨b, off, e, key 0 _ rfl (by omega), key 1 _ rfl (by omega), key 2 _ rfl (by omega), key 3 _ rfl (by omega), key 4 _ rfl (by omega), key 5 _ rfl (by omega)⟩
theorem Tryz.infoSd : (Tryz.prog.info? 95).map (fun i => (i.zero, i.size, i.bytes)) = some (some (.agg #[.int .i64 0, .int .i64 0, .int .i64 0, .int .i64 0, .int .i64 0, .int .i64 0]), 6, 48) := by kernel_rfl
def OwnSd (W : Int) (w : World) (base : Nat) (v : Value) (L : List (Nat × Bool)) : Prop :=
  ∃ (A : Option Addr) (c : Nat), v = .slice A L.length c ∧ w.ownsRow base 95 6 v L.length (sdsV W L)
theorem OwnSd.belo {W : Int} {w w' : World} {base : Nat} {v : Value} {L : List (Nat × Bool)} (h : OwnSd W w base v L) (hb : Below w.heap.size w w') : OwnSd W w' base v L := by
  obtain ⟨A, c, e, h⟩ := h; exact ⟨A, c, e, own_below h hb (Nat.le_refl _)⟩
theorem OwnSd.lt {W : Int} {w : World} {base : Nat} {v : Value} {L : List (Nat × Bool)} (h : OwnSd W w base v L) : ∀ k, v.ownBlock = some k → base ≤ k ∧ k < w.heap.size := fun k hk => by
  obtain ⟨A, c, e, h⟩ := h; exact h.lt k hk
theorem OwnSd.nil (W : Int) (w : World) (base : Nat) : OwnSd W w base (.slice none 0 0) [] := ⟨none, 0, rfl, World.ownsRow_nil _ _ _ _⟩
theorem OwnSd.rd {W : Int} {w : World} {base n c : Nat} {A : Option Addr} {L : List (Nat × Bool)} (h : OwnSd W w base (.slice A n c) L) : RdSd W w A L := fun hne => by
  obtain ⟨A', c', e, h⟩ := h
  have h0 : 0 < L.length := by
    rcases Nat.eq_zero_or_pos L.length with h0 | h0
    · rw [List.eq_nil_of_length_eq_zero h0] at hne; exact absurd rfl hne
    · exact h0
  obtain ⟨g, cap, hv, _, _⟩ := h.form h0
  have hA : A = some ⟨g, 0, none⟩ := by injection hv
  subst hA
  exact ⟨_, rfl, h.cells (g := g) rfl⟩
section
variable {ops : Array Oper} {rest : List Oper} {o : Oper} {a : Act} {Q : Exit → Act → World → Prop}
theorem app_side (W : Int) (w : World) (hgd : o.guard = none) (s x : Operand) (ho : o.op = .call { callee := .builtin .append, args := #[s, x], argTypes := #[92, 92] })
    (base : Nat) (v : Value) (L : List (Nat × Bool)) (hs : a.eval s = v) (hown : OwnSd W w base v L) (m : Nat) (b : Bool) (x0 x1 x2 x3 x4 x5 : Value) (hx : a.eval x = .slice (some ⟨w.heap.size, 0, none⟩) 1 1) (hn : L.length ≤ 1000000) (hbase : base ≤ w.heap.size)
    (hv : sdV W (m, b) = [x0, x1, x2, x3, x4, x5])
    (h : ∀ (A' : Option Addr) (c' : Nat) (w' : World), OwnSd W w' base (.slice A' (L.length + 1) c') (L ++ [(m, b)]) → Below base (w.alloc (.cells #[x0, x1, x2, x3, x4, x5] 95)) w' → wpList Tryz.prog ops Q rest (a.put o.dst (.slice A' (L.length + 1) c')) w') :
    wpList Tryz.prog ops Q (o :: rest) a (w.alloc (.cells #[x0, x1, x2, x3, x4, x5] 95)) := by
  obtain ⟨i0, hi, hz0, hz1, hz2⟩ := info_parts Tryz.infoSd
  obtain ⟨A, c, e, hown⟩ := hown
  refine wpList_append_own _ hgd s x 92 ho base 95 i0 _ 6 48 Tryz.underlying92 hi hz0 hz1 hz2 rfl (by decide) v _ _ hs (hown.alloc _) ⟨w.heap.size, 0, none⟩ 1 1 [x0, x1, x2, x3, x4, x5] hx rfl ?_ ?_ ?_ ?_ ?_ ?_
  · intro j y hj
    rw [add_off, Nat.zero_add, cell_of_row _ _ _ _ _ _ (heap_alloc_new w _)]
    simpa using hj
  · intro y hy
    rw [← hv] at hy
    simp [sdV] at hy
    rcases hy with rfl | rfl | rfl | rfl | rfl | rfl <;> rfl
  · unfold maxLen; omega
  · omega
  · simp; omega
  · intro v' w' h1 h2 _
    have e1 : sdsV W L ++ [x0, x1, x2, x3, x4, x5] = sdsV W (L ++ [(m, b)]) := by rw [sdsV_app, ← hv]; simp [sdsV]
    rw [e1] at h1
    obtain ⟨g, cap, rfl, _, _⟩ := h1.form (by omega)
    refine h _ _ w' ⟨_, _, by simp; exact ⟨rfl, rfl⟩, ?_⟩ ?_
    · have e2 : (L ++ [(m, b)]).length = L.length + 1 := by simp
      rw [e2]; exact h1
    · exact (Below.refl base _).grown h2 (by simp; omega) (fun k hk => (hown.lt k hk).1)
end
def sdK (W T : Int) (bs : List Bool) (m : Nat) : List (Nat × Bool) := (List.range m).flatMap fun v => (if sdU W T bs v false = true then [(v, false)] else []) ++ (if sdU W T bs v true = true then [(v, true)] else [])
theorem sdK_succ (W T : Int) (bs : List Bool) (m : Nat) : sdK W T bs (m + 1) = sdK W T bs m ++ ((if sdU W T bs m false = true then [(m, false)] else []) ++ (if sdU W T bs m true = true then [(m, true)] else [])) := by
  unfold sdK
  rw [List.range_succ, List.flatMap_append, List.flatMap_singleton]
theorem sdK_len (W T : Int) (bs : List Bool) : ∀ m, (sdK W T bs m).length ≤ 2 * m
  | 0 => Nat.le_refl _
  | m + 1 => by
    have := sdK_len W T bs m
    rw [sdK_succ, List.length_append, List.length_append]
    have h1 : (if sdU W T bs m false = true then [(m, false)] else []).length ≤ 1 := by split <;> simp
    have h2 : (if sdU W T bs m true = true then [(m, true)] else []).length ≤ 1 := by split <;> simp
    omega
theorem sides_K (W T : Int) (bs : List Bool) : sidesV W T bs = sdK W T bs (ncN W T) := rfl
/-- a list of sides under way -/
structure SidW (w : World) (W T : Int) (A : Option Addr) (n c : Nat) (L : List (Nat × Bool)) (v : Value) (wr : World) : Prop where
  own : OwnSd W wr (w.heap.size + 1) v L
  box : C3 wr w.heap.size (.int .i64 W) (.int .i64 T) (.slice A n c)
  bel : Below w.heap.size w wr
  big : w.heap.size + 1 ≤ wr.heap.size
theorem SidW.belo {w wr w' : World} {W T : Int} {A : Option Addr} {n c : Nat} {L : List (Nat × Bool)} {v : Value} (h : SidW w W T A n c L v wr) (hb : Below wr.heap.size wr w') : SidW w W T A n c L v w' :=
  ⟨h.own.belo hb, h.box.belo hb, bl_go h.bel hb, Nat.le_trans h.big hb.size⟩
theorem SidW.push {w wr w' : World} {W T : Int} {A : Option Addr} {n c : Nat} {L L' : List (Nat × Bool)} {v v' : Value} {o : Obj} (h : SidW w W T A n c L v wr) (ho : OwnSd W w' (w.heap.size + 1) v' L') (hb : Below (w.heap.size + 1) (wr.alloc o) w') : SidW w W T A n c L' v' w' := by
  have h1 : Below (w.heap.size + 1) wr w' := ((Below.refl _ _).alloc h.big o).trans hb
  exact ⟨ho, h.box.below h1 (Nat.lt_succ_self _), h.bel.trans (h1.mono (Nat.le_succ _)), Nat.le_trans h.big h1.size⟩
def NewSd (W T : Int) (bs : List Bool) (w : World) (e : Ending) (w' : World) : Prop := ∃ (A : Option Addr) (c : Nat), e = .returned (.slice A (sidesV W T bs).length c) ∧ RdSd W w' A (sidesV W T bs) ∧ Below w.heap.size w w' ∧ ∀ ad, A = some ad → w.heap.size ≤ ad.block
set_option maxRecDepth 100000 in
set_option maxHeartbeats 4000000 in
theorem sides_any (W T : Int) (A : Option Addr) (c n : Nat) (bs : List Bool) (w : World) (hr : Rd w A (bs.map .bool)) (hf : FldF W T n) (hn : bs.length = n) :
    Calls Tryz.prog 95 #[.agg #[.int .i64 W, .int .i64 T, .slice A n c]] w (NewSd W T bs w) := by
  have n36 : n ≤ 36 := hf.bd
  obtain ⟨w1, w6, t1, t6, hlen⟩ := id hf
  have hfg : FldG W T bs.length := ⟨w1, t1, by rw [hn]; exact hlen⟩
  have HFG := Lib.hid hfg
  have HCF := Lib.hid (cor_fld hfg)
  have CAT := Lib.hid (fun (x y : Int) (z : World) (R : Rd z A (bs.map .bool)) (p : -1000 ≤ x ∧ x ≤ 1000) (q : -1000 ≤ y ∧ y ≤ 1000) => by
    have := iAt_any W T A c bs x y z R w1 w6 t1 t6 (by rw [hn]; exact hlen) p q
    rw [hn] at this
    exact this)
  have X0 := C3.new w (.int .i64 W) (.int .i64 T) (.slice A n c) 25
  have B0 := bl_alloc (Below.refl w.heap.size w) (.cells #[.int .i64 W, .int .i64 T, .slice A n c] 25)
  have S0 : SidW w W T A n c (sdK W T bs 0) (.slice none 0 0) (w.alloc (.cells #[.int .i64 W, .int .i64 T, .slice A n c] 25)) := ⟨OwnSd.nil _ _ _, X0, B0, by simp⟩
  have hnc : (ncN W T : Int) = (W + 1) * (T + 1) := HCF.out.len
  have hnc2 := Int.mul_le_mul (show W + 1 ≤ 7 by omega) (show T + 1 ≤ 7 by omega) (by omega) (by omega)
  obtain ⟨x0, x1, x2⟩ := id X0
  have HNC := Lib.hid hnc
  obtain ⟨N, hN⟩ : ∃ N, ncN W T = N := ⟨_, rfl⟩
  rw [hN] at hnc
  have hN49 : N ≤ 49 := by omega
  have HN := Lib.hid hN
  have HNN := Lib.hid hnc
  clear hlen hf hn hfg X0 B0 hnc hnc2 hN
  go_enter Tryz.func95, Tryz.ntmps95
  go_wp2_with fail
  go_loopw [3, 5] (fun v i wr => ∃ (y m : Nat), i = .int .i64 y ∧ (y : Int) ≤ T + 1 ∧ Hid ((m : Int) = (y : Int) * (W + 1)) ∧ SidW w W T A n c (sdK W T bs m) v wr) (fun _ i _ => 10 - (intOf i).toNat)
  case atStart => exact ⟨0, 0, rfl, by omega, Lib.hid (by simp), S0⟩
  case round =>
    clear S0 x0 x1 x2
    obtain ⟨y, m, rfl, hy, HM, S1⟩ := hrel
    obtain ⟨x0, x1, x2⟩ := id S1.box
    by_cases hlt : (y : Int) ≤ T
    · go_wp2_with fail
      obtain ⟨wo, hwo⟩ : ∃ wo : World, wo = wr := ⟨_, rfl⟩
      subst hwo
      go_loopw [3, 6] (fun v i wr => ∃ (x m : Nat), i = .int .i64 x ∧ (x : Int) ≤ W + 1 ∧ Hid ((m : Int) = (y : Int) * (W + 1) + x) ∧ SidW w W T A n c (sdK W T bs m) v wr) (fun _ i _ => 10 - (intOf i).toNat)
      case atStart => exact ⟨0, m, rfl, by omega, Lib.hid (by rw [HM.out]; simp), S1⟩
      case round =>
        clear S1 x0 x1 x2
        obtain ⟨x, m2, rfl, hx, HM2, S2⟩ := hrel
        obtain ⟨x0, x1, x2⟩ := id S2.box
        by_cases hltx : (x : Int) ≤ W
        · obtain ⟨m', em, hm', ex, ey⟩ := HCF.out.at_ (x := (x : Int)) (y := (y : Int)) (by omega) (by omega) (by omega) (by omega)
          obtain rfl : m' = m2 := by have := HM2.out; omega
          have HX := Lib.hid (show cX W m' = x from ex)
          have HY := Lib.hid (show cY W m' = y from ey)
          have hm9 := Int.mul_le_mul (show (y : Int) ≤ 7 by omega) (show W + 1 ≤ 7 by omega) (by omega) (by omega)
          have i3 : IntKind.i64.wrap ((y : Int) * (W + 1)) = (y : Int) * (W + 1) := IntWalk.i64_in _ (by have := Int.mul_nonneg (show 0 ≤ (y : Int) by omega) (show 0 ≤ W + 1 by omega); omega)
          have i4 : IntKind.i64.wrap ((y : Int) * (W + 1) + x) = (m' : Int) := by rw [em]; exact IntWalk.i64_in _ (by omega)
          have hm50 : m' < 49 := by have := HN.out; omega
          obtain ⟨A3, c3, ev, -⟩ := id S2.own
          have hK := sdK_len W T bs m'
          have HSC := Lib.hid (sdK_succ W T bs m')
          obtain ⟨L, hL⟩ : ∃ L, sdK W T bs m' = L := ⟨_, rfl⟩
          rw [hL] at S2 ev hK HSC
          clear hL ex ey hm9
          subst ev
          obtain ⟨wq, hwq⟩ : ∃ wq : World, wq = wr := ⟨_, rfl⟩
          subst hwq
          have CA := Lib.hid (fun (dx dy : Int) (h1 : -1 ≤ dx ∧ dx ≤ 0) (h2 : -1 ≤ dy ∧ dy ≤ 0) (z : World) (R : Rd z A (bs.map .bool)) => CAT.out ((x : Int) + dx) ((y : Int) + dy) z R (by omega) (by omega))
          have C00 := Lib.hid (fun (z : World) (R : Rd z A (bs.map .bool)) => by have := CA.out 0 0 (by omega) (by omega) z R; rw [Int.add_zero, Int.add_zero] at this; exact this)
          have C01 := Lib.hid (fun (z : World) (R : Rd z A (bs.map .bool)) => by have := CA.out 0 (-1) (by omega) (by omega) z R; rw [Int.add_zero, show (y : Int) + -1 = (y : Int) - 1 by omega] at this; exact this)
          have C10 := Lib.hid (fun (z : World) (R : Rd z A (bs.map .bool)) => by have := CA.out (-1) 0 (by omega) (by omega) z R; rw [Int.add_zero, show (x : Int) + -1 = (x : Int) - 1 by omega] at this; exact this)
          have HU0 := Lib.hid (show sdU W T bs m' false = (atQ W T bs x y || atQ W T bs x ((y : Int) - 1)) by unfold sdU slx srx sry; rw [HX.out, HY.out]; rfl)
          have HU1 := Lib.hid (show sdU W T bs m' true = (atQ W T bs ((x : Int) - 1) y || atQ W T bs x y) by unfold sdU slx srx sry; rw [HX.out, HY.out]; rfl)
          have hv0 : sdV W (m', false) = [.int .i64 (m' : Int), .int .i64 ((m' : Int) + 1), .int .i64 (x : Int), .int .i64 (y : Int), .int .i64 (x : Int), .int .i64 ((y : Int) - 1)] := by unfold sdV sdT slx srx sry; rw [HX.out, HY.out]; rfl
          have hv1 : sdV W (m', true) = [.int .i64 (m' : Int), .int .i64 ((m' : Int) + (W + 1)), .int .i64 ((x : Int) - 1), .int .i64 (y : Int), .int .i64 (x : Int), .int .i64 (y : Int)] := by unfold sdV sdT slx srx sry; rw [HX.out, HY.out]; rfl
          have HV0 := Lib.hid hv0
          have HV1 := Lib.hid hv1
          generalize atQ W T bs x y = p at C00 HU0 HU1
          generalize atQ W T bs x ((y : Int) - 1) = q at C01 HU0
          generalize atQ W T bs ((x : Int) - 1) y = r at C10 HU1
          generalize sdU W T bs m' false = u0 at HU0 HSC
          generalize sdU W T bs m' true = u1 at HU1 HSC
          clear hv0 hv1
          go_upto_region 10 with fail
          go_cut [38] from 17 to 74 (fun s38 wx => s38 = .bool u0 ∧ SidW w W T A n c L (.slice A3 L.length c3) wx)
          case first =>
            cases p with
            | true =>
              go_wp2_with (first | (go_at_call 117; (with_reducible refine (C00.out _ (hr.below S2.bel (Nat.le_refl _))).mono ?_); rintro e w3 ⟨rfl, b3⟩))
              go_meet
              exact ⟨by rw [HU0.out]; rfl, S2.belo b3⟩
            | false =>
              go_wp2_with (first | (go_at_call 117; (with_reducible refine (C00.out _ (hr.below S2.bel (Nat.le_refl _))).mono ?_); rintro e w3 ⟨rfl, b3⟩; have S3 := S2.belo b3; obtain ⟨y0, y1, y2⟩ := id S3.box) | (go_at_call 117; (with_reducible refine (C01.out _ (hr.below S3.bel (Nat.le_refl _))).mono ?_); rintro e w4 ⟨rfl, b4⟩))
              go_meet
              exact ⟨by rw [HU0.out]; rfl, S3.belo b4⟩
          case rest =>
            obtain ⟨rfl, S3⟩ := hcut
            clear S2 x0 x1 x2
            have hL100 : L.length ≤ 1000000 := by omega
            go_upto_if 38 with fail
            go_cut [3] from 17 to 74 (fun s3 wx => ∃ (A4 : Option Addr) (c4 : Nat) (L1 : List (Nat × Bool)), Hid (L1 = L ++ (if u0 = true then [(m', false)] else [])) ∧ s3 = .slice A4 L1.length c4 ∧ L1.length ≤ 1000 ∧ SidW w W T A n c L1 (.slice A4 L1.length c4) wx)
            case first =>
              cases u0 with
              | true =>
                go_wp2_with (at_builtin; refine app_side W _ rfl _ _ rfl (w.heap.size + 1) _ _ rfl S3.own m' false _ _ _ _ _ _ rfl hL100 S3.big HV0.out ?_; intro A4 c4 w4 O4 b4)
                go_meet
                have hl1 : (L ++ [(m', false)]).length = L.length + 1 := by simp
                exact ⟨A4, c4, L ++ [(m', false)], Lib.hid (by simp), by rw [hl1], by omega, by rw [hl1]; exact S3.push O4 b4⟩
              | false =>
                go_wp2_with fail
                go_meet
                exact ⟨A3, c3, L, Lib.hid (by simp), rfl, by omega, S3⟩
            case rest =>
              obtain ⟨A4, c4, L1, HL1, rfl, hl1, S4⟩ := hcut
              clear S3 hL100
              obtain ⟨x0, x1, x2⟩ := id S4.box
              obtain ⟨wd, hwd⟩ : ∃ wd : World, wd = wc := ⟨_, rfl⟩
              subst hwd
              go_upto_region 12 with fail
              go_cut [61] from 17 to 74 (fun s61 wx => s61 = .bool u1 ∧ SidW w W T A n c L1 (.slice A4 L1.length c4) wx)
              case first =>
                cases p with
                | true =>
                  go_wp2_with (first | (go_at_call 117; (with_reducible refine (C00.out _ (hr.below S4.bel (Nat.le_refl _))).mono ?_); rintro e w5 ⟨rfl, b5⟩))
                  go_meet
                  exact ⟨by rw [HU1.out, Bool.or_true], S4.belo b5⟩
                | false =>
                  go_wp2_with (first | (go_at_call 117; (with_reducible refine (C00.out _ (hr.below S4.bel (Nat.le_refl _))).mono ?_); rintro e w5 ⟨rfl, b5⟩; have S5 := S4.belo b5; obtain ⟨y0, y1, y2⟩ := id S5.box) | (go_at_call 117; (with_reducible refine (C10.out _ (hr.below S5.bel (Nat.le_refl _))).mono ?_); rintro e w6 ⟨rfl, b6⟩))
                  go_meet
                  exact ⟨by rw [HU1.out, Bool.or_false], S5.belo b6⟩
              case rest =>
                obtain ⟨rfl, S5⟩ := hcut
                clear S4 x0 x1 x2
                have hL100 : L1.length ≤ 1000000 := by omega
                cases u1 with
                | true =>
                  go_wp2_with (at_builtin; refine app_side W _ rfl _ _ rfl (w.heap.size + 1) _ _ rfl S5.own m' true _ _ _ _ _ _ rfl hL100 S5.big HV1.out ?_; intro A6 c6 w6 O6 b6)
                  go_roundw
                  case rel => exact ⟨x + 1, m' + 1, by go_num, by omega, Lib.hid (by omega), by rw [HSC.out, if_pos rfl, ← List.append_assoc, ← HL1.out]; exact S5.push O6 b6⟩
                  case measure => simp [intOf]; omega
                | false =>
                  go_wp2_with fail
                  go_roundw
                  case rel => exact ⟨x + 1, m' + 1, by go_num, by omega, Lib.hid (by omega), by rw [HSC.out, show (L ++ ((if u0 = true then [(m', false)] else []) ++ (if false = true then [(m', true)] else []))) = L1 by rw [HL1.out]; simp]; exact S5⟩
                  case measure => simp [intOf]; omega
        · have hxe : (x : Int) = W + 1 := by omega
          have HME := Lib.hid (show (m2 : Int) = ((y + 1 : Nat) : Int) * (W + 1) by rw [show ((y + 1 : Nat) : Int) = (y : Int) + 1 by omega, Int.add_mul, Int.one_mul, HM2.out, hxe])
          clear hxe
          go_wp2_with fail
          go_roundw
          case rel => exact ⟨y + 1, m2, by go_num, by omega, HME, S2⟩
          case measure => simp [intOf]; omega
    · have hye : (y : Int) = T + 1 := by omega
      have hmN : (m : Int) = (N : Int) := by rw [HM.out, HNN.out, hye, Int.mul_comm]
      obtain rfl : m = N := by omega
      obtain ⟨A3, c3, ev, -⟩ := id S1.own
      have HE := Lib.hid (show sidesV W T bs = sdK W T bs m by rw [sides_K, HN.out])
      subst ev
      clear hye hmN
      go_wp2_with fail
      go_ret
      exact ⟨A3, c3, by rw [HE.out]; rfl, by rw [HE.out]; exact S1.own.rd, S1.bel, fun ad e => by have := (S1.own.lt ad.block (by rw [e]; rfl)).1; omega⟩
end Go.Proofs.YtafmpgikdhlknaaGreat
