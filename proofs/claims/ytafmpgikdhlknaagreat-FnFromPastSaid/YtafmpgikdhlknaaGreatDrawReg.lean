
/- Contracts: the draws of truths and of regions. -/
import Derived.Test.YtafmpgikdhlknaaGreatDraw
import Derived.Test.YtafmpgikdhlknaaGreatBoxes
import Derived.Test.YtafmpgikdhlknaaGreatGb
import Derived.Deep.RegionLaw
namespace Go.Proofs.YtafmpgikdhlknaaGreat
open Go.RowKit

section
set_option maxRecDepth 100000
variable {ops : Array Oper} {rest : List Oper} {o : Oper} {a : Act} {Q : Exit → Act → World → Prop}
theorem step_app_bool {K : Act → World → Prop} {E : Prop} (W : World) (hgd : o.guard = none) (s x : Operand) (ho : o.op = .call { callee := .builtin .append, args := #[s, x], argTypes := #[23, 23] })
    (base : Nat) (v : Value) (xs : List Bool) (hs : a.eval s = v) (hown : OwnB W base v xs) (u : Bool) (H : Nat) (hx : a.eval x = .slice (some ⟨H, 0, none⟩) 1 1) (hc : W.cell? ⟨H, 0, none⟩ = some (.bool u)) (hn : xs.length ≤ 1000000000000) (hbase : base ≤ W.heap.size)
    (h : ∀ (v' : Value) (w' : World), OwnB w' base v' (xs ++ [u]) → Below base W w' → K (a.put o.dst v') w') :
    if Region.wanted o (yielded ops a.tmps) = true then Oper.wp Tryz.prog o a W K Q else E := by
  obtain ⟨i0, hi, hz0, hz1, hz2⟩ := info_parts Tryz.infoB
  obtain ⟨A, c, e, hown⟩ := hown
  refine step_append_lies _ hgd s x 23 ho base 4 i0 (.bool false) 1 1 Tryz.underlying23 hi hz0 hz1 hz2 rfl (by decide) v _ _ hs hown ⟨H, 0, none⟩ 1 1 [.bool u] hx rfl ?_ ?_ (by decide) ?_ ?_ ?_ _ rfl ?_
  · intro j y hj
    match j, hj with
    | 0, hj => simp at hj; subst hj; simpa [Addr.add] using hc
  · intro y hy; simp at hy; subst hy; rfl
  · unfold maxLen; omega
  · omega
  · exact hbase
  · intro g cap w' h1 h2 h3 _
    have e1 : xs.map Value.bool ++ [.bool u] = (xs ++ [u]).map .bool := by simp
    rw [e1] at h1
    refine h _ w' ⟨_, _, by simp; exact ⟨rfl, rfl⟩, ?_⟩ ((Below.refl base W).grown h2 hbase (fun k hk => (hown.lt k hk).1))
    have e2 : (xs ++ [u]).length = xs.length + 1 := by simp
    rw [e2]; exact h1
end
/-- a truth is handed back -/
def SomeBit (g : Nat) (A : Option Addr) (c : Nat) (bytes : List Int) (p : Nat) (w : World) (e : Ending) (w' : World) : Prop :=
  ∃ (b : Bool) (p' : Nat), e = .returned (.bool b) ∧ RdS w' g A c bytes p' ∧ p' ≤ p + 1 ∧ w.grownBy w' (some g)
set_option maxHeartbeats 1000000 in
theorem odd_any (n : Int) (w : World) (g : Nat) (A : Option Addr) (c : Nat) (bytes : List Int) (p : Nat) (h : RdS w g A c bytes p) (hp : p ≤ 1000000000) (hn0 : 0 ≤ n) (hn : n ≤ 1000) :
    Calls Tryz.prog 64 #[.pointer (some ⟨g, 0, none⟩), .int .i64 n] w (SomeBit g A c bytes p w) := by
  by_cases h0 : n = 0
  · subst h0
    go_enter Tryz.func64, Tryz.ntmps64
    go_wp2
    go_ret
    exact ⟨false, p, rfl, h, by omega, World.grownBy.refl _ _⟩
  · have h1 : 0 < n := by omega
    clear h0
    go_enter Tryz.func64, Tryz.ntmps64
    go_wp2_with fail
    refine (pick_any n _ g A c bytes p h hp (by omega)).mono ?_
    rintro e w2 ⟨r, rfl, -, S2, G2⟩
    go_wp2
    go_ret
    exact ⟨_, p + 1, rfl, S2, by omega, G2⟩
/-- a region is handed back; the reader has gone on -/
def SomeReg (g : Nat) (A : Option Addr) (c : Nat) (bytes : List Int) (p more : Nat) (w : World) (e : Ending) (w' : World) : Prop :=
  ∃ (W T : Int) (bs : List Bool) (B : Option Addr) (k p' : Nat), e = .returned (.agg #[.int .i64 W, .int .i64 T, .slice B bs.length k]) ∧ Rd w' B (bs.map .bool) ∧ bs.length ≤ 37 ∧ RdS w' g A c bytes p' ∧ p' ≤ p + more ∧ w.grownBy w' (some g) ∧ (∀ ad, B = some ad → w.heap.size ≤ ad.block)
/-- a region under way: its box at bx, the list its own -/
structure RegI (w : World) (g bx : Nat) (A : Option Addr) (c : Nat) (bytes : List Int) (W T : Int) (q : Nat) (xs : List Bool) (v : Value) (wr : World) : Prop where
  own : OwnB wr (bx + 1) v xs
  box : wr.heap[bx]? = some (.cells #[.int .i64 W, .int .i64 T, v] 25 (0, 0))
  res : wr.heap[w.heap.size]? = some (.cells #[.int .i64 0, .int .i64 0, .slice none 0 0] 25 (0, 0))
  rds : RdS wr g A c bytes q
  ha : bytes ≠ [] → ∀ ad, A = some ad → ad.block < w.heap.size
  gb : w.grownBy wr (some g)
  hg : g < w.heap.size
  hb : w.heap.size < bx
theorem heap_lt {w : World} {b : Nat} {o : Obj} (h : w.heap[b]? = some o) : b < w.heap.size := by
  rcases Nat.lt_or_ge b w.heap.size with h1 | h1
  · exact h1
  · rw [Array.getElem?_eq_none h1] at h; cases h
section
variable {w wr w' : World} {g bx : Nat} {A : Option Addr} {c : Nat} {bytes : List Int} {W T : Int} {q : Nat} {xs : List Bool} {v : Value}
theorem RegI.pick (h : RegI w g bx A c bytes W T q xs v wr) {q' : Nat} (S : RdS w' g A c bytes q') (G : wr.grownBy w' (some g)) : RegI w g bx A c bytes W T q' xs v w' :=
  ⟨h.own.grown G (by have := h.hg; have := h.hb; omega), (G.block bx (heap_lt h.box) (by have := h.hg; have := h.hb; simp; omega)).trans h.box, (G.block _ (heap_lt h.res) (by have := h.hg; simp; omega)).trans h.res, S, h.ha, grownBy_trans' h.gb G, h.hg, h.hb⟩
theorem RegI.below (h : RegI w g bx A c bytes W T q xs v wr) (hb : Below wr.heap.size wr w') : RegI w g bx A c bytes W T q xs v w' :=
  ⟨h.own.belo hb, (hb.block bx (heap_lt h.box)).trans h.box, (hb.block _ (heap_lt h.res)).trans h.res, h.rds.below (heap_lt h.rds.1) hb, h.ha, gb_below h.gb hb, h.hg, h.hb⟩
/-- a cell of the box is written -/
theorem RegI.put (h : RegI w g bx A c bytes W T q xs v wr) {W' T' : Int} {v' u : Value} {ys : List Bool} {i : Nat} (own : OwnB w' (bx + 1) v' ys) (hb : Below (bx + 1) wr w')
    (he : (#[.int .i64 W, .int .i64 T, v] : Array Value).setIfInBounds i u = #[.int .i64 W', .int .i64 T', v']) :
    RegI w g bx A c bytes W' T' q ys v' (w'.setCell ⟨bx, i, none⟩ u) := by
  have hgb := h.hg
  have hbb := h.hb
  have e := (hb.block bx (by omega)).trans h.box
  have hk : ∀ j, j < bx + 1 → j ≠ bx → (w'.setCell ⟨bx, i, none⟩ u).heap[j]? = wr.heap[j]? := fun j hi hne => by
    rw [Below.heap_setCell _ _ _ _ (by simpa using hne)]; exact hb.block j hi
  refine ⟨own.set (by simp) _, ?_, (hk _ (by omega) (by omega)).trans h.res, ?_, h.ha, ?_, h.hg, h.hb⟩
  · rw [heap_setCell_same w' bx i _ _ _ e, he]
  · obtain ⟨r1, r2, r3, r4⟩ := h.rds
    refine ⟨(hk g (by omega) (by omega)).trans r1, fun hne => ?_, r3, r4⟩
    obtain ⟨ad, ha, hc⟩ := r2 hne
    have hlt := h.ha (by simpa using hne) ad ha
    refine ⟨ad, ha, fun j u hu => ?_⟩
    have hab : (ad.add j).block = ad.block := by unfold Addr.add; split <;> rfl
    have e1 := hk ad.block (by omega) (by omega)
    rw [← hab] at e1
    exact (World.cell?_of_block (a := ad.add j) e1).trans (hc j u hu)
  · exact ⟨hb.os.trans h.gb.os, hb.tape.trans h.gb.tape, hb.output.trans h.gb.output, by have := h.gb.size; have := hb.size; simp [World.setCell]; omega, fun i hi hn => by
      rw [Below.heap_setCell _ _ _ _ (by simp; omega)]; exact (hb.block i (by omega)).trans (h.gb.block i hi hn)⟩
/-- one truth more -/
theorem RegI.app (h : RegI w g bx A c bytes W T q xs v wr) {v' : Value} {ys : List Bool} (own : OwnB w' (bx + 1) v' ys) (hb : Below (bx + 1) wr w') :
    RegI w g bx A c bytes W T q ys v' (w'.setCell ⟨bx, 2, none⟩ v') := h.put own hb (by simp)
theorem RegI.tall (h : RegI w g bx A c bytes W T q xs v wr) (U : Int) : RegI w g bx A c bytes W U q xs v (wr.setCell ⟨bx, 1, none⟩ (.int .i64 U)) := h.put h.own (Below.refl _ _) (by simp)
theorem RegI.six (h : RegI w g bx A c bytes W T q xs v wr) : RegI w g bx A c bytes 6 6 q [] (.slice none 0 0) (((wr.setCell ⟨bx, 0, none⟩ (.int .i64 6)).setCell ⟨bx, 1, none⟩ (.int .i64 6)).setCell ⟨bx, 2, none⟩ (.slice none 0 0)) := by
  have h1 : RegI w g bx A c bytes 6 T q xs v (wr.setCell ⟨bx, 0, none⟩ (.int .i64 6)) := h.put h.own (Below.refl _ _) (by simp)
  have h2 := h1.tall 6
  exact h2.put (OwnB.nil _ _) (Below.refl _ _) (by simp)
theorem RegI.new (K : w.grownBy wr (some g)) (P : wr.heap[w.heap.size]? = some (.cells #[.int .i64 0, .int .i64 0, .slice none 0 0] 25 (0, 0))) (S : RdS wr g A c bytes q) (hA : bytes ≠ [] → ∀ ad, A = some ad → ad.block < w.heap.size) (hg : g < w.heap.size) (W T : Int) :
    RegI w g wr.heap.size A c bytes W T q [] (.slice none 0 0) (wr.alloc (.cells #[.int .i64 W, .int .i64 T, .slice none 0 0] 25)) :=
  ⟨OwnB.nil _ _, heap_alloc_new _ _, ((bl_alloc (Below.refl _ _) _).block _ (heap_lt P)).trans P, S.below (heap_lt S.1) (bl_alloc (Below.refl _ _) _), hA, gb_below K (bl_alloc (Below.refl _ _) _), hg, heap_lt P⟩
theorem RegI.cells (h : RegI w g bx A c bytes W T q xs v wr) : bx < wr.heap.size ∧ wr.cell? ⟨bx, 0, none⟩ = some (.int .i64 W) ∧ wr.cell? ⟨bx, 1, none⟩ = some (.int .i64 T) ∧ wr.cell? ⟨bx, 2, none⟩ = some v ∧ wr.frozen? ⟨bx, 2, none⟩ = false := by
  obtain ⟨a, b, c, d, e, f⟩ := blk3 h.box
  exact ⟨heap_lt h.box, a, b, c, f⟩
theorem reg_set {i : Nat} {u : Value} (o : OwnB wr (bx + 1) v xs) (r : RdS wr g A c bytes q) (k : w.grownBy wr (some g)) (ha : bytes ≠ [] → ∀ ad, A = some ad → ad.block < w.heap.size) (hg : g < w.heap.size) (hb : w.heap.size < bx) :
    OwnB (wr.setCell ⟨w.heap.size, i, none⟩ u) (bx + 1) v xs ∧ RdS (wr.setCell ⟨w.heap.size, i, none⟩ u) g A c bytes q ∧ w.grownBy (wr.setCell ⟨w.heap.size, i, none⟩ u) (some g) := by
  have hk : ∀ j, j < w.heap.size → (wr.setCell ⟨w.heap.size, i, none⟩ u).heap[j]? = wr.heap[j]? := fun j hi => Below.heap_setCell _ _ _ _ (by simp; omega)
  refine ⟨o.set (by simp; omega) _, ?_, ⟨k.os, k.tape, k.output, by have := k.size; simp [World.setCell]; omega, fun j hi hn => (hk j hi).trans (k.block j hi hn)⟩⟩
  obtain ⟨r1, r2, r3, r4⟩ := r
  refine ⟨(hk g hg).trans r1, fun hne => ?_, r3, r4⟩
  obtain ⟨ad, h1, hc⟩ := r2 hne
  have hlt := ha (by simpa using hne) ad h1
  refine ⟨ad, h1, fun j u hu => ?_⟩
  have hab : (ad.add j).block = ad.block := by unfold Addr.add; split <;> rfl
  have e1 := hk ad.block (by omega)
  rw [← hab] at e1
  exact (World.cell?_of_block (a := ad.add j) e1).trans (hc j u hu)
/-- it is handed back -/
theorem RegI.done (h : RegI w g bx A c bytes W T q xs v wr) {W' T' : Int} {ys : List Bool} {B : Option Addr} {k p more : Nat} (own : OwnB wr (bx + 1) (.slice B ys.length k) ys) (hn : ys.length ≤ 37) (hq : q ≤ p + more) :
    SomeReg g A c bytes p more w (.returned (.agg #[.int .i64 W', .int .i64 T', .slice B ys.length k])) (((wr.setCell ⟨w.heap.size, 0, none⟩ (.int .i64 W')).setCell ⟨w.heap.size, 1, none⟩ (.int .i64 T')).setCell ⟨w.heap.size, 2, none⟩ (.slice B ys.length k)) := by
  obtain ⟨o1, r1, k1⟩ := reg_set (i := 0) (u := .int .i64 W') own h.rds h.gb h.ha h.hg h.hb
  obtain ⟨o2, r2, k2⟩ := reg_set (i := 1) (u := .int .i64 T') o1 r1 k1 h.ha h.hg h.hb
  obtain ⟨o3, r3, k3⟩ := reg_set (i := 2) (u := .slice B ys.length k) o2 r2 k2 h.ha h.hg h.hb
  have hb := h.hb
  obtain ⟨A', c', e, o⟩ := id o3
  injection e with e1 e2 e3
  subst e1; subst e3
  exact ⟨W', T', ys, _, _, q, rfl, Rd.own o, hn, r3, hq, k3, fun ad ha => by subst ha; have := (o.lt ad.block rfl).1; omega⟩
end
set_option maxRecDepth 100000 in
set_option maxHeartbeats 2000000 in
theorem region_any (n : Int) (w : World) (g : Nat) (A : Option Addr) (c : Nat) (bytes : List Int) (p : Nat) (h : RdS w g A c bytes p) (hp : p ≤ 100000) (hn0 : 0 ≤ n) (hn : n ≤ 1000) :
    Calls Tryz.prog 65 #[.pointer (some ⟨g, 0, none⟩), .int .i64 n] w (SomeReg g A c bytes p 30 w) := by
  have hg := heap_lt h.1
  have hA : bytes ≠ [] → ∀ ad, A = some ad → ad.block < w.heap.size := by
    intro hne ad ha
    obtain ⟨ad', ha', hc⟩ := h.2.1 (by simpa using hne)
    obtain rfl := Option.some.inj (ha.symm.trans ha')
    obtain ⟨x, ys, rfl⟩ := List.exists_cons_of_ne_nil hne
    have := World.block_lt_of_cell? w _ (hc 0 _ rfl)
    simpa [Addr.add] using this
  have h0 := h.below hg (bl_alloc (Below.refl _ _) (.cells #[.int .i64 0, .int .i64 0, .slice none 0 0] 25))
  have P0 := heap_alloc_new w (.cells #[.int .i64 0, .int .i64 0, .slice none 0 0] 25)
  have K0 : w.grownBy (w.alloc (.cells #[.int .i64 0, .int .i64 0, .slice none 0 0] 25)) (some g) := gb_below (World.grownBy.refl _ _) (bl_alloc (Below.refl _ _) _)
  have z0 : w.heap.size < (w.alloc (.cells #[.int .i64 0, .int .i64 0, .slice none 0 0] 25)).heap.size := by simp
  go_enter Tryz.func65, Tryz.ntmps65
  go_wp2_with fail
  refine (pick_any 6 _ g A c bytes p h0 (by omega) (by omega)).mono ?_
  rintro e w1 ⟨r1, rfl, hr1, S1, G1⟩
  have hr1' : 0 ≤ r1 ∧ r1 ≤ 5 := by unfold Below0 at hr1; omega
  clear hr1
  obtain ⟨a1, a2⟩ := hr1'
  have K1 := grownBy_trans' K0 G1
  have P1 := (G1.block _ z0 (by simp; omega)).trans P0
  have z1 := heap_lt P1
  go_wp2_with fail
  refine (pick_any 6 _ g A c bytes _ S1 (by omega) (by omega)).mono ?_
  rintro e w2 ⟨r2, rfl, hr2, S2, G2⟩
  have hr2' : 0 ≤ r2 ∧ r2 ≤ 5 := by unfold Below0 at hr2; omega
  clear hr2
  obtain ⟨b1, b2⟩ := hr2'
  have K2 := grownBy_trans' K1 G2
  have P2 := (G2.block _ z1 (by simp; omega)).trans P1
  have z2 := heap_lt P2
  have M := mul_bd (W := 1 + r1) (T := 1 + r2) (by omega) (by omega) (by omega) (by omega)
  obtain ⟨m1, m2⟩ := M
  by_cases hbig : 24 < (1 + r1) * (1 + r2)
  focus
    have hW : (1 + r1) * (24 / (1 + r1)) ≤ 24 ∧ 1 ≤ 24 / (1 + r1) ∧ 24 / (1 + r1) ≤ 24 := by
      rcases (show r1 = 0 ∨ r1 = 1 ∨ r1 = 2 ∨ r1 = 3 ∨ r1 = 4 ∨ r1 = 5 from by omega) with rfl | rfl | rfl | rfl | rfl | rfl <;> decide
    have H1 := RegI.new K2 P2 S2 hA hg (1 + r1) (24 / (1 + r1))
    go_wp2_with fail
    generalize w2.alloc (.cells #[.int .i64 (1 + r1), .int .i64 (24 / (1 + r1)), .slice none 0 0] 25) = wq at *
    generalize 24 / (1 + r1) = T at *
  rotate_left
  focus
    have hW : (1 + r1) * (1 + r2) ≤ 24 ∧ 1 ≤ 1 + r2 ∧ 1 + r2 ≤ 24 := by omega
    have H1 := RegI.new K2 P2 S2 hA hg (1 + r1) (1 + r2)
    have hd : decide (24 < (1 + r1) * (1 + r2)) = false := decide_eq_false hbig
    go_wp2_with fail
    generalize w2.alloc (.cells #[.int .i64 (1 + r1), .int .i64 (1 + r2), .slice none 0 0] 25) = wq at *
    generalize 1 + r2 = T at *
  all_goals (
      generalize hWe : 1 + r1 = W at *
      obtain ⟨N, hN⟩ := Int.eq_ofNat_of_zero_le (show 0 ≤ W * T from Int.mul_nonneg (by omega) (by omega))
      have HN := Lib.hid hN
      have hN24 : N ≤ 24 := by omega
      clear hN
      refine (pick_any 8 _ g A c bytes _ H1.rds (by omega) (by omega)).mono ?_
      rintro e w3 ⟨r3, rfl, hr3, S3, G3⟩
      have H3 := H1.pick S3 G3
      have hr3' : 0 ≤ r3 ∧ r3 ≤ 7 := by unfold Below0 at hr3; omega
      clear hr3 H1
      obtain ⟨c1, c2⟩ := hr3'
      go_wp2_with fail
      generalize w2.heap.size = bx at *
      go_loopw [7] (fun i wr => ∃ (k q : Nat) (xs : List Bool) (v : Value), k ≤ N ∧ i = .int .i64 k ∧ Hid (xs.length = k) ∧ q ≤ p + 3 + k ∧ RegI w g bx A c bytes W T q xs v wr) (fun i _ => N - (intOf i).toNat)
      case atStart => exact ⟨0, _, [], _, Nat.zero_le _, rfl, Lib.hid rfl, by omega, H3⟩
      case round =>
        clear H3
        obtain ⟨k, q, xs, v, hk, rfl, HX, hq, HR⟩ := hrel
        obtain ⟨zb, y0, y1, y2, f2⟩ := HR.cells
        by_cases hlt : k < N
        · have hlt2 : (k : Int) < W * T := by have := HN.out; omega
          have hxl : xs.length ≤ 1000000000000 := by rw [HX.out]; omega
          go_wp2_with fail
          go_region_law (first
            | (refine step_app_bool _ rfl _ _ rfl (bx + 1) _ xs rfl (H5 _).own _ _ rfl (cell_of_row _ _ 0 _ _ _ (heap_alloc_new _ _)) hxl (by simp; omega) ?_
               intro v4 w5 o4 b4
               obtain ⟨A4, c4, rfl, -⟩ := id o4
               simp only [List.length_append, List.length_cons, List.length_nil, Nat.zero_add] at o4
               have T4 := (b4.block bx (by omega)).trans (H5 _).box
               have H6 := (H5 _).app o4 b4
               obtain ⟨u0, u1, u2, g0, g1, g2⟩ := blk3 T4)
            | (go_simp
               go_at_call 45
               refine (pick_any 10 wr.drew g A c bytes q HR.rds (by omega) (by omega)).mono ?_
               rintro e w4 ⟨r4, rfl, hr4, S4, G4⟩
               have G5 : wr.grownBy w4 (some g) := ⟨G4.os, G4.tape, G4.output, G4.size, G4.block⟩
               have H4 := HR.pick S4 G5
               have H5 := fun (o : Obj) => H4.below (bl_alloc (Below.refl _ _) o)
               obtain ⟨zb4, x0, x1, x2, x3⟩ := H4.cells))
          all_goals (
            go_wp2
            go_roundw
            case rel => refine ⟨k + 1, q + 1, xs ++ [_], _, by omega, by go_num, Lib.hid (by simp [HX.out]), by omega, H6⟩
            case measure => simp [intOf]; omega)
        · have hge : ¬ ((k : Int) < W * T) := by have := HN.out; omega
          have hxl : xs.length ≤ 24 := by rw [HX.out]; omega
          have hWT0 : 0 ≤ W * T := by have := HN.out; omega
          go_wp2_with fail
          refine (odd_any n _ g A c bytes q HR.rds (by omega) hn0 hn).mono ?_
          rintro e w6 ⟨b, q', rfl, S6, hq6, G6⟩
          have H6 := HR.pick S6 G6
          have hq7 : q' ≤ p + 29 := by omega
          obtain ⟨A6, c6, rfl, -⟩ := id H6.own
          obtain ⟨zc, x0, x1, x2, x3⟩ := H6.cells
          clear y0 y1 y2 f2 zb HR HX hq hq6 hge
          cases b with
          | false =>
            obtain ⟨s0, s1, s2, t0, t1, t2⟩ := blk3 H6.res
            go_wp2_with fail
            refine bodyPost_ret (v := .agg #[.int .i64 W, .int .i64 T, .slice A6 xs.length c6]) (by simp [results, Tryz.results65, go_sem, s0, s1, s2]) rfl ?_
            exact H6.done H6.own (by omega) (by omega)
          | true =>
            go_wp2_with fail
            refine (pick_any 3 _ g A c bytes q' H6.rds (by omega) (by omega)).mono ?_
            rintro e w7 ⟨r7, rfl, hr7, S7, G7⟩
            have H7 := H6.pick S7 G7
            obtain ⟨zd, v0, v1, v2, v3⟩ := H7.cells
            clear x0 x1 x2 x3 zc H6
            have hr7' : r7 = 0 ∨ r7 = 1 ∨ r7 = 2 := by unfold Below0 at hr7; omega
            clear hr7
            obtain ⟨s0, s1, s2, t0, t1, t2⟩ := blk3 H7.res
            have n1 : w.heap.size ≠ bx := by omega
            have n2 : bx ≠ w.heap.size := by omega
            rcases hr7' with rfl | rfl | rfl
            · go_wp2_with (at_builtin; refine app_bool _ rfl _ _ rfl (bx + 1) _ _ rfl H7.own true rfl (by omega) (by omega) ?_; intro A8 c8 w8 o8 g8; have b8 := appB_below (Below.refl (bx + 1) w7) (Nat.le_refl _) (by omega) H7.own g8; have H8 := H7.app o8 b8; obtain ⟨p0, p1, p2, p3, p4, p5⟩ := blk3 ((b8.block bx (by omega)).trans H7.box); obtain ⟨i0, i1, i2, j0, j1, j2⟩ := blk3 ((b8.block w.heap.size (by omega)).trans H7.res))
              refine bodyPost_ret (v := .agg #[.int .i64 W, .int .i64 T, .slice A8 (xs.length + 1) c8]) (by simp [results, Tryz.results65, go_sem, i0, i1, i2]) rfl ?_
              have e : (xs ++ [true]).length = xs.length + 1 := by simp
              have HD := H8.done (W' := W) (T' := T) (ys := xs ++ [true]) (B := A8) (k := c8) (p := p) (more := 30) (by rw [e]; exact H8.own) (by rw [e]; omega) (by omega)
              rw [e] at HD
              exact HD
            · go_wp2_with fail
              refine bodyPost_ret (v := .agg #[.int .i64 0, .int .i64 0, .slice none 0 0]) (by simp [results, Tryz.results65, go_sem, s0, s1, s2]) rfl ?_
              exact H7.done (ys := []) (OwnB.nil _ _) (by simp) (by omega)
            · have H8 := H7.six
              obtain ⟨-, -, -, p3, p4, p5⟩ := blk3 H7.box
              go_wp2_with fail
              clear H7 p3 p4 p5 zd v0 v1 v2 v3 s0 s1 s2 t0 t1 t2
              obtain ⟨wo, hwo⟩ : ∃ wo : World, wo = wr := ⟨_, rfl⟩
              subst hwo
              go_loopw [8] (fun i wr => ∃ (k : Nat) (xs : List Bool) (v : Value), k ≤ 36 ∧ i = .int .i64 k ∧ Hid (xs.length = k) ∧ RegI w g bx A c bytes 6 6 (q' + 1) xs v wr) (fun i _ => 36 - (intOf i).toNat)
              case atStart => exact ⟨0, [], _, Nat.zero_le _, rfl, Lib.hid rfl, H8⟩
              case round =>
                clear H8
                obtain ⟨k, xs, v, hk, rfl, HX, HR⟩ := hrel
                obtain ⟨zb, y0, y1, y2, f2⟩ := HR.cells
                obtain ⟨s0, s1, s2, t0, t1, t2⟩ := blk3 HR.res
                obtain ⟨A9, c9, rfl, -⟩ := id HR.own
                by_cases hlt : k < 36
                · have hxl : xs.length ≤ 1000000000000 := by rw [HX.out]; omega
                  go_wp2_with (at_builtin; refine app_bool _ rfl _ _ rfl (bx + 1) _ _ rfl HR.own true rfl (by omega) (by omega) ?_; intro A8 c8 w8 o8 g8; have b8 := appB_below (Below.refl (bx + 1) wr) (Nat.le_refl _) (by omega) HR.own g8; have H8 := HR.app o8 b8; obtain ⟨p0, p1, p2, p3, p4, p5⟩ := blk3 ((b8.block bx (by omega)).trans HR.box))
                  go_roundw
                  case rel => exact ⟨k + 1, xs ++ [true], _, by omega, by go_num, Lib.hid (by simp [HX.out]), H8⟩
                  case measure => simp [intOf]; omega
                · have hxl : xs.length ≤ 36 := by rw [HX.out]; omega
                  go_wp2_with fail
                  refine bodyPost_ret (v := .agg #[.int .i64 6, .int .i64 6, .slice A9 xs.length c9]) (by simp [results, Tryz.results65, go_sem, s0, s1, s2]) rfl ?_
                  exact HR.done HR.own (by omega) (by omega))
end Go.Proofs.YtafmpgikdhlknaaGreat
