
/- FnPushOne: joined from Less, TofS, DrawTwo, FlxS, DrawCor, DrawPo. -/
import Derived.Test.YtafmpgikdhlknaaGreatBarsN
import Derived.Test.YtafmpgikdhlknaaGreatSet
import Derived.Test.YtafmpgikdhlknaaGreatGb
import Derived.Test.YtafmpgikdhlknaaGreatQA
import Derived.Test.YtafmpgikdhlknaaGreatPC
import Derived.Deep.Cut
import Derived.Deep.CutRange
import Derived.Test.YtafmpgikdhlknaaGreatQB
import Derived.Test.YtafmpgikdhlknaaGreatPB
import Derived.Deep.RegionHeld3
import Derived.Lib.MinMax
/- Contract: the reference's l3Less: a region without some cells. -/
namespace Go.Proofs.YtafmpgikdhlknaaGreat
open Go.RowKit

section
set_option maxRecDepth 100000
variable {ops : Array Oper} {rest : List Oper} {o : Oper} {a : Act} {Q : Exit → Act → World → Prop}
theorem step_app_bools {K : Act → World → Prop} {E : Prop} (W : World) (hgd : o.guard = none) (s x : Operand) (ho : o.op = .call { callee := .builtin .append, args := #[s, x], argTypes := #[23, 23] })
    (base H0 : Nat) (hs : a.eval s = .slice (some ⟨H0, 0, none⟩) 0 0) (hown : W.ownsRow base 4 1 (.slice (some ⟨H0, 0, none⟩) 0 0) 0 []) (ad : Addr) (n c : Nat) (hx : a.eval x = .slice (some ad) n c) (bs : List Bool) (hl : bs.length = n)
    (hc : Rd W (some ad) (bs.map .bool)) (h0 : 0 < n) (hn : n ≤ 1000000) (hbase : base ≤ W.heap.size)
    (h : ∀ (g cap : Nat) (w' : World), w'.ownsRow base 4 1 (.slice (some ⟨g, 0, none⟩) n cap) n (bs.map .bool) → W.grownBy w' (some H0) → (g = H0 ∨ g = W.heap.size) → K (a.put o.dst (.slice (some ⟨g, 0, none⟩) n cap)) w') :
    if Region.wanted o (yielded ops a.tmps) = true then Oper.wp Tryz.prog o a W K Q else E := by
  obtain ⟨i0, hi, hz0, hz1, hz2⟩ := info_parts Tryz.infoB
  refine step_append_lies _ hgd s x 23 ho base 4 i0 (.bool false) 1 1 Tryz.underlying23 hi hz0 hz1 hz2 rfl (by decide) _ _ _ hs hown ad n c (bs.map .bool) hx (by simp [hl]) ?_ ?_ h0 ?_ ?_ hbase _ rfl ?_
  · intro j y hj
    obtain ⟨ad', e, hcell⟩ := hc (by intro e; rw [e] at hj; simp at hj)
    injection e with e; subst e
    exact hcell j y hj
  · intro y hy; obtain ⟨b, _, rfl⟩ := List.mem_map.1 hy; rfl
  · unfold maxLen; omega
  · omega
  · intro g cap w' h1 h2 h3 _
    simp only [Nat.zero_add, List.nil_append] at h1
    rw [Nat.zero_add]
    refine h g cap w' h1 h2 ?_
    rcases h3 with h3 | h3
    · left; injection h3 with h3; exact h3.symm
    · exact .inr h3
end
theorem kb3 {w w' : World} {H : Nat} {o : Obj} {p : Addr} {v : Value} (hg : (w.alloc o).drew.grownBy w' (some H)) (h : w.cell? p = some v) (hH : p.block < H) : w'.cell? p = some v :=
  (hg.cell_far p (World.block_lt_of_cell? (w.alloc o) _ (al_cell h)) (fun e => by injection e with e; omega)).trans (al_cell h)
theorem kb4 {w w' : World} {H : Nat} {o o' : Obj} {p : Addr} {v : Value} (hg : ((w.alloc o).alloc o').drew.grownBy w' (some H)) (h : w.cell? p = some v) (hH : p.block < H) : w'.cell? p = some v :=
  (hg.cell_far p (World.block_lt_of_cell? ((w.alloc o).alloc o') _ (al_cell (al_cell h))) (fun e => by injection e with e; omega)).trans (al_cell (al_cell h))
/-- three cells of a block written -/
def sc3 (w : World) (p : Nat) (x y z : Value) : World := ((w.setCell ⟨p, 0, none⟩ x).setCell ⟨p, 1, none⟩ y).setCell ⟨p, 2, none⟩ z
theorem sc3_c3 {w : World} {p : Nat} {x0 y0 z0 x y z : Value} {t : TypeId} (h : w.heap[p]? = some (.cells #[x0, y0, z0] t (0, 0))) : C3 (sc3 w p x y z) p x y z := by
  have e1 := heap_setCell_same w p 0 _ _ x h
  have e2 := heap_setCell_same _ p 1 _ _ y e1
  have e3 := heap_setCell_same _ p 2 _ _ z e2
  obtain ⟨y0, y1, y2, -⟩ := blk3 (by simpa using e3)
  exact ⟨y0, y1, y2⟩
theorem sc3_heap {w : World} {p i : Nat} {x y z : Value} (h : i ≠ p) : (sc3 w p x y z).heap[i]? = w.heap[i]? := by
  unfold sc3
  rw [Below.heap_setCell _ _ _ _ (by simp; omega), Below.heap_setCell _ _ _ _ (by simp; omega), Below.heap_setCell _ _ _ _ (by simp; omega)]
theorem sc3_below {w w0 : World} {B p : Nat} {x y z : Value} (h : Below B w0 w) (hp : B ≤ p) : Below B w0 (sc3 w p x y z) := ((h.setCell (by simpa using hp) _).setCell (by simpa using hp) _).setCell (by simpa using hp) _
theorem al_blk2 {w w3 : World} {o : Obj} {x y z : Value} {t : TypeId} (hg : ((w.alloc o).alloc (.cells #[x, y, z] t)).drew.grownBy w3 (some w.heap.size)) :
    w3.heap[w.heap.size + 1]? = some (.cells #[x, y, z] t (0, 0)) := by
  have h := heap_alloc_new (w.alloc o) (.cells #[x, y, z] t)
  rw [show (w.alloc o).heap.size = w.heap.size + 1 by simp] at h
  exact (hg.block (w.heap.size + 1) (by simp) (by simp)).trans h
theorem al_blk3 {w w3 : World} {o : Obj} {x y z : Value} {t : TypeId} (hg : ((w.alloc (.cells #[x, y, z] t)).alloc o).drew.grownBy w3 (some (w.heap.size + 1))) :
    w3.heap[w.heap.size]? = some (.cells #[x, y, z] t (0, 0)) :=
  (hg.block w.heap.size (by simp; omega) (by simp)).trans ((((Below.refl _ _).alloc (Nat.le_refl _) _).block w.heap.size (by simp)).trans (heap_alloc_new w _))
theorem below_grown' {w wq w3 : World} {B H : Nat} (hb : Below B wq w) (hg : w.drew.grownBy w3 (some H)) (hH : B ≤ H) (hB : B ≤ wq.heap.size) : Below B wq w3 :=
  hb.drew.grown hg (Nat.le_trans hB hb.size) (fun k hk => by injection hk with hk; omega)
set_option maxRecDepth 100000 in
set_option maxHeartbeats 1000000 in
theorem l3less_any (W T : Int) (ad : Addr) (Ac : Option Addr) (c cc : Nat) (bs : List Bool) (L : List Int) (w : World) (hr : Rd w (some ad) (bs.map .bool)) (hrL : Rd w Ac (L.map (.int .i64))) (hne : bs ≠ []) (hn : bs.length ≤ 36)
    (hL : ∀ x ∈ L, 0 ≤ x ∧ x < (bs.length : Int)) (hll : L.length ≤ 100) :
    Calls Tryz.prog 142 #[.agg #[.int .i64 W, .int .i64 T, .slice (some ad) bs.length c], .slice Ac L.length cc] w (NewRW W T (clearL bs L) w) := by
  have X0 := (C3.new w (.int .i64 W) (.int .i64 T) (.slice (some ad) bs.length c) 25).alloc (.cells #[.int .i64 0, .int .i64 0, .slice none 0 0] 25)
  have B0 := bl_alloc (bl_alloc (Below.refl w.heap.size w) (.cells #[.int .i64 W, .int .i64 T, .slice (some ad) bs.length c] 25)) (.cells #[.int .i64 0, .int .i64 0, .slice none 0 0] 25)
  have R0 := hr.belo B0
  have RL := hrL.belo B0
  have K0 : ((w.alloc (.cells #[.int .i64 W, .int .i64 T, .slice (some ad) bs.length c] 25)).alloc (.cells #[.int .i64 0, .int .i64 0, .slice none 0 0] 25)).heap[w.heap.size + 1]? = some (.cells #[.int .i64 0, .int .i64 0, .slice none 0 0] 25 (0, 0)) := by
    have := heap_alloc_new (w.alloc (.cells #[.int .i64 W, .int .i64 T, .slice (some ad) bs.length c] 25)) (.cells #[.int .i64 0, .int .i64 0, .slice none 0 0] 25)
    simpa using this
  have z0 : w.heap.size + 2 = ((w.alloc (.cells #[.int .i64 W, .int .i64 T, .slice (some ad) bs.length c] 25)).alloc (.cells #[.int .i64 0, .int .i64 0, .slice none 0 0] 25)).heap.size := by simp
  have h0 : 0 < bs.length := List.length_pos_iff.2 hne
  have HLL := Lib.hid hL
  have HNE := Lib.hid hne
  have HRL := Lib.hid hrL
  clear hr hrL hL hne
  go_enter Tryz.func142, Tryz.ntmps142
  go_wp2_with fail
  generalize (w.alloc (.cells #[.int .i64 W, .int .i64 T, .slice (some ad) bs.length c] 25)).alloc (.cells #[.int .i64 0, .int .i64 0, .slice none 0 0] 25) = wq at *
  obtain ⟨x0, x1, x2⟩ := id X0
  have s0 : w.heap.size < wq.heap.size := by omega
  have sz : wq.heap.size = w.heap.size + 2 := z0.symm
  have HZ0 := Lib.hid sz
  clear z0 sz
  have own1 := World.ownsRow_lit (e := 4) (size := 1) wq #[] 0 (Nat.le_refl _) (by unfold maxLen; omega) (by simp)
  have own2 := own1.alloc (.cells #[.int .i64 0, .int .i64 0, .slice none 0 0] 25)
  have own3 := World.ownsRow_lit (e := 4) (size := 1) (wq.alloc (.cells #[.int .i64 0, .int .i64 0, .slice none 0 0] 25)) #[] 0 (Nat.le_refl _) (by unfold maxLen; omega) (by simp)
  rw [show (wq.alloc (.cells #[.int .i64 0, .int .i64 0, .slice none 0 0] 25)).heap.size = wq.heap.size + 1 by simp] at own3
  go_region_held3 (fun w' => w'.cell? ⟨w.heap.size, 0, none⟩ = some (.int .i64 W) ∧ w'.cell? ⟨w.heap.size, 1, none⟩ = some (.int .i64 T) ∧ w'.cell? ⟨w.heap.size, 2, none⟩ = some (.slice (some ad) bs.length c))
    (first | (with_reducible exact ⟨x0, x1, x2⟩) | (with_reducible exact ⟨dr_cell x0, dr_cell x1, dr_cell x2⟩) | (with_reducible exact ⟨al_cell x0, al_cell x1, al_cell x2⟩) | (with_reducible exact ⟨dr_cell (al_cell x0), dr_cell (al_cell x1), dr_cell (al_cell x2)⟩) | (with_reducible exact ⟨al_cell (al_cell x0), al_cell (al_cell x1), al_cell (al_cell x2)⟩) | (with_reducible exact ⟨dr_cell (al_cell (al_cell x0)), dr_cell (al_cell (al_cell x1)), dr_cell (al_cell (al_cell x2))⟩) | (with_reducible exact ⟨kb3 hgA x0 s0, kb3 hgA x1 s0, kb3 hgA x2 s0⟩) | (with_reducible exact ⟨kb4 hgA x0 hHA, kb4 hgA x1 hHA, kb4 hgA x2 hHA⟩) | (with_reducible exact ⟨al_cell (kb3 hgA x0 s0), al_cell (kb3 hgA x1 s0), al_cell (kb3 hgA x2 s0)⟩) | (with_reducible exact ⟨set3 (kb4 hgA x0 hHA) (by omega), set3 (kb4 hgA x1 hHA) (by omega), set3 (kb4 hgA x2 hHA) (by omega)⟩))
    (first
      | (refine step_app_bools _ (by rfl) _ _ (by rfl) _ wq.heap.size (by rfl) own1.drew ad bs.length c (by rfl) bs rfl (R0.alloc _).drew h0 (by omega) (by simp) ?_; intro gA capA w3 ownA hgA hatA)
      | (refine step_app_bools _ (by rfl) _ _ (by rfl) _ wq.heap.size (by rfl) own2.drew ad bs.length c (by rfl) bs rfl ((R0.alloc _).alloc _).drew h0 (by omega) (by simp <;> omega) ?_; intro gA capA w3 ownA hgA hatA; have hHA := s0; obtain ⟨n0, n1, n2, f0, f1, f2⟩ := blk3 (al_blk2 hgA))
      | (refine step_app_bools _ (by rfl) _ _ (by rfl) _ (wq.heap.size + 1) (by rfl) own3.drew ad bs.length c (by rfl) bs rfl ((R0.alloc _).alloc _).drew h0 (by omega) (by simp) ?_; intro gA capA w3 ownA hgA hatA; have hHA : w.heap.size < wq.heap.size + 1 := (by omega); obtain ⟨n0, n1, n2, f0, f1, f2⟩ := blk3 (al_blk3 hgA)))
  · have BA : Below wq.heap.size wq w3 := below_grown' ((Below.refl wq.heap.size wq).alloc (Nat.le_refl _) (.cells #[] 4)) hgA (Nat.le_refl _) (Nat.le_refl _)
    have hgA1 : wq.heap.size ≤ gA := by rcases hatA with h | h <;> (try simp at h) <;> omega
    have hgA2 : gA < w3.heap.size := own_lt ownA _ rfl
    have BB := bl_alloc (Below.refl w3.heap.size w3) (.cells #[.int .i64 W, .int .i64 T, .slice (some ⟨gA, 0, none⟩) bs.length capA] 25)
    have Q := ((Wr.of_own ownA).belo BB).lower (lo' := w.heap.size + 2) (by have := HZ0.out; omega)
    have X := C3.new w3 (.int .i64 W) (.int .i64 T) (.slice (some ⟨gA, 0, none⟩) bs.length capA) 25
    have hs3 := BA.size
    have KZ := (BB.block (w.heap.size + 1) (by have := HZ0.out; omega)).trans ((BA.block (w.heap.size + 1) (by have := HZ0.out; omega)).trans K0)
    have BX := bl_go (bl_go B0 BA) BB
    have hpg : w3.heap.size ≠ gA := by omega
    have hpw : w.heap.size + 1 < w3.heap.size := by have := HZ0.out; omega
    clear ownA hgA hatA BA BB own1 own2 own3 R0 RL K0 B0 X0 x0 x1 x2
    generalize w3.alloc (.cells #[.int .i64 W, .int .i64 T, .slice (some ⟨gA, 0, none⟩) bs.length capA] 25) = wx at *
    generalize w3.heap.size = pb at *
    go_wp2_with fail
    go_loopw [6] (fun i wr => ∃ j : Nat, j ≤ L.length ∧ i = .int .i64 j ∧ C3 wr pb (.int .i64 W) (.int .i64 T) (.slice (some ⟨gA, 0, none⟩) bs.length capA) ∧ Wr wr (w.heap.size + 2) 4 (some ⟨gA, 0, none⟩) ((clearL bs (L.take j)).map .bool) ∧ wr.heap[w.heap.size + 1]? = some (.cells #[.int .i64 0, .int .i64 0, .slice none 0 0] 25 (0, 0)) ∧ Below w.heap.size w wr) (fun i _ => L.length - (intOf i).toNat)
    case atStart => exact ⟨0, Nat.zero_le _, rfl, X, Q, KZ, BX⟩
    case round =>
      clear X Q KZ BX
      obtain ⟨j, hj, rfl, X, Q, KZ, BX⟩ := hrel
      have HKZ := Lib.hid KZ
      obtain ⟨y0, y1, y2⟩ := id X
      by_cases hjl : j < L.length
      · obtain ⟨xj, hxj⟩ : ∃ x, L[j] = x := ⟨_, rfl⟩
        obtain ⟨bj, oj, hA, cj⟩ := (HRL.out.belo BX).atEM hjl
        rw [hxj] at cj
        have hm := HLL.out xj (by rw [← hxj]; exact List.getElem_mem hjl)
        obtain ⟨xn, rfl⟩ := Int.eq_ofNat_of_zero_le hm.1
        have hxn : xn < bs.length := by have := hm.2; omega
        have HS := Lib.hid (show clearL bs (L.take (j + 1)) = (clearL bs (L.take j)).set xn false by
          rw [take_one_more L j hjl, clearL_snoc, hxj, Int.toNat_natCast])
        have HLN := Lib.hid (clearL_len (L.take j) bs)
        have cx := Q.rd.cellEM (k := xn) (by rw [HLN.out]; exact hxn)
        simp only [Nat.zero_add] at cx
        obtain ⟨g', e', hlo, _, hfz⟩ := Q.form (by intro e; have := congrArg List.length e; simp [HLN.out] at this; exact HNE.out this)
        have hgg : gA = g' := by injection e' with e'; injection e'
        subst hgg
        have fx := hfz xn
        obtain ⟨ov, cx2⟩ : ∃ ov, wr.cell? ⟨gA, xn, none⟩ = some ov := ⟨_, cx⟩
        have xI : (xn : Int) < (bs.length : Int) := by omega
        have x0I : (0 : Int) ≤ (xn : Int) := by omega
        have jI : (j : Int) < (L.length : Int) := by omega
        have j0I : (0 : Int) ≤ (j : Int) := by omega
        have hbj : bj ≠ gA := by
          have := HRL.out.lt hA (by intro e; simp at e; subst e; simp at hjl)
          simp only at this; omega
        subst hA
        clear hm hxj hfz e' cx KZ
        go_wp2_with fail
        go_region_held3 (fun w' => w'.cell? ⟨pb, 2, none⟩ = some (.slice (some ⟨gA, 0, none⟩) bs.length capA) ∧ w'.cell? ⟨bj, oj + j, none⟩ = some (.int .i64 xn))
          (first | (with_reducible exact ⟨y2, cj⟩) | (with_reducible exact ⟨dr_cell y2, dr_cell cj⟩) | (with_reducible exact ⟨gb_far y2 hpg, gb_far cj hbj⟩) | (with_reducible exact ⟨dr_cell (gb_far y2 hpg), dr_cell (gb_far cj hbj)⟩))
          (fail)
        go_wp2
        go_roundw
        case rel =>
          refine ⟨j + 1, by omega, by go_num, (X.set (p := ⟨gA, xn, none⟩) (fun e => hpg e.symm) _).drew, ?_, ?_, (BX.setCell (by simp; omega) _).drew⟩
          · rw [HS.out, List.map_set]; exact Q.store xn _
          · have : (wr.setCell ⟨gA, xn, none⟩ (.bool false)).heap[w.heap.size + 1]? = some (.cells #[.int .i64 0, .int .i64 0, .slice none 0 0] 25 (0, 0)) := by
              rw [Below.heap_setCell _ _ _ _ (by simp; omega)]; exact HKZ.out
            exact this
        case measure => simp [intOf]; omega
      · obtain rfl : j = L.length := by omega
        rw [List.take_length] at Q
        obtain ⟨g0, g1, g2, f0, f1, f2⟩ := blk3 KZ
        have hlo := Q.1 _ rfl
        simp only at hlo
        clear KZ
        go_wp2_with fail
        refine bodyPost_ret (v := .agg #[.int .i64 W, .int .i64 T, .slice (some ⟨gA, 0, none⟩) bs.length capA]) (by simp [results, Tryz.results142, go_sem, g0, g1, g2]) rfl ⟨some ⟨gA, 0, none⟩, capA, by rw [clearL_len], ?_, ?_⟩
        · refine (Q.lower (by omega)).keep fun g' hg' hg2' => ?_
          have hgg : gA = g' := by injection hg' with h; injection h
          subst hgg
          exact sc3_heap (p := w.heap.size + 1) (by omega)
        · exact sc3_below (p := w.heap.size + 1) BX (by omega)
  · have BA : Below wq.heap.size wq w3 := below_grown' (((Below.refl wq.heap.size wq).alloc (Nat.le_refl _) (.cells #[] 4)).alloc (by simp) (.cells #[.int .i64 0, .int .i64 0, .slice none 0 0] 25)) hgA (by omega) (Nat.le_refl _)
    have hgA1 : wq.heap.size ≤ gA ∧ gA ≠ wq.heap.size + 1 := by rcases hatA with h | h <;> (try simp at h) <;> omega
    obtain ⟨hgA1, hgA3⟩ := hgA1
    have KB := al_blk2 hgA
    have KZ0 := (BA.block (w.heap.size + 1) (by have := HZ0.out; omega)).trans K0
    have X : C3 (sc3 w3 (wq.heap.size + 1) (.int .i64 W) (.int .i64 T) (.slice (some ⟨gA, 0, none⟩) bs.length capA)) (wq.heap.size + 1) (.int .i64 W) (.int .i64 T) (.slice (some ⟨gA, 0, none⟩) bs.length capA) := sc3_c3 KB
    have KZ : (sc3 w3 (wq.heap.size + 1) (.int .i64 W) (.int .i64 T) (.slice (some ⟨gA, 0, none⟩) bs.length capA)).heap[w.heap.size + 1]? = some (.cells #[.int .i64 0, .int .i64 0, .slice none 0 0] 25 (0, 0)) := (sc3_heap (by have := HZ0.out; omega)).trans KZ0
    have BX : Below w.heap.size w (sc3 w3 (wq.heap.size + 1) (.int .i64 W) (.int .i64 T) (.slice (some ⟨gA, 0, none⟩) bs.length capA)) := sc3_below (bl_go B0 BA) (by have := HZ0.out; omega)
    have Q : Wr (sc3 w3 (wq.heap.size + 1) (.int .i64 W) (.int .i64 T) (.slice (some ⟨gA, 0, none⟩) bs.length capA)) (w.heap.size + 2) 4 (some ⟨gA, 0, none⟩) (bs.map .bool) := by
      refine ((Wr.of_own ownA).lower (by have := HZ0.out; simp; omega)).keep fun g' hg' hg2' => ?_
      have hgg : gA = g' := by injection hg' with h; injection h
      subst hgg
      exact sc3_heap hgA3
    have hpg : wq.heap.size + 1 ≠ gA := fun e => hgA3 e.symm
    have hpw : w.heap.size + 1 < wq.heap.size + 1 := by have := HZ0.out; omega
    clear ownA hgA hatA BA own1 own2 own3 R0 RL K0 B0 X0 x0 x1 x2 KB KZ0 n0 n1 n2 f0 f1 f2
    change Exit.then _ _ _ _ (sc3 w3 (wq.heap.size + 1) (.int .i64 W) (.int .i64 T) (.slice (some ⟨gA, 0, none⟩) bs.length capA))
    generalize sc3 w3 (wq.heap.size + 1) (.int .i64 W) (.int .i64 T) (.slice (some ⟨gA, 0, none⟩) bs.length capA) = wx at *
    obtain ⟨pb, hpb⟩ : ∃ pb, wq.heap.size + 1 = pb := ⟨_, rfl⟩
    rw [hpb] at X hpg hpw ⊢
    clear hpb
    go_wp2_with fail
    go_loopw [6] (fun i wr => ∃ j : Nat, j ≤ L.length ∧ i = .int .i64 j ∧ C3 wr pb (.int .i64 W) (.int .i64 T) (.slice (some ⟨gA, 0, none⟩) bs.length capA) ∧ Wr wr (w.heap.size + 2) 4 (some ⟨gA, 0, none⟩) ((clearL bs (L.take j)).map .bool) ∧ wr.heap[w.heap.size + 1]? = some (.cells #[.int .i64 0, .int .i64 0, .slice none 0 0] 25 (0, 0)) ∧ Below w.heap.size w wr) (fun i _ => L.length - (intOf i).toNat)
    case atStart => exact ⟨0, Nat.zero_le _, rfl, X, Q, KZ, BX⟩
    case round =>
      clear X Q KZ BX
      obtain ⟨j, hj, rfl, X, Q, KZ, BX⟩ := hrel
      have HKZ := Lib.hid KZ
      obtain ⟨y0, y1, y2⟩ := id X
      by_cases hjl : j < L.length
      · obtain ⟨xj, hxj⟩ : ∃ x, L[j] = x := ⟨_, rfl⟩
        obtain ⟨bj, oj, hA, cj⟩ := (HRL.out.belo BX).atEM hjl
        rw [hxj] at cj
        have hm := HLL.out xj (by rw [← hxj]; exact List.getElem_mem hjl)
        obtain ⟨xn, rfl⟩ := Int.eq_ofNat_of_zero_le hm.1
        have hxn : xn < bs.length := by have := hm.2; omega
        have HS := Lib.hid (show clearL bs (L.take (j + 1)) = (clearL bs (L.take j)).set xn false by
          rw [take_one_more L j hjl, clearL_snoc, hxj, Int.toNat_natCast])
        have HLN := Lib.hid (clearL_len (L.take j) bs)
        have cx := Q.rd.cellEM (k := xn) (by rw [HLN.out]; exact hxn)
        simp only [Nat.zero_add] at cx
        obtain ⟨g', e', hlo, _, hfz⟩ := Q.form (by intro e; have := congrArg List.length e; simp [HLN.out] at this; exact HNE.out this)
        have hgg : gA = g' := by injection e' with e'; injection e'
        subst hgg
        have fx := hfz xn
        obtain ⟨ov, cx2⟩ : ∃ ov, wr.cell? ⟨gA, xn, none⟩ = some ov := ⟨_, cx⟩
        have xI : (xn : Int) < (bs.length : Int) := by omega
        have x0I : (0 : Int) ≤ (xn : Int) := by omega
        have jI : (j : Int) < (L.length : Int) := by omega
        have j0I : (0 : Int) ≤ (j : Int) := by omega
        have hbj : bj ≠ gA := by
          have := HRL.out.lt hA (by intro e; simp at e; subst e; simp at hjl)
          simp only at this; omega
        subst hA
        clear hm hxj hfz e' cx KZ
        go_wp2_with fail
        go_region_held3 (fun w' => w'.cell? ⟨pb, 2, none⟩ = some (.slice (some ⟨gA, 0, none⟩) bs.length capA) ∧ w'.cell? ⟨bj, oj + j, none⟩ = some (.int .i64 xn))
          (first | (with_reducible exact ⟨y2, cj⟩) | (with_reducible exact ⟨dr_cell y2, dr_cell cj⟩) | (with_reducible exact ⟨gb_far y2 hpg, gb_far cj hbj⟩) | (with_reducible exact ⟨dr_cell (gb_far y2 hpg), dr_cell (gb_far cj hbj)⟩))
          (fail)
        go_wp2
        go_roundw
        case rel =>
          refine ⟨j + 1, by omega, by go_num, (X.set (p := ⟨gA, xn, none⟩) (fun e => hpg e.symm) _).drew, ?_, ?_, (BX.setCell (by simp; omega) _).drew⟩
          · rw [HS.out, List.map_set]; exact Q.store xn _
          · have : (wr.setCell ⟨gA, xn, none⟩ (.bool false)).heap[w.heap.size + 1]? = some (.cells #[.int .i64 0, .int .i64 0, .slice none 0 0] 25 (0, 0)) := by
              rw [Below.heap_setCell _ _ _ _ (by simp; omega)]; exact HKZ.out
            exact this
        case measure => simp [intOf]; omega
      · obtain rfl : j = L.length := by omega
        rw [List.take_length] at Q
        obtain ⟨g0, g1, g2, f0, f1, f2⟩ := blk3 KZ
        have hlo := Q.1 _ rfl
        simp only at hlo
        clear KZ
        go_wp2_with fail
        refine bodyPost_ret (v := .agg #[.int .i64 W, .int .i64 T, .slice (some ⟨gA, 0, none⟩) bs.length capA]) (by simp [results, Tryz.results142, go_sem, g0, g1, g2]) rfl ⟨some ⟨gA, 0, none⟩, capA, by rw [clearL_len], ?_, ?_⟩
        · refine (Q.lower (by omega)).keep fun g' hg' hg2' => ?_
          have hgg : gA = g' := by injection hg' with h; injection h
          subst hgg
          exact sc3_heap (p := w.heap.size + 1) (by omega)
        · exact sc3_below (p := w.heap.size + 1) BX (by omega)
  · have BA : Below wq.heap.size wq w3 := below_grown' (((Below.refl wq.heap.size wq).alloc (Nat.le_refl _) (.cells #[.int .i64 0, .int .i64 0, .slice none 0 0] 25)).alloc (by simp) (.cells #[] 4)) hgA (by omega) (Nat.le_refl _)
    have hgA1 : wq.heap.size ≤ gA ∧ gA ≠ wq.heap.size := by rcases hatA with h | h <;> (try simp at h) <;> omega
    obtain ⟨hgA1, hgA3⟩ := hgA1
    have KB := al_blk3 hgA
    have KZ0 := (BA.block (w.heap.size + 1) (by have := HZ0.out; omega)).trans K0
    have X : C3 (sc3 w3 (wq.heap.size) (.int .i64 W) (.int .i64 T) (.slice (some ⟨gA, 0, none⟩) bs.length capA)) (wq.heap.size) (.int .i64 W) (.int .i64 T) (.slice (some ⟨gA, 0, none⟩) bs.length capA) := sc3_c3 KB
    have KZ : (sc3 w3 (wq.heap.size) (.int .i64 W) (.int .i64 T) (.slice (some ⟨gA, 0, none⟩) bs.length capA)).heap[w.heap.size + 1]? = some (.cells #[.int .i64 0, .int .i64 0, .slice none 0 0] 25 (0, 0)) := (sc3_heap (by have := HZ0.out; omega)).trans KZ0
    have BX : Below w.heap.size w (sc3 w3 (wq.heap.size) (.int .i64 W) (.int .i64 T) (.slice (some ⟨gA, 0, none⟩) bs.length capA)) := sc3_below (bl_go B0 BA) (by have := HZ0.out; omega)
    have Q : Wr (sc3 w3 (wq.heap.size) (.int .i64 W) (.int .i64 T) (.slice (some ⟨gA, 0, none⟩) bs.length capA)) (w.heap.size + 2) 4 (some ⟨gA, 0, none⟩) (bs.map .bool) := by
      refine ((Wr.of_own ownA).lower (by have := HZ0.out; simp; omega)).keep fun g' hg' hg2' => ?_
      have hgg : gA = g' := by injection hg' with h; injection h
      subst hgg
      exact sc3_heap hgA3
    have hpg : wq.heap.size ≠ gA := fun e => hgA3 e.symm
    have hpw : w.heap.size + 1 < wq.heap.size := by have := HZ0.out; omega
    clear ownA hgA hatA BA own1 own2 own3 R0 RL K0 B0 X0 x0 x1 x2 KB KZ0 n0 n1 n2 f0 f1 f2
    change Exit.then _ _ _ _ (sc3 w3 (wq.heap.size) (.int .i64 W) (.int .i64 T) (.slice (some ⟨gA, 0, none⟩) bs.length capA))
    generalize sc3 w3 (wq.heap.size) (.int .i64 W) (.int .i64 T) (.slice (some ⟨gA, 0, none⟩) bs.length capA) = wx at *
    obtain ⟨pb, hpb⟩ : ∃ pb, wq.heap.size = pb := ⟨_, rfl⟩
    rw [hpb] at X hpg hpw ⊢
    clear hpb
    go_wp2_with fail
    go_loopw [6] (fun i wr => ∃ j : Nat, j ≤ L.length ∧ i = .int .i64 j ∧ C3 wr pb (.int .i64 W) (.int .i64 T) (.slice (some ⟨gA, 0, none⟩) bs.length capA) ∧ Wr wr (w.heap.size + 2) 4 (some ⟨gA, 0, none⟩) ((clearL bs (L.take j)).map .bool) ∧ wr.heap[w.heap.size + 1]? = some (.cells #[.int .i64 0, .int .i64 0, .slice none 0 0] 25 (0, 0)) ∧ Below w.heap.size w wr) (fun i _ => L.length - (intOf i).toNat)
    case atStart => exact ⟨0, Nat.zero_le _, rfl, X, Q, KZ, BX⟩
    case round =>
      clear X Q KZ BX
      obtain ⟨j, hj, rfl, X, Q, KZ, BX⟩ := hrel
      have HKZ := Lib.hid KZ
      obtain ⟨y0, y1, y2⟩ := id X
      by_cases hjl : j < L.length
      · obtain ⟨xj, hxj⟩ : ∃ x, L[j] = x := ⟨_, rfl⟩
        obtain ⟨bj, oj, hA, cj⟩ := (HRL.out.belo BX).atEM hjl
        rw [hxj] at cj
        have hm := HLL.out xj (by rw [← hxj]; exact List.getElem_mem hjl)
        obtain ⟨xn, rfl⟩ := Int.eq_ofNat_of_zero_le hm.1
        have hxn : xn < bs.length := by have := hm.2; omega
        have HS := Lib.hid (show clearL bs (L.take (j + 1)) = (clearL bs (L.take j)).set xn false by
          rw [take_one_more L j hjl, clearL_snoc, hxj, Int.toNat_natCast])
        have HLN := Lib.hid (clearL_len (L.take j) bs)
        have cx := Q.rd.cellEM (k := xn) (by rw [HLN.out]; exact hxn)
        simp only [Nat.zero_add] at cx
        obtain ⟨g', e', hlo, _, hfz⟩ := Q.form (by intro e; have := congrArg List.length e; simp [HLN.out] at this; exact HNE.out this)
        have hgg : gA = g' := by injection e' with e'; injection e'
        subst hgg
        have fx := hfz xn
        obtain ⟨ov, cx2⟩ : ∃ ov, wr.cell? ⟨gA, xn, none⟩ = some ov := ⟨_, cx⟩
        have xI : (xn : Int) < (bs.length : Int) := by omega
        have x0I : (0 : Int) ≤ (xn : Int) := by omega
        have jI : (j : Int) < (L.length : Int) := by omega
        have j0I : (0 : Int) ≤ (j : Int) := by omega
        have hbj : bj ≠ gA := by
          have := HRL.out.lt hA (by intro e; simp at e; subst e; simp at hjl)
          simp only at this; omega
        subst hA
        clear hm hxj hfz e' cx KZ
        go_wp2_with fail
        go_region_held3 (fun w' => w'.cell? ⟨pb, 2, none⟩ = some (.slice (some ⟨gA, 0, none⟩) bs.length capA) ∧ w'.cell? ⟨bj, oj + j, none⟩ = some (.int .i64 xn))
          (first | (with_reducible exact ⟨y2, cj⟩) | (with_reducible exact ⟨dr_cell y2, dr_cell cj⟩) | (with_reducible exact ⟨gb_far y2 hpg, gb_far cj hbj⟩) | (with_reducible exact ⟨dr_cell (gb_far y2 hpg), dr_cell (gb_far cj hbj)⟩))
          (fail)
        go_wp2
        go_roundw
        case rel =>
          refine ⟨j + 1, by omega, by go_num, (X.set (p := ⟨gA, xn, none⟩) (fun e => hpg e.symm) _).drew, ?_, ?_, (BX.setCell (by simp; omega) _).drew⟩
          · rw [HS.out, List.map_set]; exact Q.store xn _
          · have : (wr.setCell ⟨gA, xn, none⟩ (.bool false)).heap[w.heap.size + 1]? = some (.cells #[.int .i64 0, .int .i64 0, .slice none 0 0] 25 (0, 0)) := by
              rw [Below.heap_setCell _ _ _ _ (by simp; omega)]; exact HKZ.out
            exact this
        case measure => simp [intOf]; omega
      · obtain rfl : j = L.length := by omega
        rw [List.take_length] at Q
        obtain ⟨g0, g1, g2, f0, f1, f2⟩ := blk3 KZ
        have hlo := Q.1 _ rfl
        simp only at hlo
        clear KZ
        go_wp2_with fail
        refine bodyPost_ret (v := .agg #[.int .i64 W, .int .i64 T, .slice (some ⟨gA, 0, none⟩) bs.length capA]) (by simp [results, Tryz.results142, go_sem, g0, g1, g2]) rfl ⟨some ⟨gA, 0, none⟩, capA, by rw [clearL_len], ?_, ?_⟩
        · refine (Q.lower (by omega)).keep fun g' hg' hg2' => ?_
          have hgg : gA = g' := by injection hg' with h; injection h
          subst hgg
          exact sc3_heap (p := w.heap.size + 1) (by omega)
        · exact sc3_below (p := w.heap.size + 1) BX (by omega)
end Go.Proofs.YtafmpgikdhlknaaGreat

/- Contracts: the reference's l3With and TilingOf. -/
namespace Go.Proofs.YtafmpgikdhlknaaGreat
open Go.RowKit

/-! ### Plainly: the cells that are covered; a cell's two ways -/
def covL (L : List Int) : Nat → List Int
  | 0 => []
  | k + 1 => covL L k ++ (if L.getD k 0 = 0 then [] else [(k : Int)])
theorem covL_len (L : List Int) : ∀ k, (covL L k).length ≤ k
  | 0 => Nat.le_refl _
  | k + 1 => by
    have := covL_len L k
    rw [covL, List.length_append]
    split <;> simp <;> omega
theorem covL_mem (L : List Int) : ∀ k (c : Int), c ∈ covL L k ↔ ∃ i : Nat, i < k ∧ c = i ∧ L.getD i 0 ≠ 0
  | 0, c => by simp [covL]
  | k + 1, c => by
    rw [covL, List.mem_append, covL_mem L k c]
    constructor
    · rintro (⟨i, h1, h2, h3⟩ | h)
      · exact ⟨i, by omega, h2, h3⟩
      · split at h
        · cases h
        · rename_i h3
          rw [List.mem_singleton] at h
          exact ⟨k, by omega, h, h3⟩
    · rintro ⟨i, h1, h2, h3⟩
      rcases Nat.lt_or_ge i k with h | h
      · exact .inl ⟨i, h, h2, h3⟩
      · obtain rfl : i = k := by omega
        rw [if_neg h3]
        exact .inr (by simp [h2])
theorem clearL_getT : ∀ (l : List Int) (F : List Bool) (i : Nat), (clearL F l).getD i false = true ↔ F.getD i false = true ∧ ∀ c ∈ l, c.toNat ≠ i
  | [], F, i => by simp [clearL]
  | c :: l, F, i => by
    rw [clearL, clearL_getT l]
    have hs : (F.set c.toNat false).getD i false = true ↔ F.getD i false = true ∧ c.toNat ≠ i := by
      rw [List.getD_eq_getElem?_getD, List.getD_eq_getElem?_getD, List.getElem?_set]
      by_cases h : c.toNat = i
      · rw [if_pos h]
        constructor
        · intro h1
          split at h1 <;> simp at h1
        · rintro ⟨-, h1⟩; exact absurd h h1
      · rw [if_neg h]
        exact ⟨fun h1 => ⟨h1, h⟩, fun h1 => h1.1⟩
    rw [hs]
    simp only [List.mem_cons, forall_eq_or_imp]
    exact ⟨fun ⟨⟨a, b⟩, c⟩ => ⟨a, b, c⟩, fun ⟨a, b, c⟩ => ⟨⟨a, b⟩, c⟩⟩
theorem clear_cov {bs : List Bool} {L : List Int} (hl : L.length = bs.length) : clearL bs (covL L L.length) = emF bs L := by
  refine List.ext_getElem (by rw [clearL_len, emF_len]) fun i h1 h2 => ?_
  rw [clearL_len] at h1
  rw [← getD_in _ false (by rw [clearL_len]; exact h1), emF_get, Bool.eq_iff_iff, clearL_getT, emK_iff]
  constructor
  · rintro ⟨a, b⟩
    refine ⟨a, Classical.byContradiction fun h => ?_⟩
    exact b (i : Int) ((covL_mem L _ _).2 ⟨i, by omega, rfl, h⟩) (Int.toNat_natCast i)
  · rintro ⟨a, b⟩
    refine ⟨a, fun c hc he => ?_⟩
    obtain ⟨j, -, rfl, h3⟩ := (covL_mem L _ _).1 hc
    rw [Int.toNat_natCast] at he
    subst he
    exact h3 b
theorem emF_valid {W T : Int} {bs : List Bool} (hv : validB W T bs = true) (L : List Int) : validB W T (emF bs L) = true := by
  obtain ⟨a, b, c, d⟩ := validB_iff.1 hv
  exact validB_iff.2 ⟨a, b, by rw [emF_len]; exact c, by have := cnt_em bs L; omega⟩
def wayN (W T : Int) (bs : List Bool) (L : List Int) (c : Nat) (d : Int) : Int := if mayL W T bs L c d = true then tilN W T (emF bs (layL W T L c d)) else 0
/-- the tilings of a list are those of its first empty cell's two ways -/
theorem til_split {W T : Int} {bs : List Bool} {L : List Int} (hl : L.length = bs.length) {c : Nat} (hfs : fsL bs L = c) (hc : c < bs.length) (h24 : cnt bs ≤ 24) : tilN W T (emF bs L) = wayN W T bs L c 1 + wayN W T bs L c 2 := by
  have hce := cnt_em bs L
  have hfr : emK bs L c = true := by have := fsL_t (bs := bs) (L := L) (by omega); rw [hfs] at this; exact this
  have hcF : c < (emF bs L).length := by rw [emF_len]; exact hc
  have hFc : (emF bs L)[c] = true := by rw [emF_get]; exact hfr
  have arm : ∀ d : Int, 1 ≤ d ∧ d ≤ 4 → wayN W T bs L c d = partB W T 2 (tilN W T) (emF bs L) c d := fun d hd => by
    unfold wayN
    by_cases hm : mayL W T bs L c d = true
    · rw [if_pos hm]
      obtain ⟨s, e, h1, h2⟩ := may_ex hm
      have hs := emK_lt h2
      rw [part_t hcF hFc e (by rw [emF_getD]; exact h2), emF_lay (by omega) (by omega) e (by omega) (by have := back_back hd; omega)]
    · rw [if_neg hm, part_f hcF hFc ?_]
      rcases Int.lt_or_le (stepZ W T c d) 0 with h | h
      · exact .inl h
      · right
        rw [emF_getD, Bool.eq_false_iff]
        intro h9
        apply hm
        unfold mayL
        rw [decide_eq_true h, hfr, h9]
        rfl
  rw [tilN_rec (by omega) (show firstB (emF bs L) = c from hfs) hcF, arm 1 (by omega), arm 2 (by omega)]
  show 0 + partB W T 2 (tilN W T) (emF bs L) c (((0 : Nat) : Int) + 1) + partB W T 2 (tilN W T) (emF bs L) c (((1 : Nat) : Int) + 1) = _
  rw [Int.zero_add]
  rfl
/-- a further domino's first empty cell comes later -/
theorem fs_later {W T : Int} {bs : List Bool} {L : List Int} (hl : L.length = bs.length) {c : Nat} (hfs : fsL bs L = c) {d : Int} (hd : 1 ≤ d ∧ d ≤ 4) (hm : mayL W T bs L c d = true) : c < fsL bs (layL W T L c d) := by
  obtain ⟨s, e, h1, h2⟩ := may_ex hm
  have hc := emK_lt h1
  have hs := emK_lt h2
  refine Classical.byContradiction fun hn => ?_
  have h3 := fsL_t (bs := bs) (L := layL W T L c d) (by omega)
  obtain ⟨b1, b2⟩ := emK_iff.1 h3
  rw [layL_get (by omega) (by omega : s < L.length) e] at b2
  have hb := back_back hd
  split at b2
  · omega
  · split at b2
    · omega
    · rename_i _ h4
      have h5 := fsL_f (bs := bs) (L := L) (k := fsL bs (layL W T L c d)) (by omega)
      rw [emK_iff.2 ⟨b1, b2⟩] at h5; cases h5
theorem laid_lay {W T : Int} {bs : List Bool} {L : List Int} (h : laidOkB W T bs L = true) {c : Nat} {d : Int} (hd : 1 ≤ d ∧ d ≤ 4) (hm : mayL W T bs L c d = true) : laidOkB W T bs (layL W T L c d) = true := by
  unfold laidOkB at h ⊢
  rw [Bool.and_eq_true] at h ⊢
  have hl : L.length = bs.length := by
    refine Classical.byContradiction fun hn => ?_
    rw [laysB_len hn] at h; cases h.2
  exact ⟨h.1, lay_lays (valid_fld h.1) h.2 hl hd hm⟩
theorem laid_full {W T : Int} {bs : List Bool} {L : List Int} (h : laidOkB W T bs L = true) (hf : fsL bs L = bs.length) : tilingB W T bs L = true := by
  unfold tilingB; rw [h, full_of hf]; rfl
set_option maxRecDepth 100000 in
set_option maxHeartbeats 1000000 in
theorem sTilingsMany_any (W T : Int) (A : Option Addr) (c n : Nat) (bs : List Bool) (w : World) (hr : Rd w A (bs.map .bool)) (hn : bs.length = n) (hm : n ≤ maxLen) :
    Calls Tryz.prog 62 #[.agg #[.int .i64 W, .int .i64 T, .slice A n c]] w fun e w' => e = .returned (.int .i64 (tmZ W T bs)) ∧ Below w.heap.size w w' := by
  cases hv : validB W T bs with
  | true =>
    rw [show tmZ W T bs = tilN W T bs by unfold tmZ; rw [if_pos hv]]
    exact tilMany_any W T A c n bs w hr hv hn
  | false =>
    have HF := Lib.hid (show tmZ W T bs = -1 by unfold tmZ; rw [hv]; rfl)
    have X0 := C3.new w (.int .i64 W) (.int .i64 T) (.slice A n c) 25
    have B0 := bl_alloc (Below.refl w.heap.size w) (.cells #[.int .i64 W, .int .i64 T, .slice A n c] 25)
    have CV := Lib.hid (by have := sRegionValid_any W T A c bs _ (hr.belo B0) (by rw [hn]; exact hm); rw [hv, hn] at this; exact this)
    obtain ⟨x0, x1, x2⟩ := id X0
    clear hv
    go_enter Tryz.func62, Tryz.ntmps62
    go_wp2_with fail
    refine CV.out.mono ?_
    rintro e w1 ⟨rfl, b1⟩
    clear x0 x1 x2
    go_wp2_with fail
    go_ret
    exact ⟨by rw [HF.out]; rfl, bl_go B0 b1⟩
set_option maxRecDepth 100000 in
set_option maxHeartbeats 2000000 in
theorem l3With_any (W T : Int) (A D : Option Addr) (c d n : Nat) (bs : List Bool) (L : List Int) (w : World) (hr : Rd w A (bs.map .bool)) (hd : Rd w D (L.map (.int .i64))) (hv : validB W T bs = true) (hn : bs.length = n) (hl : L.length = n) :
    Calls Tryz.prog 122 #[.agg #[.int .i64 W, .int .i64 T, .slice A n c], .slice D n d] w fun e w' => e = .returned (.int .i64 (tilN W T (emF bs L))) ∧ Below w.heap.size w w' := by
  obtain ⟨h1, h2, h3, h4, h5, h6⟩ := valid_len hv
  have n36 : n ≤ 36 := by omega
  have hp := (mul_bd h1 h2 h3 h4).1
  have hne : bs ≠ [] := by intro e; rw [e] at h6; simp at h6; omega
  obtain ⟨ad, rfl, -⟩ := hr.atM (k := 0) (by omega)
  have X0 := C3.new w (.int .i64 W) (.int .i64 T) (.slice (some ad) n c) 25
  have B0 := bl_alloc (Below.refl w.heap.size w) (.cells #[.int .i64 W, .int .i64 T, .slice (some ad) n c] 25)
  have r0 := hr.belo B0
  have d0 := hd.belo B0
  have HL := Lib.hid hl
  have HCV := Lib.hid (fun (k : Nat) => covL_len L k)
  have CL := Lib.hid (fun (Ac : Option Addr) (cc : Nat) (z : World) (R : Rd z (some ad) (bs.map .bool)) (Q : Rd z Ac ((covL L n).map (.int .i64))) => by
    have := l3less_any W T ad Ac c cc bs (covL L n) z R Q hne (by omega) (fun x hx => by obtain ⟨i, hi, rfl, -⟩ := (covL_mem L _ _).1 hx; omega) (by have := covL_len L n; omega)
    rw [show clearL bs (covL L n) = emF bs L by rw [← hl]; exact clear_cov (by omega), hn] at this
    exact this)
  have CM := Lib.hid (fun (B : Option Addr) (k : Nat) (z : World) (R : Rd z B ((emF bs L).map .bool)) => tilMany_any W T B k n (emF bs L) z R (emF_valid hv L) (by rw [emF_len]; exact hn))
  have HEL := Lib.hid (show (emF bs L).length = n by rw [emF_len]; exact hn)
  obtain ⟨x0, x1, x2⟩ := id X0
  clear h1 h2 h3 h4 h5 h6 hp hne hv hn hl hr hd
  go_enter Tryz.func122, Tryz.ntmps122
  go_wp2_with fail
  have HZ := Lib.hid (show (w.alloc (.cells #[.int .i64 W, .int .i64 T, .slice (some ad) n c] 25)).heap.size = w.heap.size + 1 by simp)
  generalize w.alloc (.cells #[.int .i64 W, .int .i64 T, .slice (some ad) n c] 25) = u at *
  have OE := OwnI.empty u
  rw [HZ.out] at OE
  have bo := bl_alloc (Below.refl u.heap.size u) (.cells #[] 3)
  generalize u.alloc (.cells #[] 3) = wo at *
  clear x0 x1 x2
  go_loopw [5, 6] (fun s i wr => ∃ (k c5 : Nat) (A5 : Option Addr), k ≤ n ∧ i = .int .i64 (k : Int) ∧ s = .slice A5 (covL L k).length c5 ∧ OwnI wr (w.heap.size + 1) (.slice A5 (covL L k).length c5) (covL L k) ∧ Below u.heap.size u wr) (fun _ i _ => n - (intOf i).toNat)
  case atStart => exact ⟨0, 0, some ⟨w.heap.size + 1, 0, none⟩, Nat.zero_le _, rfl, rfl, OE, bo⟩
  case round =>
    clear OE bo
    obtain ⟨k, c5, A5, hk, rfl, rfl, O5, B5⟩ := hrel
    have hck := HCV.out k
    by_cases hlt : k < n
    · have hkI : (k : Int) < (n : Int) := by omega
      have hkl : k < L.length := by have := HL.out; omega
      obtain ⟨ad2, rfl, cx⟩ := (d0.belo B5).atM hkl
      have HG := Lib.hid (show L.getD k 0 = L[k] from getD_in _ _ hkl)
      have hsb : w.heap.size + 1 ≤ wr.heap.size := by have := B5.size; have := HZ.out; omega
      generalize L[k] = x at *
      by_cases hx : x = 0
      · have HN := Lib.hid (show covL L (k + 1) = covL L k by rw [covL, HG.out, if_pos hx, List.append_nil])
        have hxb : (x != 0) = false := by rw [hx]; rfl
        clear hx
        go_wp2_with fail
        go_roundw
        case rel => exact ⟨k + 1, c5, A5, by omega, by go_num, by rw [HN.out], by rw [HN.out]; exact O5, B5⟩
        case measure => simp [intOf]; omega
      · have HN := Lib.hid (show covL L (k + 1) = covL L k ++ [(k : Int)] by rw [covL, HG.out, if_neg hx])
        have hxb : (x != 0) = true := by rw [bne_iff_ne]; exact hx
        have HLN := Lib.hid (show (covL L (k + 1)).length = (covL L k).length + 1 by rw [HN.out, List.length_append]; rfl)
        clear hx
        generalize hM : covL L k = M at *
        go_wp2_with (at_builtin; refine app_int _ rfl _ _ rfl (w.heap.size + 1) _ M rfl O5 (k : Int) rfl (by omega) hsb ?_; intro A6 c6 w6 O6 g6)
        have B6 := app_below B5 (Nat.le_of_eq HZ.out) hsb O5 g6
        go_roundw
        case rel => exact ⟨k + 1, c6, A6, by omega, by go_num, by rw [HLN.out], by rw [HLN.out, HN.out]; exact O6, B6⟩
        case measure => simp [intOf]; omega
    · obtain rfl : k = n := by omega
      have X5 := X0.belo B5
      have R5 := r0.belo B5
      have BW := bl_go B0 B5
      have Q5 := O5.rd.2
      generalize (covL L k).length = m5 at *
      have C5 := Lib.hid (CL.out A5 c5 _ R5 Q5)
      clear O5 Q5 R5 CL
      obtain ⟨x0, x1, x2⟩ := id X5
      go_wp2_with fail
      refine C5.out.mono ?_
      rintro e w6 ⟨B6, k6, rfl, W6, b6⟩
      have C6 := Lib.hid (CM.out B6 k6 w6 W6.rd)
      rw [HEL.out]
      clear x0 x1 x2 C5 W6
      go_wp2_with fail
      refine C6.out.mono ?_
      rintro e w7 ⟨rfl, b7⟩
      go_wp2_with fail
      go_ret
      exact ⟨rfl, bl_go (bl_go BW b6) b7⟩
/-- some list of the call's own, and a truth value -/
def TofP (w : World) (e : Ending) (w' : World) : Prop :=
  ∃ (D : Option Addr) (d : Nat) (L : List Int) (ok : Bool), e = .returned (.tuple #[.slice D L.length d, .bool ok]) ∧ Rd w' D (L.map (.int .i64)) ∧ L.length ≤ 36 ∧ Below w.heap.size w w' ∧ ∀ ad, D = some ad → w.heap.size ≤ ad.block
theorem fs_meas {bs : List Bool} {L' : List Int} {n c : Nat} (hc : c < n) (h' : c < fsL bs L') (hle : fsL bs L' ≤ n) :
    (if intOf (.int .i64 (fsZ bs L' n)) < 0 then 0 else n + 1 - (intOf (.int .i64 (fsZ bs L' n))).toNat) < (if intOf (.int .i64 ((c : Nat) : Int)) < 0 then 0 else n + 1 - (intOf (.int .i64 ((c : Nat) : Int))).toNat) := by
  unfold fsZ
  by_cases h : fsL bs L' = n
  · rw [if_pos h]
    show (if (-1 : Int) < 0 then 0 else n + 1 - (-1 : Int).toNat) < (if ((c : Nat) : Int) < 0 then 0 else n + 1 - ((c : Nat) : Int).toNat)
    rw [if_pos (by omega), if_neg (by omega), Int.toNat_natCast]
    omega
  · rw [if_neg h]
    show (if ((fsL bs L' : Nat) : Int) < 0 then 0 else n + 1 - ((fsL bs L' : Nat) : Int).toNat) < (if ((c : Nat) : Int) < 0 then 0 else n + 1 - ((c : Nat) : Int).toNat)
    rw [if_neg (by omega), if_neg (by omega), Int.toNat_natCast, Int.toNat_natCast]
    omega
set_option maxRecDepth 100000 in
set_option maxHeartbeats 4000000 in
theorem sTilingOf_any (W T : Int) (A : Option Addr) (c n : Nat) (bs : List Bool) (rank : Int) (w : World) (hr : Rd w A (bs.map .bool)) (hn : bs.length = n) (hm : n ≤ maxLen) :
    Calls Tryz.prog 84 #[.agg #[.int .i64 W, .int .i64 T, .slice A n c], .int .i64 rank] w (TofP w) := by
  have X0 := C3.new w (.int .i64 W) (.int .i64 T) (.slice A n c) 25
  have B0 := bl_alloc (Below.refl w.heap.size w) (.cells #[.int .i64 W, .int .i64 T, .slice A n c] 25)
  have r0 := hr.belo B0
  have CV := Lib.hid (by have := sRegionValid_any W T A c bs _ r0 (by rw [hn]; exact hm); rw [hn] at this; exact this)
  have HEND := Lib.hid (fun (z : World) (Z : Below w.heap.size w z) => show TofP w (.returned (.tuple #[.slice (some ⟨z.heap.size, 0, none⟩) 0 0, .bool false])) (z.alloc (.cells #[] 3)) from
    ⟨some ⟨z.heap.size, 0, none⟩, 0, [], false, rfl, Rd.nil _ _, by simp, bl_alloc Z _, fun ad e => by injection e with e; subst e; exact Z.size⟩)
  obtain ⟨x0, x1, x2⟩ := id X0
  cases hv : validB W T bs with
  | false =>
    rw [hv] at CV
    clear hv
    go_enter Tryz.func84, Tryz.ntmps84
    go_wp2_with fail
    refine CV.out.mono ?_
    rintro e w1 ⟨rfl, b1⟩
    have HE := Lib.hid (HEND.out _ (bl_go B0 b1))
    clear x0 x1 x2
    go_wp2_with fail
    go_ret2
    exact HE.out
  | true =>
    rw [hv] at CV
    obtain ⟨h1, h2, h3, h4, h5, h6⟩ := valid_len hv
    have n36 : n ≤ 36 := by omega
    have CT := Lib.hid (fun (z : World) (R : Rd z A (bs.map .bool)) => tilMany_any W T A c n bs z R hv hn)
    have CI := Lib.hid (fun (z : World) => l1in_any rank 0 (tilN W T bs - 1) z)
    have htb := tilN_bd (W := W) (T := T) bs
    have HB0 := Lib.hid (show laidOkB W T bs (List.replicate n 0) = true ∧ (List.replicate n (0 : Int)).length = n ∧ tilN W T (emF bs (List.replicate n 0)) = tilN W T bs from by
      refine ⟨?_, by simp, by rw [← hn, emF_bare]⟩
      unfold laidOkB; rw [hv, ← hn, lays_bare]; rfl)
    have CLB := Lib.hid (fun (z : World) (R : Rd z A (bs.map .bool)) => sLaidBareW_any W T A c n bs z R hv hn)
    have CFI := Lib.hid (fun (D : Option Addr) (d : Nat) (z : World) (L : List Int) (hl : L.length = n) (R : Rd z A (bs.map .bool)) (Q : Rd z D (L.map (.int .i64))) => sFirst_any W T A D c d n bs L z R Q hn hl n36)
    have HFG := Lib.hid (valid_fld hv)
    have HC24 := Lib.hid (validB_iff.1 hv).2.2.2
    have HN := Lib.hid hn
    have CX0 := Lib.hid (fun (L : List Int) (c0 : Nat) (h : laidOkB W T bs L = true) (hl : L.length = n) (hc0 : c0 < n) (q : Int) (hq : 1 ≤ q ∧ q ≤ 4) (D : Option Addr) (d : Nat) (z : World) (R : Rd z A (bs.map .bool)) (Q : Rd z D (L.map (.int .i64))) => by
      have := sLayX_any W T q c0 A D c d bs L z R Q h (by rw [hn]; exact hc0) hq.1 hq.2
      rw [hn] at this
      unfold LayX at this
      rw [hl] at this
      exact this)
    have CW := Lib.hid (fun (L : List Int) (hl : L.length = n) (D : Option Addr) (d : Nat) (z : World) (R : Rd z A (bs.map .bool)) (Q : Rd z D (L.map (.int .i64))) => l3With_any W T A D c d n bs L z R Q hv hn hl)
    clear h1 h2 h3 h4 h5 h6 hv hn
    by_cases hin : 0 ≤ rank ∧ rank ≤ tilN W T bs - 1
    · rw [inB_t hin.1 hin.2] at CI
      have HIN := Lib.hid hin
      clear hin
      go_enter Tryz.func84, Tryz.ntmps84
      go_wp2_with fail
      generalize w.alloc (.cells #[.int .i64 W, .int .i64 T, .slice A n c] 25) = u at *
      refine CV.out.mono ?_
      rintro e w1 ⟨rfl, b1⟩
      have X1 := X0.belo b1
      have R1 := r0.belo b1
      have B1 := bl_go B0 b1
      clear x0 x1 x2 X0 r0 CV b1 B0
      obtain ⟨x0, x1, x2⟩ := id X1
      go_wp2_with fail
      refine (CT.out _ R1).mono ?_
      rintro e w2 ⟨rfl, b2⟩
      have X2 := X1.belo b2
      have R2 := R1.belo b2
      have B2 := bl_go B1 b2
      clear x0 x1 x2 X1 R1 CT b2 B1
      obtain ⟨x0, x1, x2⟩ := id X2
      go_wp2_with (go_at_call 71; refine (CI.out _).mono ?_; rintro e w' ⟨rfl, rfl⟩)
      refine (CLB.out _ R2).mono ?_
      rintro e w4 ⟨g4, rfl, W4, hg4, hgs4, b4⟩
      have X4 := X2.belo b4
      have R4 := R2.belo b4
      have B4 := bl_go B2 b4
      have hb4 := b4.size
      have C4 := Lib.hid (CFI.out (some ⟨g4, 0, none⟩) n _ _ HB0.out.2.1 R4 W4.rd)
      have hgw : w.heap.size ≤ g4 := by have := B2.size; omega
      clear x0 x1 x2 X2 R2 CLB b4 CI hg4
      obtain ⟨x0, x1, x2⟩ := id X4
      go_wp2_with fail
      refine C4.out.mono ?_
      rintro e w5 ⟨rfl, b5⟩
      have X5 := X4.belo b5
      have R5 := R4.belo b5
      have B5 := bl_go B4 b5
      have W5 := (W4.belo b5).rd
      clear x0 x1 x2 X4 R4 C4 b5 W4 B2 B4 hb4 hgs4
      go_wp2_with fail
      go_loopw [1, 6, 7] (fun s1 s6 s7 wr => ∃ (r : Int) (D : Option Addr) (d : Nat) (L : List Int), s1 = .int .i64 r ∧ s6 = .slice D n d ∧ s7 = .int .i64 (fsZ bs L n) ∧ Hid (laidOkB W T bs L = true ∧ L.length = n ∧ 0 ≤ r ∧ r < tilN W T (emF bs L)) ∧ Rd wr D (L.map (.int .i64)) ∧ Hid (∀ ad, D = some ad → w.heap.size ≤ ad.block) ∧ Below w5.heap.size w5 wr) (fun _ _ i _ => if intOf i < 0 then 0 else n + 1 - (intOf i).toNat)
      case atStart => exact ⟨rank, some ⟨g4, 0, none⟩, n, List.replicate n 0, rfl, rfl, rfl, Lib.hid ⟨HB0.out.1, HB0.out.2.1, HIN.out.1, by rw [HB0.out.2.2]; have := HIN.out.2; omega⟩, W5, Lib.hid (fun ad e => by injection e with e; subst e; exact hgw), Below.refl _ _⟩
      case round =>
        clear W5 hgw
        obtain ⟨r, D, d, L, rfl, rfl, rfl, HL, RL, HF, BR⟩ := hrel
        obtain ⟨wq, hwq⟩ : ∃ wq : World, wq = wr := ⟨_, rfl⟩
        subst hwq
        have XR := X5.belo BR
        have RR := R5.belo BR
        by_cases hfs : fsL bs L = n
        · have hz : fsZ bs L n = -1 := by unfold fsZ; rw [if_pos hfs]
          rw [hz]
          have HRES := Lib.hid (show TofP w (.returned (.tuple #[.slice D n d, .bool true])) wq from ⟨D, d, L, true, by rw [HL.out.2.1], RL, by rw [HL.out.2.1]; exact n36, bl_go B5 BR, HF.out⟩)
          clear hfs hz
          go_wp2_with fail
          go_ret2
          exact HRES.out
        · obtain ⟨c0, hc0⟩ : ∃ c0, fsL bs L = c0 := ⟨_, rfl⟩
          have hz : fsZ bs L n = (c0 : Int) := by unfold fsZ; rw [if_neg hfs, hc0]
          have hc : c0 < n := by have := fsL_le bs L; rw [HN.out] at this; omega
          have HFS := Lib.hid hc0
          rw [hz]
          have HSP := Lib.hid (til_split (W := W) (T := T) (by rw [HN.out, HL.out.2.1]) hc0 (by rw [HN.out]; exact hc) HC24.out)
          have CX := Lib.hid (CX0.out L c0 HL.out.1 HL.out.2.1 hc)
          have C1 := Lib.hid (CX.out 1 (by omega) D d _ RR RL)
          have htl := tilN_bd (W := W) (T := T) (emF bs L)
          have hrb : 0 ≤ r ∧ r ≤ 16777216 := by have := HL.out.2.2; omega
          clear hfs hz hc0 htl
          obtain ⟨x0, x1, x2⟩ := id XR
          go_wp2_with fail
          refine C1.out.mono ?_
          rintro e w7 ⟨M7, A7, c7, rfl, -, hc7, R7, hM7, b7, hA7⟩
          have X7 := XR.belo b7
          clear x0 x1 x2 C1
          obtain ⟨x0, x1, x2⟩ := id X7
          cases hm1 : mayL W T bs L c0 1 with
          | true =>
            have hM7 := hM7 hm1
            subst hM7
            have HW1 := Lib.hid (show wayN W T bs L c0 1 = tilN W T (emF bs (layL W T L c0 1)) by unfold wayN; rw [if_pos hm1])
            have HLL := Lib.hid (show (layL W T L c0 1).length = n by rw [layL_len]; exact HL.out.2.1)
            have HLO := Lib.hid (laid_lay HL.out.1 (by omega : (1 : Int) ≤ 1 ∧ (1 : Int) ≤ 4) hm1)
            have HLT := Lib.hid (fs_later (by rw [HN.out, HL.out.2.1]) HFS.out (by omega : (1 : Int) ≤ 1 ∧ (1 : Int) ≤ 4) hm1)
            have HMS := Lib.hid (fs_meas (n := n) hc HLT.out (by have := fsL_le bs (layL W T L c0 1); rw [HN.out] at this; exact this))
            have C8 := Lib.hid (CW.out _ HLL.out A7 c7 _ (RR.belo b7) R7)
            have htl := tilN_bd (W := W) (T := T) (emF bs (layL W T L c0 1))
            obtain ⟨t1, ht1⟩ : ∃ t1, tilN W T (emF bs (layL W T L c0 1)) = t1 := ⟨_, rfl⟩
            have HT1 := Lib.hid ht1
            rw [ht1] at htl C8 HW1
            generalize layL W T L c0 1 = L7 at *
            clear hm1 ht1
            go_wp2_with fail
            refine C8.out.mono ?_
            rintro e w8 ⟨rfl, b8⟩
            have Z8 := b7.trans (b8.mono b7.size)
            have X8 := XR.belo Z8
            have R8 := R7.belo b8
            clear x0 x1 x2 C8 R7 X7
            by_cases hge : t1 ≤ r
            · have HW1' := HW1.out
              rw [HW1'] at HSP
              clear HW1' HW1 HT1 R8 HMS HLT HLO HLL hA7 hM7
              obtain ⟨x0, x1, x2⟩ := id X8
              have hm2 : mayL W T bs L c0 2 = true := by
                have h9 := HSP.out
                refine Classical.byContradiction fun hn => ?_
                rw [show wayN W T bs L c0 2 = 0 by unfold wayN; rw [if_neg hn]] at h9
                have h8 := HL.out.2.2.2
                omega
              have HW2 := Lib.hid (show wayN W T bs L c0 2 = tilN W T (emF bs (layL W T L c0 2)) by unfold wayN; rw [if_pos hm2])
              have HLT := Lib.hid (fs_later (by rw [HN.out, HL.out.2.1]) HFS.out (by omega : (1 : Int) ≤ 2 ∧ (2 : Int) ≤ 4) hm2)
              have HLO := Lib.hid (laid_lay HL.out.1 (by omega : (1 : Int) ≤ 2 ∧ (2 : Int) ≤ 4) hm2)
              have C2 := Lib.hid (CX.out 2 (by omega) D d _ (RR.belo Z8) (RL.belo Z8))
              rw [hm2] at C2
              have HLL := Lib.hid (show (layL W T L c0 2).length = n by rw [layL_len]; exact HL.out.2.1)
              have HR9 := Lib.hid (show laidOkB W T bs (layL W T L c0 2) = true ∧ (layL W T L c0 2).length = n ∧ 0 ≤ (r - t1) ∧ (r - t1) < tilN W T (emF bs (layL W T L c0 2)) from by
                have h8 := HL.out.2.2
                have h9 := HSP.out
                rw [HW2.out] at h9
                exact ⟨HLO.out, HLL.out, by omega, by omega⟩)
              have HMS := Lib.hid (fs_meas (n := n) hc HLT.out (by have := fsL_le bs (layL W T L c0 2); rw [HN.out] at this; exact this))
              generalize layL W T L c0 2 = L9 at *
              clear hm2
              go_wp2_with fail
              refine C2.out.mono ?_
              rintro e w9 ⟨M9, A9, c9, rfl, -, hc9, R9, hM9, b9, hA9⟩
              have hM9 := hM9 trivial
              subst hM9
              have Z9 := Z8.trans (b9.mono Z8.size)
              have X9 := XR.belo Z9
              have C9 := Lib.hid (CFI.out A9 c9 _ M9 HLL.out (RR.belo Z9) R9)
              have HFR := Lib.hid (show ∀ ad, A9 = some ad → w.heap.size ≤ ad.block from fun ad e => Nat.le_trans (bl_go B5 (BR.trans (Z8.mono BR.size))).size (hA9 ad e))
              clear x0 x1 x2 C2 hA9
              obtain ⟨x0, x1, x2⟩ := id X9
              go_wp2_with fail
              refine C9.out.mono ?_
              rintro e w10 ⟨rfl, b10⟩
              have Z10 := Z9.trans (b10.mono Z9.size)
              have R10 := R9.belo b10
              go_wp2_with fail
              go_roundw
              case rel => exact ⟨_, A9, c9, M9, rfl, rfl, rfl, HR9, R10, HFR, BR.trans (Z10.mono BR.size)⟩
              case measure => exact HMS.out
            · have HFR := Lib.hid (show ∀ ad, A7 = some ad → w.heap.size ≤ ad.block from fun ad e => Nat.le_trans (bl_go B5 BR).size (hA7 ad e))
              have hlt1 : r < t1 := by omega
              have HR8 := Lib.hid (show laidOkB W T bs L7 = true ∧ L7.length = n ∧ 0 ≤ r ∧ r < tilN W T (emF bs L7) from ⟨HLO.out, HLL.out, hrb.1, by rw [HT1.out]; exact hlt1⟩)
              have C9 := Lib.hid (CFI.out A7 c7 _ L7 HLL.out (RR.belo Z8) R8)
              clear HT1 HW1 hA7 hM7
              obtain ⟨x0, x1, x2⟩ := id X8
              go_wp2_with fail
              refine C9.out.mono ?_
              rintro e w10 ⟨rfl, b10⟩
              have Z10 := Z8.trans (b10.mono Z8.size)
              have R10 := R8.belo b10
              go_wp2_with fail
              go_roundw
              case rel => exact ⟨_, A7, c7, L7, rfl, rfl, rfl, HR8, R10, HFR, BR.trans (Z10.mono BR.size)⟩
              case measure => exact HMS.out
          | false =>
            have h0 : wayN W T bs L c0 1 = 0 := by unfold wayN; rw [hm1]; rfl
            rw [h0, Int.zero_add] at HSP
            clear hM7 hm1 h0 R7 hA7
            have hm2 : mayL W T bs L c0 2 = true := by
              have h9 := HSP.out
              refine Classical.byContradiction fun hn => ?_
              rw [show wayN W T bs L c0 2 = 0 by unfold wayN; rw [if_neg hn]] at h9
              have h8 := HL.out.2.2.2
              omega
            have HW2 := Lib.hid (show wayN W T bs L c0 2 = tilN W T (emF bs (layL W T L c0 2)) by unfold wayN; rw [if_pos hm2])
            have HLT := Lib.hid (fs_later (by rw [HN.out, HL.out.2.1]) HFS.out (by omega : (1 : Int) ≤ 2 ∧ (2 : Int) ≤ 4) hm2)
            have HLO := Lib.hid (laid_lay HL.out.1 (by omega : (1 : Int) ≤ 2 ∧ (2 : Int) ≤ 4) hm2)
            have C2 := Lib.hid (CX.out 2 (by omega) D d _ (RR.belo b7) (RL.belo b7))
            rw [hm2] at C2
            have HLL := Lib.hid (show (layL W T L c0 2).length = n by rw [layL_len]; exact HL.out.2.1)
            have HR9 := Lib.hid (show laidOkB W T bs (layL W T L c0 2) = true ∧ (layL W T L c0 2).length = n ∧ 0 ≤ r ∧ r < tilN W T (emF bs (layL W T L c0 2)) from by
              have h8 := HL.out.2.2
              have h9 := HSP.out
              rw [HW2.out] at h9
              exact ⟨HLO.out, HLL.out, by omega, by omega⟩)
            have HMS := Lib.hid (fs_meas (n := n) hc HLT.out (by have := fsL_le bs (layL W T L c0 2); rw [HN.out] at this; exact this))
            generalize layL W T L c0 2 = L9 at *
            clear hm2
            go_wp2_with fail
            refine C2.out.mono ?_
            rintro e w9 ⟨M9, A9, c9, rfl, -, hc9, R9, hM9, b9, hA9⟩
            have hM9 := hM9 trivial
            subst hM9
            have Z9 := b7.trans (b9.mono b7.size)
            have X9 := XR.belo Z9
            have C9 := Lib.hid (CFI.out A9 c9 _ M9 HLL.out (RR.belo Z9) R9)
            have HFR := Lib.hid (show ∀ ad, A9 = some ad → w.heap.size ≤ ad.block from fun ad e => Nat.le_trans (bl_go B5 (BR.trans (b7.mono BR.size))).size (hA9 ad e))
            clear x0 x1 x2 C2 hA9
            obtain ⟨x0, x1, x2⟩ := id X9
            go_wp2_with fail
            refine C9.out.mono ?_
            rintro e w10 ⟨rfl, b10⟩
            have Z10 := Z9.trans (b10.mono Z9.size)
            have R10 := R9.belo b10
            go_wp2_with fail
            go_roundw
            case rel => exact ⟨_, A9, c9, M9, rfl, rfl, rfl, HR9, R10, HFR, BR.trans (Z10.mono BR.size)⟩
            case measure => exact HMS.out
    · rw [inB_f (by omega)] at CI
      clear hin
      go_enter Tryz.func84, Tryz.ntmps84
      go_wp2_with fail
      generalize w.alloc (.cells #[.int .i64 W, .int .i64 T, .slice A n c] 25) = u at *
      refine CV.out.mono ?_
      rintro e w1 ⟨rfl, b1⟩
      have X1 := X0.belo b1
      have R1 := r0.belo b1
      have B1 := bl_go B0 b1
      clear x0 x1 x2 X0 r0 CV b1 B0
      obtain ⟨x0, x1, x2⟩ := id X1
      go_wp2_with fail
      refine (CT.out _ R1).mono ?_
      rintro e w2 ⟨rfl, b2⟩
      have HE := Lib.hid (HEND.out _ (bl_go B1 b2))
      clear x0 x1 x2 X1 R1 CT b2
      go_wp2_with (go_at_call 71; refine (CI.out _).mono ?_; rintro e w' ⟨rfl, rfl⟩)
      go_ret2
      exact HE.out
end Go.Proofs.YtafmpgikdhlknaaGreat

/- Contract: the draw of a region and two lists (l20Two). Written by wip/gen_two.py. -/
namespace Go.Proofs.YtafmpgikdhlknaaGreat
open Go.RowKit

/-- the state of l20Two: the region's box too -/
structure Rq (w : World) (g : Nat) (A : Option Addr) (c : Nat) (bytes : List Int) (q bx : Nat) (W T : Int) (V : Value) (wr : World) : Prop where
  rs : Rs w g A c bytes q wr
  box : wr.heap[bx]? = some (.cells #[.int .i64 W, .int .i64 T, V] 25 (0, 0))
  bg : bx ≠ g
theorem set_gbQ (w : World) (p : Addr) (u : Value) : w.grownBy (w.setCell p u) (some p.block) :=
  ⟨rfl, rfl, rfl, by simp [World.setCell], fun i _ hn => Below.heap_setCell _ _ _ _ (fun e => hn (by simp [e]))⟩
section
variable {w wr w' : World} {g : Nat} {A : Option Addr} {c : Nat} {bytes : List Int} {q bx : Nat} {W T : Int} {V : Value}
theorem Rq.rds (h : Rq w g A c bytes q bx W T V wr) : RdS wr g A c bytes q := h.rs.rds
theorem Rq.res (h : Rq w g A c bytes q bx W T V wr) : wr.heap[w.heap.size]? = some (.cells #[.int .i64 0, .int .i64 0, .slice none 0 0] 25 (0, 0)) := h.rs.res
theorem Rq.hg (h : Rq w g A c bytes q bx W T V wr) : g < w.heap.size := h.rs.hg
theorem Rq.pick (h : Rq w g A c bytes q bx W T V wr) {q' : Nat} (S : RdS w' g A c bytes q') (G : wr.grownBy w' (some g)) : Rq w g A c bytes q' bx W T V w' :=
  ⟨h.rs.pick S G, (G.block bx (heap_lt h.box) (by have := h.bg; simp; omega)).trans h.box, h.bg⟩
theorem Rq.below (h : Rq w g A c bytes q bx W T V wr) (hb : Below wr.heap.size wr w') : Rq w g A c bytes q bx W T V w' :=
  ⟨h.rs.below hb, (hb.block _ (heap_lt h.box)).trans h.box, h.bg⟩
theorem Rq.drew (h : Rq w g A c bytes q bx W T V wr) : Rq w g A c bytes q bx W T V wr.drew := ⟨h.rs.drew, h.box, h.bg⟩
theorem Rq.alloc (h : Rq w g A c bytes q bx W T V wr) (o : Obj) : Rq w g A c bytes q bx W T V (wr.alloc o) := h.below (bl_alloc (Below.refl _ _) o)
theorem Rs.setQ (h : Rs w g A c bytes q wr) {i : Nat} (hb : w.heap.size < bx) (u : Value) : Rs w g A c bytes q (wr.setCell ⟨bx, i, none⟩ u) := by
  have hg := h.hg
  have hs : ∀ k, k ≠ bx → (wr.setCell ⟨bx, i, none⟩ u).heap[k]? = wr.heap[k]? := fun k hk => Below.heap_setCell _ _ _ _ hk
  refine ⟨⟨(hs g (by omega)).trans h.rds.1, ?_, h.rds.2.2.1, h.rds.2.2.2⟩, (hs _ (by omega)).trans h.res, ⟨h.gb.os, h.gb.tape, h.gb.output, ?_, fun k hk hn => (hs k (by omega)).trans (h.gb.block k hk hn)⟩, h.hg, h.ha⟩
  · refine h.rds.2.1.grownBelow (set_gbQ wr ⟨bx, i, none⟩ u) (fun hne ad ha e => ?_)
    have := h.ha (by simpa using hne) ad ha
    have e' : ad.block = bx := by simpa using e
    omega
  · have := h.gb.size
    simpa [World.setCell] using this
theorem Rq.put (h : Rq w g A c bytes q bx W T V wr) (hb : w.heap.size < bx) (W' T' : Int) (V' : Value) : Rq w g A c bytes q bx W' T' V' (((wr.setCell ⟨bx, 0, none⟩ (.int .i64 W')).setCell ⟨bx, 1, none⟩ (.int .i64 T')).setCell ⟨bx, 2, none⟩ V') :=
  ⟨((h.rs.setQ (i := 0) hb (.int .i64 W')).setQ (i := 1) hb (.int .i64 T')).setQ (i := 2) hb V', heap_setCell_same _ bx 2 _ _ V' (heap_setCell_same _ bx 1 _ _ (.int .i64 T') (heap_setCell_same _ bx 0 _ _ (.int .i64 W') h.box)), h.bg⟩
theorem rd_box3 {B : Option Addr} {xs : List Value} (h : Rd wr B xs) (hB : ∀ ad, B = some ad → ad.block ≠ bx) (x y z : Value) : Rd (((wr.setCell ⟨bx, 0, none⟩ x).setCell ⟨bx, 1, none⟩ y).setCell ⟨bx, 2, none⟩ z) B xs := by
  have K := fun (v : World) (i : Nat) (u : Value) (R : Rd v B xs) => R.grownBelow (xs := xs) (set_gbQ v ⟨bx, i, none⟩ u) (fun _ ad ha e => hB ad ha (by simpa using e))
  exact K _ 2 z (K _ 1 y (K _ 0 x h))
theorem rd_pick {B : Option Addr} {xs : List Value} (h : Rd wr B xs) (hB : ∀ ad, B = some ad → g < ad.block) (G : wr.grownBy w' (some g)) : Rd w' B xs :=
  h.grownBelow (xs := xs) G (fun _ ad ha e => by have := hB ad ha; have e' : ad.block = g := (by simpa using e); omega)
end
theorem arrV (rn : Nat) (h : rn ≤ 4) : ∃ d : Int, (∀ w : World, (w.alloc (.cells #[.int .i64 2, .int .i64 3, .int .i64 4, .int .i64 4, .int .i64 5] 3)).cell? ⟨w.heap.size, rn, none⟩ = some (.int .i64 d)) ∧ 2 ≤ d ∧ d ≤ 6 := by
  rcases (show rn = 0 ∨ rn = 1 ∨ rn = 2 ∨ rn = 3 ∨ rn = 4 from by omega) with rfl | rfl | rfl | rfl | rfl
  · exact ⟨2, fun w => cell_of_row _ _ _ _ _ _ (heap_alloc_new w _), by omega, by omega⟩
  · exact ⟨3, fun w => cell_of_row _ _ _ _ _ _ (heap_alloc_new w _), by omega, by omega⟩
  · exact ⟨4, fun w => cell_of_row _ _ _ _ _ _ (heap_alloc_new w _), by omega, by omega⟩
  · exact ⟨4, fun w => cell_of_row _ _ _ _ _ _ (heap_alloc_new w _), by omega, by omega⟩
  · exact ⟨5, fun w => cell_of_row _ _ _ _ _ _ (heap_alloc_new w _), by omega, by omega⟩
theorem arrW (rn : Nat) (h : rn ≤ 1) : ∃ d : Int, (∀ w : World, (w.alloc (.cells #[.int .i64 2, .int .i64 4] 3)).cell? ⟨w.heap.size, rn, none⟩ = some (.int .i64 d)) ∧ 2 ≤ d ∧ d ≤ 4 := by
  rcases (show rn = 0 ∨ rn = 1 from by omega) with rfl | rfl
  · exact ⟨2, fun w => cell_of_row _ _ _ _ _ _ (heap_alloc_new w _), by omega, by omega⟩
  · exact ⟨4, fun w => cell_of_row _ _ _ _ _ _ (heap_alloc_new w _), by omega, by omega⟩
theorem rq_box {w wr : World} {g : Nat} {A : Option Addr} {c : Nat} {bytes : List Int} {q bx : Nat} {W T : Int} {V : Value} (h : Rq w g A c bytes q bx W T V wr) : wr.cell? ⟨bx, 0, none⟩ = some (.int .i64 W) ∧ wr.cell? ⟨bx, 1, none⟩ = some (.int .i64 T) ∧ wr.cell? ⟨bx, 2, none⟩ = some V := by
  obtain ⟨x0, x1, x2, -, -, -⟩ := blk3 h.box
  exact ⟨x0, x1, x2⟩
/-- a region, a list and something; the reader has gone on -/
def SomeTwo (g : Nat) (A : Option Addr) (c : Nat) (bytes : List Int) (p : Nat) (w : World) (e : Ending) (w' : World) : Prop :=
  ∃ (W T : Int) (bs : List Bool) (B : Option Addr) (k : Nat) (L : List Int) (D : Option Addr) (d : Nat) (V : Value) (p' : Nat), e = .returned (.tuple #[.agg #[.int .i64 W, .int .i64 T, .slice B bs.length k], .slice D L.length d, V]) ∧ Rd w' B (bs.map .bool) ∧ bs.length ≤ 37 ∧ Rd w' D (L.map (.int .i64)) ∧ L.length ≤ 36 ∧
    RdS w' g A c bytes p' ∧ p' ≤ p + 300 ∧ w.grownBy w' (some g) ∧ (∀ ad, B = some ad → w.heap.size ≤ ad.block) ∧ (∀ ad, D = some ad → w.heap.size ≤ ad.block)
set_option maxRecDepth 100000 in
set_option maxHeartbeats 8000000 in
theorem two_any (w : World) (g : Nat) (A : Option Addr) (c : Nat) (bytes : List Int) (p : Nat) (h : RdS w g A c bytes p) (hp : p ≤ 20000) :
    Calls Tryz.prog 43 #[.pointer (some ⟨g, 0, none⟩)] w (SomeTwo g A c bytes p w) := by
  have hg := heap_lt h.1
  have hA : bytes ≠ [] → ∀ ad, A = some ad → ad.block < w.heap.size := by
    intro hne ad ha
    obtain ⟨ad', ha', hc⟩ := h.2.1 (by simpa using hne)
    obtain rfl := Option.some.inj (ha.symm.trans ha')
    obtain ⟨x, ys, rfl⟩ := List.exists_cons_of_ne_nil hne
    have := World.block_lt_of_cell? w _ (hc 0 _ rfl)
    simpa [Addr.add] using this
  have H0 : Rs w g A c bytes p (w.alloc (.cells #[.int .i64 0, .int .i64 0, .slice none 0 0] 25)) :=
    ⟨h.below hg (bl_alloc (Below.refl _ _) _), heap_alloc_new w _, gb_below (World.grownBy.refl _ _) (bl_alloc (Below.refl _ _) _), hg, hA⟩
  go_enter Tryz.func43, Tryz.ntmps43
  go_wp2_with fail
  have hsa : (w.alloc (.cells #[.int .i64 0, .int .i64 0, .slice none 0 0] 25)).heap.size = w.heap.size + 1 := by simp
  generalize w.alloc (.cells #[.int .i64 0, .int .i64 0, .slice none 0 0] 25) = wa at *
  refine (some_any 16 _ g A c bytes p H0.rds (by omega) (by omega) (by omega)).mono ?_
  rintro e w1 ⟨W, T, bs, B, kb, q, rfl, hrd, hl37, S1, hq, G1, hB⟩
  have hB1 : ∀ ad, B = some ad → w.heap.size < ad.block := fun ad ha => by have := hB ad ha; omega
  have H1 : Rq w g A c bytes q w1.heap.size W T (.slice B bs.length kb) (w1.alloc (.cells #[.int .i64 W, .int .i64 T, .slice B bs.length kb] 25)) :=
    ⟨(H0.pick S1 G1).alloc _, heap_alloc_new w1 _, by have := heap_lt S1.1; omega⟩
  have R1 := hrd.alloc (.cells #[.int .i64 W, .int .i64 T, .slice B bs.length kb] 25)
  have hbw : w.heap.size < w1.heap.size := by have := heap_lt (H0.pick S1 G1).res; omega
  have hgB : ∀ ad, B = some ad → g < ad.block := fun ad ha => by have := hB1 ad ha; omega
  have hmx : bs.length ≤ maxLen := by unfold maxLen; omega
  clear H0 S1 G1 hrd hB hsa h
  go_upto_region 2 with fail
  generalize w1.alloc (.cells #[.int .i64 W, .int .i64 T, .slice B bs.length kb] 25) = wb at *
  generalize w1.heap.size = bx at *
  obtain ⟨x0, x1, x2, y0, y1, y2⟩ := blk3 H1.box
  go_cut [20] from 11 to 64 (fun s20 wx => ∃ cb : Bool, s20 = .bool cb ∧ Rq w g A c bytes q bx W T (.slice B bs.length kb) wx ∧ Rd wx B (bs.map .bool))
  case first =>
    go_wp2_with fail
    refine (sSimple_any W T B kb bs.length bs _ R1 rfl hmx).mono ?_
    rintro e w2 ⟨rfl, b2⟩
    have H2 := H1.below b2
    have R2 := R1.belo b2
    clear H1 R1 b2 x0 x1 x2 y0 y1 y2
    cases hs : simpB W T bs with
    | false =>
      go_wp2_with fail
      go_meet
      exact ⟨true, rfl, H2, R2⟩
    | true =>
      have CT := Lib.hid (sTilingsMany_any W T B kb bs.length bs _ R2 rfl hmx)
      obtain ⟨x0, x1, x2, y0, y1, y2⟩ := blk3 H2.box
      generalize tmZ W T bs = tm at *
      clear hs
      go_wp2_with fail
      refine CT.out.mono ?_
      rintro e w3 ⟨rfl, b3⟩
      have H3 := H2.below b3
      have R3 := R2.belo b3
      clear H2 R2 b3 x0 x1 x2 y0 y1 y2 CT
      go_wp2_with fail
      go_meet
      exact ⟨_, rfl, H3, R3⟩
  case rest =>
    clear H1 R1 x0 x1 x2 y0 y1 y2
    obtain ⟨cb, rfl, H1, R1⟩ := hcut
    obtain ⟨w1, hw1⟩ : ∃ w1 : World, w1 = wc := ⟨_, rfl⟩
    subst hw1
    go_upto_if 20 with fail
    go_cut [20] from 20 to 64 (fun _ wx => ∃ (W' T' : Int) (bs' : List Bool) (B' : Option Addr) (kb' q' : Nat), q' ≤ p + 100 ∧ bs'.length ≤ 37 ∧ (∀ ad, B' = some ad → w.heap.size < ad.block) ∧ Rq w g A c bytes q' bx W' T' (.slice B' bs'.length kb') wx ∧ Rd wx B' (bs'.map .bool))
    case first =>
      cases cb with
      | false =>
        go_wp2_with fail
        go_meet
        exact ⟨W, T, bs, B, kb, q, by omega, hl37, hB1, H1, R1⟩
      | true =>
        skip
        obtain ⟨rn1, e1, h1⟩ : ∃ rn : Nat, pickV 5 bytes q = rn ∧ rn ≤ 4 := by
          have := pickV_bd (n := 5) bytes q (by omega)
          exact ⟨(pickV 5 bytes q).toNat, by omega, by omega⟩
        obtain ⟨rn2, e2, h2⟩ : ∃ rn : Nat, pickV 2 bytes (q + 1) = rn ∧ rn ≤ 1 := by
          have := pickV_bd (n := 2) bytes (q + 1) (by omega)
          exact ⟨(pickV 2 bytes (q + 1)).toNat, by omega, by omega⟩
        have p5 : ∀ z, RdS z g A c bytes q → Calls Tryz.prog 45 #[.pointer (some ⟨g, 0, none⟩), .int .i64 5] z fun e w' => e = .returned (.int .i64 rn1) ∧ RdS w' g A c bytes (q + 1) ∧ z.grownBy w' (some g) := fun z R => by
          have := pickV_any 5 z g A c bytes q R (by omega) (by omega)
          unfold PickedV at this; rw [e1] at this; exact this
        have p3 : ∀ z, RdS z g A c bytes (q + 1) → Calls Tryz.prog 45 #[.pointer (some ⟨g, 0, none⟩), .int .i64 2] z fun e w' => e = .returned (.int .i64 rn2) ∧ RdS w' g A c bytes (q + 1 + 1) ∧ z.grownBy w' (some g) := fun z R => by
          have := pickV_any 2 z g A c bytes (q + 1) R (by omega) (by omega)
          unfold PickedV at this; rw [e2] at this; exact this
        have P5 := Lib.hid p5
        have P3 := Lib.hid p3
        obtain ⟨d5, f5, a1, a2⟩ := arrV rn1 h1
        obtain ⟨d3, f3, a3, a4⟩ := arrW rn2 h2
        have F5 := Lib.hid f5
        have F3 := Lib.hid f3
        have SZ := Lib.hid (show ∀ (z : World) (o : Obj), (z.alloc o).heap.size = z.heap.size + 1 from fun z o => by simp)
        clear p5 p3 f5 f3 e1 e2
        have hr1 : (rn1 : Int) < 5 := by omega
        have hr2 : (rn2 : Int) < 2 := by omega
        have q0 : g < w1.heap.size := heap_lt H1.rds.1
        have q1 : g ≠ w1.heap.size := by omega
        have E5a : (w1.alloc (.cells #[.int .i64 2, .int .i64 3, .int .i64 4, .int .i64 4, .int .i64 5] 3)).cell? ⟨w1.heap.size, rn1, none⟩ = some (.int .i64 d5) := F5.out w1
        have E3a : (w1.alloc (.cells #[.int .i64 2, .int .i64 4] 3)).cell? ⟨w1.heap.size, rn2, none⟩ = some (.int .i64 d3) := F3.out w1
        have E5b : ((w1.alloc (.cells #[.int .i64 2, .int .i64 4] 3)).alloc (.cells #[.int .i64 2, .int .i64 3, .int .i64 4, .int .i64 4, .int .i64 5] 3)).cell? ⟨w1.heap.size + 1, rn1, none⟩ = some (.int .i64 d5) := by have := F5.out (w1.alloc (.cells #[.int .i64 2, .int .i64 4] 3)); rw [SZ.out] at this; exact this
        have E3b : ((w1.alloc (.cells #[.int .i64 2, .int .i64 3, .int .i64 4, .int .i64 4, .int .i64 5] 3)).alloc (.cells #[.int .i64 2, .int .i64 4] 3)).cell? ⟨w1.heap.size + 1, rn2, none⟩ = some (.int .i64 d3) := by have := F3.out (w1.alloc (.cells #[.int .i64 2, .int .i64 3, .int .i64 4, .int .i64 4, .int .i64 5] 3)); rw [SZ.out] at this; exact this
        go_wp2_with fail
        go_region_law (
          go_simp
          first
            | (go_at_call 45
               first
                 | (with_reducible refine (P5.out w1.drew H1.drew.rds).mono ?_
                    rintro e w4 ⟨rfl, S4, G4⟩
                    have H4 := H1.drew.pick S4 G4
                    have q4 : g < w4.heap.size := by have := heap_lt H4.rds.1; exact this
                    have q5 : g ≠ w4.heap.size := by omega
                    have E5c := F5.out w4
                    have E3c := F3.out w4
                    have E5g := cell_al E5c (.cells #[.int .i64 2, .int .i64 4] 3)
                    have E3g := cell_al E3c (.cells #[.int .i64 2, .int .i64 3, .int .i64 4, .int .i64 4, .int .i64 5] 3)
                    try have F5r := cell_al F5p (.cells #[.int .i64 2, .int .i64 4] 3)
                    try have F3r := cell_al F3p (.cells #[.int .i64 2, .int .i64 3, .int .i64 4, .int .i64 4, .int .i64 5] 3)
                    have E5d := F5.out (w4.alloc (.cells #[.int .i64 2, .int .i64 4] 3))
                    have E3d := F3.out (w4.alloc (.cells #[.int .i64 2, .int .i64 3, .int .i64 4, .int .i64 4, .int .i64 5] 3))
                    rw [SZ.out] at E5d
                    rw [SZ.out] at E3d)
                 | (with_reducible refine (P5.out (w1.alloc (.cells #[.int .i64 2, .int .i64 3, .int .i64 4, .int .i64 4, .int .i64 5] 3)).drew (H1.alloc (.cells #[.int .i64 2, .int .i64 3, .int .i64 4, .int .i64 4, .int .i64 5] 3)).drew.rds).mono ?_
                    rintro e w4 ⟨rfl, S4, G4⟩
                    have H4 := (H1.alloc (.cells #[.int .i64 2, .int .i64 3, .int .i64 4, .int .i64 4, .int .i64 5] 3)).drew.pick S4 G4
                    have q4 : g < w4.heap.size := by have := heap_lt H4.rds.1; exact this
                    have q5 : g ≠ w4.heap.size := by omega
                    have F5p := gb_cell G4 (by omega) E5a
                    have zF5p := World.block_lt_of_cell? _ _ F5p
                    dsimp only at zF5p
                    have E5c := F5.out w4
                    have E3c := F3.out w4
                    have E5g := cell_al E5c (.cells #[.int .i64 2, .int .i64 4] 3)
                    have E3g := cell_al E3c (.cells #[.int .i64 2, .int .i64 3, .int .i64 4, .int .i64 4, .int .i64 5] 3)
                    try have F5r := cell_al F5p (.cells #[.int .i64 2, .int .i64 4] 3)
                    try have F3r := cell_al F3p (.cells #[.int .i64 2, .int .i64 3, .int .i64 4, .int .i64 4, .int .i64 5] 3)
                    have E5d := F5.out (w4.alloc (.cells #[.int .i64 2, .int .i64 4] 3))
                    have E3d := F3.out (w4.alloc (.cells #[.int .i64 2, .int .i64 3, .int .i64 4, .int .i64 4, .int .i64 5] 3))
                    rw [SZ.out] at E5d
                    rw [SZ.out] at E3d)
                 | (with_reducible refine (P5.out (w1.alloc (.cells #[.int .i64 2, .int .i64 4] 3)).drew (H1.alloc (.cells #[.int .i64 2, .int .i64 4] 3)).drew.rds).mono ?_
                    rintro e w4 ⟨rfl, S4, G4⟩
                    have H4 := (H1.alloc (.cells #[.int .i64 2, .int .i64 4] 3)).drew.pick S4 G4
                    have q4 : g < w4.heap.size := by have := heap_lt H4.rds.1; exact this
                    have q5 : g ≠ w4.heap.size := by omega
                    have F3p := gb_cell G4 (by omega) E3a
                    have zF3p := World.block_lt_of_cell? _ _ F3p
                    dsimp only at zF3p
                    have E5c := F5.out w4
                    have E3c := F3.out w4
                    have E5g := cell_al E5c (.cells #[.int .i64 2, .int .i64 4] 3)
                    have E3g := cell_al E3c (.cells #[.int .i64 2, .int .i64 3, .int .i64 4, .int .i64 4, .int .i64 5] 3)
                    try have F5r := cell_al F5p (.cells #[.int .i64 2, .int .i64 4] 3)
                    try have F3r := cell_al F3p (.cells #[.int .i64 2, .int .i64 3, .int .i64 4, .int .i64 4, .int .i64 5] 3)
                    have E5d := F5.out (w4.alloc (.cells #[.int .i64 2, .int .i64 4] 3))
                    have E3d := F3.out (w4.alloc (.cells #[.int .i64 2, .int .i64 3, .int .i64 4, .int .i64 4, .int .i64 5] 3))
                    rw [SZ.out] at E5d
                    rw [SZ.out] at E3d)
                 | (with_reducible refine (P5.out ((w1.alloc (.cells #[.int .i64 2, .int .i64 3, .int .i64 4, .int .i64 4, .int .i64 5] 3)).alloc (.cells #[.int .i64 2, .int .i64 4] 3)).drew ((H1.alloc (.cells #[.int .i64 2, .int .i64 3, .int .i64 4, .int .i64 4, .int .i64 5] 3)).alloc (.cells #[.int .i64 2, .int .i64 4] 3)).drew.rds).mono ?_
                    rintro e w4 ⟨rfl, S4, G4⟩
                    have H4 := ((H1.alloc (.cells #[.int .i64 2, .int .i64 3, .int .i64 4, .int .i64 4, .int .i64 5] 3)).alloc (.cells #[.int .i64 2, .int .i64 4] 3)).drew.pick S4 G4
                    have q4 : g < w4.heap.size := by have := heap_lt H4.rds.1; exact this
                    have q5 : g ≠ w4.heap.size := by omega
                    have F5p := gb_cell G4 (by omega) (cell_al E5a (.cells #[.int .i64 2, .int .i64 4] 3))
                    have zF5p := World.block_lt_of_cell? _ _ F5p
                    dsimp only at zF5p
                    have F3p := gb_cell G4 (by omega) E3b
                    have zF3p := World.block_lt_of_cell? _ _ F3p
                    dsimp only at zF3p
                    have E5c := F5.out w4
                    have E3c := F3.out w4
                    have E5g := cell_al E5c (.cells #[.int .i64 2, .int .i64 4] 3)
                    have E3g := cell_al E3c (.cells #[.int .i64 2, .int .i64 3, .int .i64 4, .int .i64 4, .int .i64 5] 3)
                    try have F5r := cell_al F5p (.cells #[.int .i64 2, .int .i64 4] 3)
                    try have F3r := cell_al F3p (.cells #[.int .i64 2, .int .i64 3, .int .i64 4, .int .i64 4, .int .i64 5] 3)
                    have E5d := F5.out (w4.alloc (.cells #[.int .i64 2, .int .i64 4] 3))
                    have E3d := F3.out (w4.alloc (.cells #[.int .i64 2, .int .i64 3, .int .i64 4, .int .i64 4, .int .i64 5] 3))
                    rw [SZ.out] at E5d
                    rw [SZ.out] at E3d)
                 | (with_reducible refine (P5.out ((w1.alloc (.cells #[.int .i64 2, .int .i64 4] 3)).alloc (.cells #[.int .i64 2, .int .i64 3, .int .i64 4, .int .i64 4, .int .i64 5] 3)).drew ((H1.alloc (.cells #[.int .i64 2, .int .i64 4] 3)).alloc (.cells #[.int .i64 2, .int .i64 3, .int .i64 4, .int .i64 4, .int .i64 5] 3)).drew.rds).mono ?_
                    rintro e w4 ⟨rfl, S4, G4⟩
                    have H4 := ((H1.alloc (.cells #[.int .i64 2, .int .i64 4] 3)).alloc (.cells #[.int .i64 2, .int .i64 3, .int .i64 4, .int .i64 4, .int .i64 5] 3)).drew.pick S4 G4
                    have q4 : g < w4.heap.size := by have := heap_lt H4.rds.1; exact this
                    have q5 : g ≠ w4.heap.size := by omega
                    have F3p := gb_cell G4 (by omega) (cell_al E3a (.cells #[.int .i64 2, .int .i64 3, .int .i64 4, .int .i64 4, .int .i64 5] 3))
                    have zF3p := World.block_lt_of_cell? _ _ F3p
                    dsimp only at zF3p
                    have F5p := gb_cell G4 (by omega) E5b
                    have zF5p := World.block_lt_of_cell? _ _ F5p
                    dsimp only at zF5p
                    have E5c := F5.out w4
                    have E3c := F3.out w4
                    have E5g := cell_al E5c (.cells #[.int .i64 2, .int .i64 4] 3)
                    have E3g := cell_al E3c (.cells #[.int .i64 2, .int .i64 3, .int .i64 4, .int .i64 4, .int .i64 5] 3)
                    try have F5r := cell_al F5p (.cells #[.int .i64 2, .int .i64 4] 3)
                    try have F3r := cell_al F3p (.cells #[.int .i64 2, .int .i64 3, .int .i64 4, .int .i64 4, .int .i64 5] 3)
                    have E5d := F5.out (w4.alloc (.cells #[.int .i64 2, .int .i64 4] 3))
                    have E3d := F3.out (w4.alloc (.cells #[.int .i64 2, .int .i64 3, .int .i64 4, .int .i64 4, .int .i64 5] 3))
                    rw [SZ.out] at E5d
                    rw [SZ.out] at E3d)
                 | (with_reducible refine (P3.out w4 H4.rds).mono ?_
                    rintro e w6 ⟨rfl, S6, G6⟩
                    have H6 := H4.pick S6 G6
                    try (have F5q := gb_cell G6 (by omega) F5p
                         have zF5q := World.block_lt_of_cell? _ _ F5q
                         dsimp only at zF5q)
                    try (have F3q := gb_cell G6 (by omega) F3p
                         have zF3q := World.block_lt_of_cell? _ _ F3q
                         dsimp only at zF3q)
                    have E5e := F5.out w6
                    have E3e := F3.out w6
                    have E5h := cell_al E5e (.cells #[.int .i64 2, .int .i64 4] 3)
                    have E3h := cell_al E3e (.cells #[.int .i64 2, .int .i64 3, .int .i64 4, .int .i64 4, .int .i64 5] 3)
                    try have F5s := cell_al F5q (.cells #[.int .i64 2, .int .i64 4] 3)
                    try have F3s := cell_al F3q (.cells #[.int .i64 2, .int .i64 3, .int .i64 4, .int .i64 4, .int .i64 5] 3)
                    have E5f := F5.out (w6.alloc (.cells #[.int .i64 2, .int .i64 4] 3))
                    have E3f := F3.out (w6.alloc (.cells #[.int .i64 2, .int .i64 3, .int .i64 4, .int .i64 4, .int .i64 5] 3))
                    rw [SZ.out] at E5f
                    rw [SZ.out] at E3f)
                 | (with_reducible refine (P3.out (w4.alloc (.cells #[.int .i64 2, .int .i64 3, .int .i64 4, .int .i64 4, .int .i64 5] 3)) (H4.alloc (.cells #[.int .i64 2, .int .i64 3, .int .i64 4, .int .i64 4, .int .i64 5] 3)).rds).mono ?_
                    rintro e w6 ⟨rfl, S6, G6⟩
                    have H6 := (H4.alloc (.cells #[.int .i64 2, .int .i64 3, .int .i64 4, .int .i64 4, .int .i64 5] 3)).pick S6 G6
                    try (have F5q := gb_cell G6 (by omega) E5c
                         have zF5q := World.block_lt_of_cell? _ _ F5q
                         dsimp only at zF5q)
                    try (have F3q := gb_cell G6 (by omega) (cell_al F3p (.cells #[.int .i64 2, .int .i64 3, .int .i64 4, .int .i64 4, .int .i64 5] 3))
                         have zF3q := World.block_lt_of_cell? _ _ F3q
                         dsimp only at zF3q)
                    have E5e := F5.out w6
                    have E3e := F3.out w6
                    have E5h := cell_al E5e (.cells #[.int .i64 2, .int .i64 4] 3)
                    have E3h := cell_al E3e (.cells #[.int .i64 2, .int .i64 3, .int .i64 4, .int .i64 4, .int .i64 5] 3)
                    try have F5s := cell_al F5q (.cells #[.int .i64 2, .int .i64 4] 3)
                    try have F3s := cell_al F3q (.cells #[.int .i64 2, .int .i64 3, .int .i64 4, .int .i64 4, .int .i64 5] 3)
                    have E5f := F5.out (w6.alloc (.cells #[.int .i64 2, .int .i64 4] 3))
                    have E3f := F3.out (w6.alloc (.cells #[.int .i64 2, .int .i64 3, .int .i64 4, .int .i64 4, .int .i64 5] 3))
                    rw [SZ.out] at E5f
                    rw [SZ.out] at E3f)
                 | (with_reducible refine (P3.out (w4.alloc (.cells #[.int .i64 2, .int .i64 4] 3)) (H4.alloc (.cells #[.int .i64 2, .int .i64 4] 3)).rds).mono ?_
                    rintro e w6 ⟨rfl, S6, G6⟩
                    have H6 := (H4.alloc (.cells #[.int .i64 2, .int .i64 4] 3)).pick S6 G6
                    try (have F3q := gb_cell G6 (by omega) E3c
                         have zF3q := World.block_lt_of_cell? _ _ F3q
                         dsimp only at zF3q)
                    try (have F5q := gb_cell G6 (by omega) (cell_al F5p (.cells #[.int .i64 2, .int .i64 4] 3))
                         have zF5q := World.block_lt_of_cell? _ _ F5q
                         dsimp only at zF5q)
                    have E5e := F5.out w6
                    have E3e := F3.out w6
                    have E5h := cell_al E5e (.cells #[.int .i64 2, .int .i64 4] 3)
                    have E3h := cell_al E3e (.cells #[.int .i64 2, .int .i64 3, .int .i64 4, .int .i64 4, .int .i64 5] 3)
                    try have F5s := cell_al F5q (.cells #[.int .i64 2, .int .i64 4] 3)
                    try have F3s := cell_al F3q (.cells #[.int .i64 2, .int .i64 3, .int .i64 4, .int .i64 4, .int .i64 5] 3)
                    have E5f := F5.out (w6.alloc (.cells #[.int .i64 2, .int .i64 4] 3))
                    have E3f := F3.out (w6.alloc (.cells #[.int .i64 2, .int .i64 3, .int .i64 4, .int .i64 4, .int .i64 5] 3))
                    rw [SZ.out] at E5f
                    rw [SZ.out] at E3f)
                 | (with_reducible refine (P3.out ((w4.alloc (.cells #[.int .i64 2, .int .i64 3, .int .i64 4, .int .i64 4, .int .i64 5] 3)).alloc (.cells #[.int .i64 2, .int .i64 4] 3)) ((H4.alloc (.cells #[.int .i64 2, .int .i64 3, .int .i64 4, .int .i64 4, .int .i64 5] 3)).alloc (.cells #[.int .i64 2, .int .i64 4] 3)).rds).mono ?_
                    rintro e w6 ⟨rfl, S6, G6⟩
                    have H6 := ((H4.alloc (.cells #[.int .i64 2, .int .i64 3, .int .i64 4, .int .i64 4, .int .i64 5] 3)).alloc (.cells #[.int .i64 2, .int .i64 4] 3)).pick S6 G6
                    try (have F5q := gb_cell G6 (by omega) (cell_al E5c (.cells #[.int .i64 2, .int .i64 4] 3))
                         have zF5q := World.block_lt_of_cell? _ _ F5q
                         dsimp only at zF5q)
                    try (have F3q := gb_cell G6 (by omega) E3d
                         have zF3q := World.block_lt_of_cell? _ _ F3q
                         dsimp only at zF3q)
                    have E5e := F5.out w6
                    have E3e := F3.out w6
                    have E5h := cell_al E5e (.cells #[.int .i64 2, .int .i64 4] 3)
                    have E3h := cell_al E3e (.cells #[.int .i64 2, .int .i64 3, .int .i64 4, .int .i64 4, .int .i64 5] 3)
                    try have F5s := cell_al F5q (.cells #[.int .i64 2, .int .i64 4] 3)
                    try have F3s := cell_al F3q (.cells #[.int .i64 2, .int .i64 3, .int .i64 4, .int .i64 4, .int .i64 5] 3)
                    have E5f := F5.out (w6.alloc (.cells #[.int .i64 2, .int .i64 4] 3))
                    have E3f := F3.out (w6.alloc (.cells #[.int .i64 2, .int .i64 3, .int .i64 4, .int .i64 4, .int .i64 5] 3))
                    rw [SZ.out] at E5f
                    rw [SZ.out] at E3f)
                 | (with_reducible refine (P3.out ((w4.alloc (.cells #[.int .i64 2, .int .i64 4] 3)).alloc (.cells #[.int .i64 2, .int .i64 3, .int .i64 4, .int .i64 4, .int .i64 5] 3)) ((H4.alloc (.cells #[.int .i64 2, .int .i64 4] 3)).alloc (.cells #[.int .i64 2, .int .i64 3, .int .i64 4, .int .i64 4, .int .i64 5] 3)).rds).mono ?_
                    rintro e w6 ⟨rfl, S6, G6⟩
                    have H6 := ((H4.alloc (.cells #[.int .i64 2, .int .i64 4] 3)).alloc (.cells #[.int .i64 2, .int .i64 3, .int .i64 4, .int .i64 4, .int .i64 5] 3)).pick S6 G6
                    try (have F3q := gb_cell G6 (by omega) (cell_al E3c (.cells #[.int .i64 2, .int .i64 3, .int .i64 4, .int .i64 4, .int .i64 5] 3))
                         have zF3q := World.block_lt_of_cell? _ _ F3q
                         dsimp only at zF3q)
                    try (have F5q := gb_cell G6 (by omega) E5d
                         have zF5q := World.block_lt_of_cell? _ _ F5q
                         dsimp only at zF5q)
                    have E5e := F5.out w6
                    have E3e := F3.out w6
                    have E5h := cell_al E5e (.cells #[.int .i64 2, .int .i64 4] 3)
                    have E3h := cell_al E3e (.cells #[.int .i64 2, .int .i64 3, .int .i64 4, .int .i64 4, .int .i64 5] 3)
                    try have F5s := cell_al F5q (.cells #[.int .i64 2, .int .i64 4] 3)
                    try have F3s := cell_al F3q (.cells #[.int .i64 2, .int .i64 3, .int .i64 4, .int .i64 4, .int .i64 5] 3)
                    have E5f := F5.out (w6.alloc (.cells #[.int .i64 2, .int .i64 4] 3))
                    have E3f := F3.out (w6.alloc (.cells #[.int .i64 2, .int .i64 3, .int .i64 4, .int .i64 4, .int .i64 5] 3))
                    rw [SZ.out] at E5f
                    rw [SZ.out] at E3f))
            | (go_at_call 63
               with_reducible refine (sRegionBox_any d5 d3 _).mono ?_
               rintro e w7 ⟨B7, kb7, rfl, o7, b7⟩
               have H7 : Rq w g A c bytes (q + 1 + 1) bx W T (.slice B bs.length kb) w7 := by first | exact H6.below b7 | exact (H6.alloc (.cells #[.int .i64 2, .int .i64 3, .int .i64 4, .int .i64 4, .int .i64 5] 3)).below b7 | exact (H6.alloc (.cells #[.int .i64 2, .int .i64 4] 3)).below b7 | exact ((H6.alloc (.cells #[.int .i64 2, .int .i64 3, .int .i64 4, .int .i64 4, .int .i64 5] 3)).alloc (.cells #[.int .i64 2, .int .i64 4] 3)).below b7 | exact ((H6.alloc (.cells #[.int .i64 2, .int .i64 4] 3)).alloc (.cells #[.int .i64 2, .int .i64 3, .int .i64 4, .int .i64 4, .int .i64 5] 3)).below b7
               have hB : ∀ ad, B7 = some ad → bx < ad.block := fun ad ha => by have t := o7.1 ad ha; have := heap_lt H6.box; (try simp at t); omega
               obtain ⟨s0, s1, s2, t0, t1, t2⟩ := blk3 H7.box))
        all_goals (
          have R7 := o7.rd
          have hl7 := box_len d5 d3
          have HF := Lib.hid (show ∃ (W' T' : Int) (bs' : List Bool) (B' : Option Addr) (kb' q' : Nat), q' ≤ p + 100 ∧ bs'.length ≤ 37 ∧ (∀ ad, B' = some ad → w.heap.size < ad.block) ∧ Rq w g A c bytes q' bx W' T' (.slice B' bs'.length kb') (((w7.setCell ⟨bx, 0, none⟩ (.int .i64 (boxW d5 d3))).setCell ⟨bx, 1, none⟩ (.int .i64 (boxT d5 d3))).setCell ⟨bx, 2, none⟩ (.slice B7 (boxB d5 d3).length kb7)) ∧ Rd (((w7.setCell ⟨bx, 0, none⟩ (.int .i64 (boxW d5 d3))).setCell ⟨bx, 1, none⟩ (.int .i64 (boxT d5 d3))).setCell ⟨bx, 2, none⟩ (.slice B7 (boxB d5 d3).length kb7)) B' (bs'.map .bool) from
            ⟨_, _, _, B7, kb7, q + 1 + 1, by omega, by omega, (fun ad e => by have := hB ad e; omega), H7.put hbw _ _ _, rd_box3 R7 (fun ad e => by have := hB ad e; omega) _ _ _⟩)
          clear o7 hB R7 H7
          go_wp2_with fail
          go_meet
          exact HF.out)
    case rest =>
      clear H1 R1 hB1 hl37 hq hmx hgB
      obtain ⟨W, T, bs, B, kb, q, hq, hl37, hB1, H4, R4⟩ := hcut
      obtain ⟨w4, hw4⟩ : ∃ w4 : World, w4 = wc := ⟨_, rfl⟩
      subst hw4
      have hmx : bs.length ≤ maxLen := by unfold maxLen; omega
      have hgB : ∀ ad, B = some ad → g < ad.block := fun ad ha => by have := hB1 ad ha; have := H4.hg; omega
      obtain ⟨x0, x1, x2, y0, y1, y2⟩ := blk3 H4.box
      have CM := Lib.hid (sTilingsMany_any W T B kb bs.length bs _ R4 rfl hmx)
      obtain ⟨tm, htm⟩ : ∃ tm, tmZ W T bs = tm := ⟨_, rfl⟩
      rw [htm] at CM
      clear htm
      go_wp2_with fail
      refine CM.out.mono ?_
      rintro e w5 ⟨rfl, b5⟩
      have H5 := H4.below b5
      have R5 := R4.belo b5
      have hbx5 := heap_lt H5.box
      obtain ⟨mm, hmm⟩ : ∃ mm, max tm 1 = mm := ⟨_, rfl⟩
      have hmm1 : 1 ≤ mm := by omega
      have hmm0 : mm ≠ 0 := by omega
      have hmb : (mm == 0) = false := by rw [beq_eq_false_iff_ne]; exact hmm0
      have hm1 := hmm
      clear H4 R4 b5 x0 x1 x2 y0 y1 y2 CM
      have CP := Lib.hid (pick_any 256 w5.drew g A c bytes q H5.drew.rds (by omega) (by omega))
      have CTO := Lib.hid (fun (rk : Int) (z : World) (R : Rd z B (bs.map .bool)) => sTilingOf_any W T B kb bs.length bs rk z R rfl hmx)
      have hbg := H5.bg
      have hL5 : ∀ (z : World) (D : Option Addr), w5.heap.size ≤ z.heap.size → (∀ ad, D = some ad → z.heap.size ≤ ad.block) → ∀ ad, D = some ad → bx < ad.block ∧ g < ad.block ∧ w.heap.size < ad.block := fun z D h1 h2 ad e => by
        have := h2 ad e
        have := heap_lt H5.rds.1
        have := heap_lt H5.res
        omega
      have HL5 := Lib.hid hL5
      clear hL5 hbg
      obtain ⟨x0, x1, x2, -, -, -⟩ := blk3 H5.box
      go_upto_region 5 with fail
      go_cut [7] from 34 to 64 (fun s7 wx => ∃ (L : List Int) (D : Option Addr) (d : Nat), s7 = .slice D L.length d ∧ L.length ≤ 36 ∧ Rd wx D (L.map (.int .i64)) ∧ Hid (∀ ad, D = some ad → bx < ad.block ∧ g < ad.block ∧ w.heap.size < ad.block) ∧ Rq w g A c bytes (q + 1) bx W T (.slice B bs.length kb) wx ∧ Rd wx B (bs.map .bool))
      case first =>
        go_region_held3 (fun w' => w'.cell? ⟨bx, 0, none⟩ = some (.int .i64 W) ∧ w'.cell? ⟨bx, 1, none⟩ = some (.int .i64 T) ∧ w'.cell? ⟨bx, 2, none⟩ = some (.slice B bs.length kb))
          (first | (with_reducible exact Y7) | (with_reducible exact Y6) | (with_reducible exact ⟨x0, x1, x2⟩) | go_keep)
          (first
          | (go_at_call 45; (with_reducible refine CP.out.mono ?_); rintro e w6 ⟨r6, rfl, hr6, S6, G6⟩; have H6 := H5.drew.pick S6 G6; have R6 := rd_pick R5.drew hgB G6; (have Y6 := rq_box H6))
          | (go_at_call 84; (with_reducible refine (CTO.out _ w6 R6).mono ?_); rintro e w7 ⟨D, d, L, ok7, rfl, RL7, hL7, b7, hD7⟩; have H7 := H6.below b7; have R7 := R6.belo b7; (have Y7 := rq_box H7)))
        all_goals (
          have HF := Lib.hid (show ∃ (L' : List Int) (D' : Option Addr) (d' : Nat), Value.slice D L.length d = .slice D' L'.length d' ∧ L'.length ≤ 36 ∧ Rd w7 D' (L'.map (.int .i64)) ∧ Hid (∀ ad, D' = some ad → bx < ad.block ∧ g < ad.block ∧ w.heap.size < ad.block) ∧ Rq w g A c bytes (q + 1) bx W T (.slice B bs.length kb) w7 ∧ Rd w7 B (bs.map .bool) from
            ⟨L, D, d, rfl, hL7, RL7, Lib.hid (HL5.out w6 D G6.size hD7), H7, R7⟩)
          clear RL7 H7 R7 Y7 Y6 hD7 H6 R6
          go_wp2_with fail
          go_meet
          exact HF.out)
      case rest =>
        clear H5 R5 x0 x1 x2 CP
        obtain ⟨L, D, d, rfl, hL36, RL, HD, H5, R5⟩ := hcut
        obtain ⟨w5, hw5⟩ : ∃ w5 : World, w5 = wc := ⟨_, rfl⟩
        subst hw5
        have CP := Lib.hid (pick_any 256 w5.drew g A c bytes (q + 1) H5.drew.rds (by omega) (by omega))
        obtain ⟨x0, x1, x2, -, -, -⟩ := blk3 H5.box
        go_upto_region 6 with fail
        go_cut [9] from 44 to 64 (fun _ wx => Rd wx D (L.map (.int .i64)) ∧ Rq w g A c bytes (q + 1 + 1) bx W T (.slice B bs.length kb) wx ∧ Rd wx B (bs.map .bool))
        case first =>
          go_region_held3 (fun w' => w'.cell? ⟨bx, 0, none⟩ = some (.int .i64 W) ∧ w'.cell? ⟨bx, 1, none⟩ = some (.int .i64 T) ∧ w'.cell? ⟨bx, 2, none⟩ = some (.slice B bs.length kb))
            (first | (with_reducible exact Y7) | (with_reducible exact Y6) | (with_reducible exact ⟨x0, x1, x2⟩) | go_keep)
            (first
            | (go_at_call 45; (with_reducible refine CP.out.mono ?_); rintro e w6 ⟨r6, rfl, hr6, S6, G6⟩; have H6 := H5.drew.pick S6 G6; have R6 := rd_pick R5.drew hgB G6; have RL6 := rd_pick RL.drew (fun ad e => (HD.out ad e).2.1) G6; (have Y6 := rq_box H6))
            | (go_at_call 84; (with_reducible refine (CTO.out _ w6 R6).mono ?_); rintro e w7 ⟨D7, d7, L7, ok7, rfl, RL7, hL7, b7, hD7⟩; have H7 := H6.below b7; have R7 := R6.belo b7; have RL8 := RL6.belo b7; (have Y7 := rq_box H7)))
          all_goals (
            clear RL7 Y7 Y6 hD7 H6 R6 RL6
            go_wp2_with fail
            go_meet
            exact ⟨RL8, H7, R7⟩)
        case rest =>
          clear H5 R5 RL x0 x1 x2 CP CTO hmb hmm0 hmm1 hm1
          obtain ⟨RL, H5, R5⟩ := hcut
          obtain ⟨w5, hw5⟩ : ∃ w5 : World, w5 = wc := ⟨_, rfl⟩
          subst hw5
          go_wp2_with fail
          refine (odd_any 14 _ g A c bytes (q + 1 + 1) H5.rds (by omega) (by omega) (by omega)).mono ?_
          rintro e w6 ⟨b6, q6, rfl, S6, hq6, G6⟩
          have H6 := H5.pick S6 G6
          have R6 := rd_pick R5 hgB G6
          have RL6 := rd_pick RL (fun ad e => (HD.out ad e).2.1) G6
          clear H5 R5 RL S6 G6
          go_upto_if 55 with fail
          go_cut [9] from 55 to 64 (fun _ wx => Rd wx D (L.map (.int .i64)) ∧ Rq w g A c bytes q6 bx W T (.slice B bs.length kb) wx ∧ Rd wx B (bs.map .bool))
          case first =>
            cases b6 with
            | false =>
              go_wp2_with fail
              go_meet
              exact ⟨RL6, H6, R6⟩
            | true =>
              obtain ⟨x0, x1, x2, -, -, -⟩ := blk3 H6.box
              have CLB := Lib.hid (sLaidBare_any W T B kb bs _ R6 hmx)
              go_wp2_with fail
              refine CLB.out.mono ?_
              rintro e w7 ⟨A7, c7, rfl, R7, b7, -⟩
              have H8 := H6.below b7
              have R8 := R6.belo b7
              have RL8 := RL6.belo b7
              clear R7 H6 R6 RL6 x0 x1 x2
              go_wp2_with fail
              go_meet
              exact ⟨RL8, H8, R8⟩
          case rest =>
            clear H6 R6 RL6
            obtain ⟨RL, H5, R5⟩ := hcut
            obtain ⟨w5, hw5⟩ : ∃ w5 : World, w5 = wc := ⟨_, rfl⟩
            subst hw5
            go_wp2_with fail
            refine (odd_any 16 _ g A c bytes q6 H5.rds (by omega) (by omega) (by omega)).mono ?_
            rintro e w6 ⟨b7, q7, rfl, S6, hq7, G6⟩
            have H6 := H5.pick S6 G6
            have R6 := rd_pick R5 hgB G6
            have RL6 := rd_pick RL (fun ad e => (HD.out ad e).2.1) G6
            clear H5 R5 RL S6 G6
            go_upto_if 59 with fail
            go_cut [59] from 59 to 64 (fun _ wx => ∃ (W' T' : Int) (bs' : List Bool) (B' : Option Addr) (kb' q' : Nat), q' ≤ p + 300 ∧ bs'.length ≤ 37 ∧ (∀ ad, B' = some ad → w.heap.size < ad.block) ∧ Rq w g A c bytes q' bx W' T' (.slice B' bs'.length kb') wx ∧ Rd wx B' (bs'.map .bool) ∧ Rd wx D (L.map (.int .i64)))
            case first =>
              cases b7 with
              | false =>
                go_wp2_with fail
                go_meet
                exact ⟨W, T, bs, B, kb, q7, by omega, hl37, hB1, H6, R6, RL6⟩
              | true =>
                go_wp2_with fail
                refine (region_any 9 _ g A c bytes q7 H6.rds (by omega) (by omega) (by omega)).mono ?_
                rintro e w7 ⟨W', T', bs', B', kb', q', rfl, hrd', hl37', S7, hq7', G7, hB'⟩
                have H7 := H6.pick S7 G7
                have RL7 := rd_pick RL6 (fun ad e => (HD.out ad e).2.1) G7
                have hbx6 := heap_lt H6.box
                have hb6 := heap_lt H6.res
                have HF := Lib.hid (show ∃ (W₁ T₁ : Int) (bs₁ : List Bool) (B₁ : Option Addr) (kb₁ q₁ : Nat), q₁ ≤ p + 300 ∧ bs₁.length ≤ 37 ∧ (∀ ad, B₁ = some ad → w.heap.size < ad.block) ∧ Rq w g A c bytes q₁ bx W₁ T₁ (.slice B₁ bs₁.length kb₁) (((w7.setCell ⟨bx, 0, none⟩ (.int .i64 W')).setCell ⟨bx, 1, none⟩ (.int .i64 T')).setCell ⟨bx, 2, none⟩ (.slice B' bs'.length kb')) ∧ Rd (((w7.setCell ⟨bx, 0, none⟩ (.int .i64 W')).setCell ⟨bx, 1, none⟩ (.int .i64 T')).setCell ⟨bx, 2, none⟩ (.slice B' bs'.length kb')) B₁ (bs₁.map .bool) ∧ Rd (((w7.setCell ⟨bx, 0, none⟩ (.int .i64 W')).setCell ⟨bx, 1, none⟩ (.int .i64 T')).setCell ⟨bx, 2, none⟩ (.slice B' bs'.length kb')) D (L.map (.int .i64)) from
                  ⟨W', T', bs', B', kb', q', by omega, hl37', (fun ad e => by have := hB' ad e; omega), H7.put hbw _ _ _, rd_box3 hrd' (fun ad e => by have := hB' ad e; omega) _ _ _, rd_box3 RL7 (fun ad e => by have := (HD.out ad e).1; omega) _ _ _⟩)
                obtain ⟨x0, x1, x2, y0, y1, y2⟩ := blk3 H7.box
                clear H6 R6 RL6 hrd' RL7 H7
                go_wp2_with fail
                go_meet
                exact HF.out
            case rest =>
              clear H6 R6 RL6 hl37 hB1 hgB hmx
              obtain ⟨W, T, bs, B, kb, q', hq', hl37, hB1, H5, R5, RL⟩ := hcut
              obtain ⟨w5, hw5⟩ : ∃ w5 : World, w5 = wc := ⟨_, rfl⟩
              subst hw5
              obtain ⟨x0, x1, x2, y0, y1, y2⟩ := blk3 H5.box
              obtain ⟨s0, s1, s2, t0, t1, t2⟩ := blk3 H5.res
              have HSR := Lib.hid (H5.rs.done (W := W) (T := T) (B := B) (kb := kb) (p := p) (more := 300) R5 hB1 hl37 hq')
              have RLF := Lib.hid (rd_box3 (bx := w.heap.size) RL (fun ad e => by have := (HD.out ad e).2.2; omega) (.int .i64 W) (.int .i64 T) (.slice B bs.length kb))
              go_wp2_with fail
              refine bodyPost_ret (v := .tuple #[.agg #[.int .i64 W, .int .i64 T, .slice B bs.length kb], .slice D L.length d, u9]) (by simp [results, Tryz.results43, go_sem, s0, s1, s2]) rfl ?_
              obtain ⟨W9, T9, bs9, B9, k9, q9, he, hr9, hl9, hs9, hq9, hg9, hf9⟩ := HSR.out
              exact ⟨W9, T9, bs9, B9, k9, L, D, d, u9, q9, by rw [Ending.returned.inj he], hr9, hl9, RLF.out, hL36, hs9, hq9, hg9, hf9, fun ad e => by have := (HD.out ad e).2.2; omega⟩
end Go.Proofs.YtafmpgikdhlknaaGreat

/- Contracts: the reference's FlipMay for any list, FlipsOf, and the draw of a corner (l20Corner). Written by wip/gen_flx.py. -/
namespace Go.Proofs.YtafmpgikdhlknaaGreat
open Go.RowKit

set_option maxRecDepth 100000 in
set_option maxHeartbeats 4000000 in
theorem flipMayX_lo (W T : Int) (A D : Option Addr) (c d n : Nat) (bs : List Bool) (L : List Int) (v : Nat) (w : World) (hr : Rd w A (bs.map .bool)) (hd : Rd w D (L.map (.int .i64))) (hlo : laidOkB W T bs L = true) (hn : bs.length = n) (hv : v < ncN W T) :
    Calls Tryz.prog 47 #[.agg #[.int .i64 W, .int .i64 T, .slice A n c], .slice D n d, .int .i64 (v : Int)] w fun e w' => e = .returned (.bool (sqB W T bs v && (flatB W T L v || uprB W T L v))) ∧ Below w.heap.size w w' := by
  have hval : validB W T bs = true := by unfold laidOkB at hlo; simp at hlo; exact hlo.1
  have hl : L.length = bs.length := by
    refine Classical.byContradiction fun hn => ?_
    unfold laidOkB at hlo
    rw [laysB_len hn] at hlo; simp at hlo
  obtain ⟨⟨w1, w6⟩, ⟨t1, t6⟩, hlen, -⟩ := validB_iff.1 hval
  have hf : FldF W T n := ⟨w1, w6, t1, t6, by rw [← hn]; exact hlen⟩
  have n36 : n ≤ 36 := hf.bd
  obtain ⟨-, hN1, hN49⟩ := nc_bd hf
  have hLn : L.length = n := by omega
  have CL := Lib.hid (fun (z : World) (R : Rd z A (bs.map .bool)) (Q : Rd z D (L.map (.int .i64))) => by have := sLaidOk_any W T A D c d bs L z R Q (by unfold maxLen; omega) (by unfold maxLen; omega); rw [hlo, hn, hLn] at this; exact this)
  have CC := Lib.hid (fun (z : World) (R : Rd z A (bs.map .bool)) => by have := sCorners_any W T A c bs z R (by rw [hn]; unfold maxLen; omega); rw [hval, if_pos rfl, hn] at this; exact this)
  have CQ := Lib.hid (fun (z : World) (R : Rd z A (bs.map .bool)) => square_any W T A c n bs v z R hf hn hv)
  have CI := Lib.hid (fun z => l1in_t (v : Int) 0 ((ncN W T : Int) - 1) z (by omega) (by omega))
  have HSQ := Lib.hid (fun (hq : sqB W T bs v = true) => sq_cells hf hq)
  have HLn := Lib.hid hLn
  have X0 := C3.new w (.int .i64 W) (.int .i64 T) (.slice A n c) 25
  have B0 := bl_alloc (Below.refl w.heap.size w) (.cells #[.int .i64 W, .int .i64 T, .slice A n c] 25)
  have r0 := hr.belo B0
  have d0 := hd.belo B0
  obtain ⟨x0, x1, x2⟩ := id X0
  obtain ⟨N, hN⟩ : ∃ N, ncN W T = N := ⟨_, rfl⟩
  rw [hN] at CC CI hN1 hN49 hv
  clear hlen hl hval hf hlo hLn hr hd hn hN
  go_enter Tryz.func47, Tryz.ntmps47
  go_wp2_with fail
  generalize w.alloc (.cells #[.int .i64 W, .int .i64 T, .slice A n c] 25) = u at *
  refine (CL.out _ r0 d0).mono ?_
  rintro e w2 ⟨rfl, b2⟩
  have X2 := X0.belo b2
  have r2 := r0.belo b2
  have d2 := d0.belo b2
  have B2 := bl_go B0 b2
  clear x0 x1 x2 X0 r0 d0 B0 b2 CL
  obtain ⟨x0, x1, x2⟩ := id X2
  go_wp2_with fail
  refine (CC.out _ r2).mono ?_
  rintro e w3 ⟨rfl, b3⟩
  have X3 := X2.belo b3
  have r3 := r2.belo b3
  have d3 := d2.belo b3
  have B3 := bl_go B2 b3
  clear x0 x1 x2 X2 r2 d2 B2 b3 CC
  obtain ⟨x0, x1, x2⟩ := id X3
  go_wp2_with (go_at_call 71; (with_reducible refine (CI.out _).mono ?_); rintro e w' ⟨rfl, rfl⟩)
  refine (CQ.out _ r3).mono ?_
  rintro e w4 ⟨hq, b4⟩
  have B4 := bl_go B3 b4
  have d4 := d3.belo b4
  clear x0 x1 x2 X3 r3 d3 B3 b4 CQ
  rcases hq with ⟨hq, rfl⟩ | ⟨hq, rfl⟩
  · obtain ⟨hI, a, b, c4, e4, ea, eb, ec, ee, ha, hb, hc, he, hab, hbe, hac, hce, hbc⟩ := HSQ.out hq
    have HQT := Lib.hid hq
    have HFL := Lib.hid (fl_at (L := L) hI ea ec)
    have HUP := Lib.hid (up_at (L := L) hI ea eb)
    rw [ee, ec, eb, ea]
    have hal : a < L.length := by have := HLn.out; omega
    have hbl : b < L.length := by have := HLn.out; omega
    have hcl : c4 < L.length := by have := HLn.out; omega
    obtain ⟨ad, rfl, c0⟩ := d4.atM hal
    obtain ⟨ad', e', c1⟩ := d4.atM hbl
    injection e' with e'
    subst e'
    obtain ⟨ad', e', c2⟩ := d4.atM hcl
    injection e' with e'
    subst e'
    rw [getD_in _ _ hal, getD_in _ _ hcl] at HFL
    rw [getD_in _ _ hal, getD_in _ _ hbl] at HUP
    have haI : (a : Int) < (n : Int) := by omega
    have hbI : (b : Int) < (n : Int) := by omega
    have hcI : (c4 : Int) < (n : Int) := by omega
    generalize L[a] = l0 at *
    generalize L[b] = l1 at *
    generalize L[c4] = l2 at *
    clear hq hI ea eb ec ee hal hbl hcl d4
    by_cases h1 : l0 = 1
    · subst h1
      have HG := Lib.hid (show (l2 == 1) = (sqB W T bs v && (flatB W T L v || uprB W T L v)) by rw [HQT.out, Bool.true_and, HFL.out, HUP.out]; cases h : (l2 == 1) <;> simp_all)
      cases h2 : (l2 == 1) with
      | true =>
        rw [h2] at HG
        go_wp2_with fail
        go_ret
        exact ⟨ret_b HG.out, B4⟩
      | false =>
        rw [h2] at HG
        go_wp2_with fail
        go_ret
        exact ⟨ret_b HG.out, B4⟩
    · have h1b : (l0 == 1) = false := by rw [beq_eq_false_iff_ne]; exact h1
      by_cases h2 : l0 = 2
      · subst h2
        have HG := Lib.hid (show (l1 == 2) = (sqB W T bs v && (flatB W T L v || uprB W T L v)) by rw [HQT.out, Bool.true_and, HFL.out, HUP.out]; cases h : (l1 == 2) <;> simp_all)
        clear h1
        go_wp2_with fail
        go_ret
        exact ⟨ret_b HG.out, B4⟩
      · have h2b : (l0 == 2) = false := by rw [beq_eq_false_iff_ne]; exact h2
        have HG := Lib.hid (show false = (sqB W T bs v && (flatB W T L v || uprB W T L v)) by rw [HQT.out, Bool.true_and, HFL.out, HUP.out, decide_eq_false h1, decide_eq_false h2]; rfl)
        clear h1 h2
        go_wp2_with fail
        go_ret
        exact ⟨ret_b HG.out, B4⟩
  · have HG := Lib.hid (show false = (sqB W T bs v && (flatB W T L v || uprB W T L v)) by rw [hq]; rfl)
    clear hq
    go_wp2_with fail
    go_ret
    exact ⟨ret_b HG.out, B4⟩
/-- some truth value -/
theorem flipMayX_any (W T : Int) (A D : Option Addr) (c d n m : Nat) (bs : List Bool) (L : List Int) (v : Nat) (w : World) (hr : Rd w A (bs.map .bool)) (hd : Rd w D (L.map (.int .i64))) (hn : bs.length = n) (hm : L.length = m) (hnm : n ≤ maxLen) (hmm : m ≤ maxLen) (hv : validB W T bs = true → v < ncN W T) :
    Calls Tryz.prog 47 #[.agg #[.int .i64 W, .int .i64 T, .slice A n c], .slice D m d, .int .i64 (v : Int)] w fun e w' => ∃ b : Bool, e = .returned (.bool b) ∧ Below w.heap.size w w' := by
  cases hlo : laidOkB W T bs L with
  | true =>
    have hval : validB W T bs = true := by unfold laidOkB at hlo; simp at hlo; exact hlo.1
    have hl : L.length = bs.length := by
      refine Classical.byContradiction fun hn => ?_
      unfold laidOkB at hlo
      rw [laysB_len hn] at hlo; simp at hlo
    obtain rfl : m = n := by omega
    exact (flipMayX_lo W T A D c d m bs L v w hr hd hlo hn (hv hval)).mono fun e w' h => ⟨_, h⟩
  | false =>
    have X0 := C3.new w (.int .i64 W) (.int .i64 T) (.slice A n c) 25
    have B0 := bl_alloc (Below.refl w.heap.size w) (.cells #[.int .i64 W, .int .i64 T, .slice A n c] 25)
    have CL := Lib.hid (by have := sLaidOk_any W T A D c d bs L _ (hr.belo B0) (hd.belo B0) (by rw [hn]; exact hnm) (by rw [hm]; exact hmm); rw [hlo, hn, hm] at this; exact this)
    obtain ⟨x0, x1, x2⟩ := id X0
    clear hlo
    go_enter Tryz.func47, Tryz.ntmps47
    go_wp2_with fail
    refine CL.out.mono ?_
    rintro e w1 ⟨rfl, b1⟩
    clear x0 x1 x2
    go_wp2_with fail
    go_ret
    exact ⟨false, rfl, bl_go B0 b1⟩
/-- some corners of the call's own -/
def CorS (w : World) (e : Ending) (w' : World) : Prop :=
  ∃ (D : Option Addr) (d : Nat) (F : List Int), e = .returned (.slice D F.length d) ∧ Rd w' D (F.map (.int .i64)) ∧ F.length ≤ 49 ∧ (∀ f ∈ F, 0 ≤ f ∧ f ≤ 49) ∧ Below w.heap.size w w' ∧ ∀ ad, D = some ad → w.heap.size ≤ ad.block
def cmF (W T : Int) (bs : List Bool) : Int := if validB W T bs = true then ((ncN W T : Nat) : Int) else -1
theorem cmF_bd (W T : Int) (bs : List Bool) : -1 ≤ cmF W T bs ∧ cmF W T bs ≤ 49 := by
  unfold cmF
  split
  · rename_i hv
    obtain ⟨⟨w1, w6⟩, ⟨t1, t6⟩, hlen, -⟩ := validB_iff.1 hv
    obtain ⟨-, h1, h2⟩ := nc_bd (n := bs.length) (⟨w1, w6, t1, t6, hlen⟩ : FldF W T bs.length)
    omega
  · omega
set_option maxRecDepth 100000 in
set_option maxHeartbeats 2000000 in
theorem flipsOf_any (W T : Int) (A D : Option Addr) (c d n m : Nat) (bs : List Bool) (L : List Int) (w : World) (hr : Rd w A (bs.map .bool)) (hd : Rd w D (L.map (.int .i64))) (hn : bs.length = n) (hm : L.length = m) (hnm : n ≤ maxLen) (hmm : m ≤ maxLen) :
    Calls Tryz.prog 86 #[.agg #[.int .i64 W, .int .i64 T, .slice A n c], .slice D m d] w (CorS w) := by
  have X0 := C3.new w (.int .i64 W) (.int .i64 T) (.slice A n c) 25
  have B0 := bl_alloc (Below.refl w.heap.size w) (.cells #[.int .i64 W, .int .i64 T, .slice A n c] 25)
  have r0 := hr.belo B0
  have d0 := hd.belo B0
  obtain ⟨cm, hcm⟩ : ∃ cm, cmF W T bs = cm := ⟨_, rfl⟩
  have hcb := cmF_bd W T bs
  have CC := Lib.hid (fun (z : World) (R : Rd z A (bs.map .bool)) => show Calls Tryz.prog 66 #[.agg #[.int .i64 W, .int .i64 T, .slice A n c]] z (fun e w' => e = .returned (.int .i64 cm) ∧ Below z.heap.size z w') from by
    have := sCorners_any W T A c bs z R (by rw [hn]; exact hnm)
    rw [hn] at this
    rw [← hcm]
    exact this)
  have CF := Lib.hid (fun (v : Nat) (hv : (v : Int) < cm) (z : World) (R : Rd z A (bs.map .bool)) (Q : Rd z D (L.map (.int .i64))) => flipMayX_any W T A D c d n m bs L v z R Q hn hm hnm hmm (fun hval => by
    rw [← hcm] at hv
    unfold cmF at hv
    rw [if_pos hval] at hv
    omega))
  rw [hcm] at hcb
  obtain ⟨x0, x1, x2⟩ := id X0
  clear hn hm hnm hmm hr hd hcm
  go_enter Tryz.func86, Tryz.ntmps86
  go_wp2_with fail
  have HZ := Lib.hid (show (w.alloc (.cells #[.int .i64 W, .int .i64 T, .slice A n c] 25)).heap.size = w.heap.size + 1 by simp)
  generalize w.alloc (.cells #[.int .i64 W, .int .i64 T, .slice A n c] 25) = u at *
  have OE := OwnI.empty u
  rw [HZ.out] at OE
  have bo := bl_alloc (Below.refl u.heap.size u) (.cells #[] 3)
  generalize u.alloc (.cells #[] 3) = wo at *
  clear x0 x1 x2
  go_loopw [5, 6] (fun s i wr => ∃ (k c5 : Nat) (A5 : Option Addr) (F : List Int), k ≤ 50 ∧ i = .int .i64 (k : Int) ∧ s = .slice A5 F.length c5 ∧ Hid (F.length ≤ k ∧ (∀ f ∈ F, 0 ≤ f ∧ f ≤ 49) ∧ ((k : Int) ≤ cm ∨ k = 0)) ∧ OwnI wr (w.heap.size + 1) (.slice A5 F.length c5) F ∧ Below u.heap.size u wr) (fun _ i _ => 50 - (intOf i).toNat)
  case atStart => exact ⟨0, 0, some ⟨w.heap.size + 1, 0, none⟩, [], Nat.zero_le _, rfl, rfl, Lib.hid ⟨Nat.zero_le _, (fun f hf => by cases hf), .inr rfl⟩, OE, bo⟩
  case round =>
    clear OE bo
    obtain ⟨k, c5, A5, F, hk, rfl, rfl, HF, O5, B5⟩ := hrel
    obtain ⟨wq, hwq⟩ : ∃ wq : World, wq = wr := ⟨_, rfl⟩
    subst hwq
    have X5 := X0.belo B5
    have R5 := r0.belo B5
    have D5 := d0.belo B5
    have hFl := HF.out.1
    obtain ⟨x0, x1, x2⟩ := id X5
    go_wp2_with fail
    refine (CC.out _ R5).mono ?_
    rintro e w6 ⟨rfl, b6⟩
    have X6 := X5.belo b6
    have R6 := R5.belo b6
    have D6 := D5.belo b6
    have O6 := O5.belo b6
    have B6 := bl_go B5 b6
    clear x0 x1 x2 X5 R5 D5 O5 b6
    obtain ⟨x0, x1, x2⟩ := id X6
    by_cases hlt : (k : Int) < cm
    · have C7 := Lib.hid (CF.out k hlt _ R6 D6)
      go_wp2_with fail
      refine C7.out.mono ?_
      rintro e w7 ⟨b, rfl, b7⟩
      have O7 := O6.belo b7
      have B7 := bl_go B6 b7
      have hs7 : w.heap.size + 1 ≤ w7.heap.size := by have := B7.size; have := HZ.out; omega
      clear x0 x1 x2 X6 R6 D6 O6 C7 b7
      cases b with
      | false =>
        go_wp2_with fail
        go_roundw
        case rel => exact ⟨k + 1, c5, A5, F, by omega, by go_num, rfl, Lib.hid ⟨by have := HF.out.1; omega, HF.out.2.1, .inl (by omega)⟩, O7, B7⟩
        case measure => simp [intOf]; omega
      | true =>
        go_wp2_with (at_builtin; refine app_int _ rfl _ _ rfl (w.heap.size + 1) _ F rfl O7 (k : Int) rfl (by omega) hs7 ?_; intro A8 c8 w8 O8 g8)
        have B8 := app_below B7 (Nat.le_of_eq HZ.out) hs7 O7 g8
        go_roundw
        case rel => exact ⟨k + 1, c8, A8, F ++ [(k : Int)], by omega, by go_num, by rw [List.length_append]; rfl, Lib.hid ⟨by rw [List.length_append, List.length_singleton]; have := HF.out.1; omega, (fun f hf => by
          rcases List.mem_append.1 hf with h | h
          · exact HF.out.2.1 f h
          · rw [List.mem_singleton] at h; omega), .inl (by omega)⟩, by rw [List.length_append]; exact O8, B8⟩
        case measure => simp [intOf]; omega
    · have HRES := Lib.hid (show CorS w (.returned (.slice A5 F.length c5)) w6 from by
        obtain ⟨ha, hq⟩ := O6.rd
        refine ⟨A5, c5, F, rfl, hq, ?_, HF.out.2.1, bl_go B0 B6, fun ad e => ?_⟩
        · have := HF.out.2.2; have := HF.out.1; omega
        · have h1 := (O6.lt ad e).1; have := B0.size; omega)
      clear O6 x0 x1 x2
      go_wp2_with fail
      go_ret
      exact HRES.out
end Go.Proofs.YtafmpgikdhlknaaGreat

/- Contract: the draw of a corner (l20Corner). -/
namespace Go.Proofs.YtafmpgikdhlknaaGreat
open Go.RowKit

/-- a number near the corners; the reader has gone on -/
def SomeCor (g : Nat) (A : Option Addr) (c : Nat) (bytes : List Int) (p : Nat) (w : World) (e : Ending) (w' : World) : Prop :=
  ∃ (z : Int) (p' : Nat), e = .returned (.int .i64 z) ∧ -10 ≤ z ∧ z ≤ 100 ∧ RdS w' g A c bytes p' ∧ p' ≤ p + 5 ∧ w.grownBy w' (some g)
set_option maxRecDepth 100000 in
set_option maxHeartbeats 2000000 in
theorem corner_any (W T : Int) (B D : Option Addr) (k d : Nat) (bs : List Bool) (L : List Int) (w : World) (g : Nat) (A : Option Addr) (c : Nat) (bytes : List Int) (p : Nat) (h : RdS w g A c bytes p) (hp : p ≤ 50000)
    (hr : Rd w B (bs.map .bool)) (hd : Rd w D (L.map (.int .i64))) (hl : bs.length ≤ 37) (hm : L.length ≤ 37) (hBg : ∀ ad, B = some ad → g ≠ ad.block) :
    Calls Tryz.prog 44 #[.pointer (some ⟨g, 0, none⟩), .agg #[.int .i64 W, .int .i64 T, .slice B bs.length k], .slice D L.length d] w (SomeCor g A c bytes p w) := by
  have hg := heap_lt h.1
  have X0 := C3.new w (.int .i64 W) (.int .i64 T) (.slice B bs.length k) 25
  have B0 := bl_alloc (Below.refl w.heap.size w) (.cells #[.int .i64 W, .int .i64 T, .slice B bs.length k] 25)
  have S0 := h.below hg B0
  have r0 := hr.belo B0
  have d0 := hd.belo B0
  have G0 := gb_below (World.grownBy.refl w (some g)) B0
  have hmx : bs.length ≤ maxLen := by unfold maxLen; omega
  have CF := Lib.hid (flipsOf_any W T B D k d bs.length L.length bs L _ r0 d0 rfl rfl hmx (by unfold maxLen; omega))
  obtain ⟨cm, hcm⟩ : ∃ cm, cmF W T bs = cm := ⟨_, rfl⟩
  have hcb := cmF_bd W T bs
  have CC := Lib.hid (fun (z : World) (R : Rd z B (bs.map .bool)) => show Calls Tryz.prog 66 #[.agg #[.int .i64 W, .int .i64 T, .slice B bs.length k]] z (fun e w' => e = .returned (.int .i64 cm) ∧ Below z.heap.size z w') from by
    have := sCorners_any W T B k bs z R hmx
    rw [← hcm]
    exact this)
  rw [hcm] at hcb
  obtain ⟨cm1, hcm1⟩ : ∃ cm1, max cm 0 + 1 = cm1 := ⟨_, rfl⟩
  have hcb1 : 1 ≤ cm1 ∧ cm1 ≤ 50 := by omega
  have HC1 := Lib.hid hcm1
  have hwg : g ≠ w.heap.size := by omega
  obtain ⟨x0, x1, x2⟩ := id X0
  clear hcm hcm1 hd hr hm d0
  go_enter Tryz.func44, Tryz.ntmps44
  go_wp2_with fail
  generalize w.alloc (.cells #[.int .i64 W, .int .i64 T, .slice B bs.length k] 25) = u at *
  refine CF.out.mono ?_
  rintro e w2 ⟨D2, d2, F, rfl, R2, hF49, hFb, b2, hD2⟩
  have X2 := X0.belo b2
  have r2 := r0.belo b2
  have S2 := S0.below (heap_lt S0.1) b2
  have G2 := gb_below G0 b2
  have hgu : g < u.heap.size := heap_lt S0.1
  have HFB := Lib.hid hFb
  have hD2g : ∀ ad, D2 = some ad → g ≠ ad.block := fun ad e => by have := hD2 ad e; omega
  clear X0 r0 S0 G0 b2 x0 x1 x2 B0 hFb hD2 CF h hgu
  obtain ⟨x0, x1, x2⟩ := id X2
  rcases Nat.eq_zero_or_pos F.length with h0 | h0
  · obtain rfl : F = [] := List.eq_nil_of_length_eq_zero h0
    clear h0
    go_wp2_with fail
    refine (CC.out _ r2).mono ?_
    rintro e w3 ⟨rfl, b3⟩
    have S3 := S2.below (heap_lt S2.1) b3
    have G3 := gb_below G2 b3
    clear b3
    have hc1 := HC1.out
    have CP3 := Lib.hid (pick_any cm1 _ g A c bytes p S3 (by omega) (by omega))
    go_wp2_with fail
    refine CP3.out.mono ?_
    rintro e w4 ⟨z1, rfl, hz1, S4, G4⟩
    have hz1' : 0 ≤ z1 ∧ z1 ≤ 49 := by unfold Below0 at hz1; omega
    have CP4 := Lib.hid (pick_any 20 _ g A c bytes (p + 1) S4 (by omega) (by omega))
    clear CP3 hz1
    go_wp2_with fail
    refine CP4.out.mono ?_
    rintro e w5 ⟨z2, rfl, hz2, S5, G5⟩
    have hz2' : 0 ≤ z2 ∧ z2 ≤ 19 := by unfold Below0 at hz2; omega
    have G9 := grownBy_trans' (grownBy_trans' G3 G4) G5
    have hq : 0 ≤ z2.tdiv 19 ∧ z2.tdiv 19 ≤ 1 := by rw [Int.tdiv_eq_ediv_of_nonneg hz2'.1]; omega
    have hq2 : 0 ≤ z2 / 19 ∧ z2 / 19 ≤ 1 := by omega
    clear CP4 hz2
    go_wp2_with fail
    go_ret
    exact ⟨_, p + 1 + 1, rfl, by omega, by omega, S5, by omega, G9⟩
  · have CP := Lib.hid (pick_any 3 _ g A c bytes p S2 (by omega) (by omega))
    have h0I : (0 : Int) < (F.length : Int) := by omega
    go_wp2_with fail
    refine CP.out.mono ?_
    rintro e w6 ⟨r, rfl, hrb, S6, G6⟩
    have X6 : C3 w6 w.heap.size (.int .i64 W) (.int .i64 T) (.slice B bs.length k) := by
      have hx := X2.lt
      exact ⟨gb_cell G6 (by simp; omega) x0, gb_cell G6 (by simp; omega) x1, gb_cell G6 (by simp; omega) x2⟩
    have r6 := r2.grownBelow G6 (fun _ ad ha e => hBg ad ha (by have e' : ad.block = g := (by simpa using e); exact e'.symm))
    have R6 := R2.grownBelow G6 (fun _ ad ha e => hD2g ad ha (by have e' : ad.block = g := (by simpa using e); exact e'.symm))
    have G6' := grownBy_trans' G2 G6
    clear x0 x1 x2 X2 r2 R2 S2 G2 G6 CP hrb
    obtain ⟨x0, x1, x2⟩ := id X6
    by_cases hr0 : 0 < r
    · have CQ := Lib.hid (pick_any (F.length : Int) _ g A c bytes (p + 1) S6 (by omega) (by omega))
      go_wp2_with fail
      refine CQ.out.mono ?_
      rintro e w7 ⟨r7, rfl, hr7, S7, G7⟩
      have R7 := R6.grownBelow G7 (fun _ ad ha e => hD2g ad ha (by have e' : ad.block = g := (by simpa using e); exact e'.symm))
      have G8 := grownBy_trans' G6' G7
      obtain ⟨j, rfl⟩ : ∃ j : Nat, r7 = j := ⟨r7.toNat, by unfold Below0 at hr7; omega⟩
      have hj : j < F.length := by unfold Below0 at hr7; omega
      obtain ⟨ad7, rfl, c7⟩ := R7.atM hj
      have hf := HFB.out _ (List.getElem_mem hj)
      have hjI : (j : Int) < (F.length : Int) := by omega
      generalize F[j] = f at *
      clear x0 x1 x2 X6 r6 R6 CQ hr7
      go_wp2_with fail
      go_ret
      exact ⟨f, p + 1 + 1, rfl, by omega, by omega, S7, by omega, G8⟩
    · have hr0d : decide (0 < r) = false := decide_eq_false hr0
      clear hr0
      go_wp2_with fail
      refine (CC.out _ r6).mono ?_
      rintro e w3 ⟨rfl, b3⟩
      have S3 := S6.below (heap_lt S6.1) b3
      have G3 := gb_below G6' b3
      clear b3
      have hc1 := HC1.out
      have CP3 := Lib.hid (pick_any cm1 _ g A c bytes (p + 1) S3 (by omega) (by omega))
      go_wp2_with fail
      refine CP3.out.mono ?_
      rintro e w4 ⟨z1, rfl, hz1, S4, G4⟩
      have hz1' : 0 ≤ z1 ∧ z1 ≤ 49 := by unfold Below0 at hz1; omega
      have CP4 := Lib.hid (pick_any 20 _ g A c bytes ((p + 1) + 1) S4 (by omega) (by omega))
      clear CP3 hz1
      go_wp2_with fail
      refine CP4.out.mono ?_
      rintro e w5 ⟨z2, rfl, hz2, S5, G5⟩
      have hz2' : 0 ≤ z2 ∧ z2 ≤ 19 := by unfold Below0 at hz2; omega
      have G9 := grownBy_trans' (grownBy_trans' G3 G4) G5
      have hq : 0 ≤ z2.tdiv 19 ∧ z2.tdiv 19 ≤ 1 := by rw [Int.tdiv_eq_ediv_of_nonneg hz2'.1]; omega
      have hq2 : 0 ≤ z2 / 19 ∧ z2 / 19 ≤ 1 := by omega
      clear CP4 hz2
      go_wp2_with fail
      go_ret
      exact ⟨_, (p + 1) + 1 + 1, rfl, by omega, by omega, S5, by omega, G9⟩
end Go.Proofs.YtafmpgikdhlknaaGreat

/- Contract: the draw of a region, a list and a push (DrawPushOne). -/
namespace Go.Proofs.YtafmpgikdhlknaaGreat
open Go.RowKit

theorem blk2 {w : World} {b : Nat} {x y : Value} {t : TypeId} (h : w.heap[b]? = some (.cells #[x, y] t (0, 0))) : w.cell? ⟨b, 0, none⟩ = some x ∧ w.cell? ⟨b, 1, none⟩ = some y ∧ w.frozen? ⟨b, 0, none⟩ = false ∧ w.frozen? ⟨b, 1, none⟩ = false :=
  ⟨cell_of_row _ _ _ _ _ _ h, cell_of_row _ _ _ _ _ _ h, frozen_of_row _ _ _ _ _ h, frozen_of_row _ _ _ _ _ h⟩
/-- a region, a list and a push -/
def DrawnPo (w : World) (e : Ending) (w' : World) : Prop :=
  ∃ (W T : Int) (bs : List Bool) (B : Option Addr) (k : Nat) (L : List Int) (D : Option Addr) (d : Nat) (x : Int) (up : Bool), e = .returned (.tuple #[.agg #[.int .i64 W, .int .i64 T, .slice B bs.length k], .slice D L.length d, .agg #[.int .i64 x, .bool up]]) ∧ Rd w' B (bs.map .bool) ∧ bs.length ≤ 37 ∧ Rd w' D (L.map (.int .i64)) ∧ L.length ≤ 36 ∧ (-10 ≤ x ∧ x ≤ 100) ∧ Below w.heap.size w w'
set_option maxRecDepth 100000 in
set_option maxHeartbeats 4000000 in
theorem drawPushOne_any (A : Option Addr) (c : Nat) (bs : List Int) (w : World) (hr : Rd w A (bs.map (.int .u8))) (hw : ∀ x ∈ bs, 0 ≤ x ∧ x ≤ 255) (hn : bs.length ≤ 1048576) (hcap : bs.length ≤ c) :
    Calls Tryz.prog 15 #[.slice A bs.length c] w (DrawnPo w) := by
  have HW := Lib.hid hw
  clear hw
  have hr1 := (hr.alloc (.cells #[.int .i64 0, .int .i64 0, .slice none 0 0] 25)).alloc (.cells #[.int .i64 0, .bool false] 38)
  have Z0 := bl_alloc (bl_alloc (Below.refl w.heap.size w) (.cells #[.int .i64 0, .int .i64 0, .slice none 0 0] 25)) (.cells #[.int .i64 0, .bool false] 38)
  have hs1 : (w.alloc (.cells #[.int .i64 0, .int .i64 0, .slice none 0 0] 25)).heap.size = w.heap.size + 1 := by simp
  have hs0 : ((w.alloc (.cells #[.int .i64 0, .int .i64 0, .slice none 0 0] 25)).alloc (.cells #[.int .i64 0, .bool false] 38)).heap.size = w.heap.size + 2 := by simp
  have P0 : ((w.alloc (.cells #[.int .i64 0, .int .i64 0, .slice none 0 0] 25)).alloc (.cells #[.int .i64 0, .bool false] 38)).heap[w.heap.size]? = some (.cells #[.int .i64 0, .int .i64 0, .slice none 0 0] 25 (0, 0)) :=
    (Below.heap_alloc _ _ _ (by rw [hs1]; omega)).trans (heap_alloc_new w _)
  have Q0 : ((w.alloc (.cells #[.int .i64 0, .int .i64 0, .slice none 0 0] 25)).alloc (.cells #[.int .i64 0, .bool false] 38)).heap[w.heap.size + 1]? = some (.cells #[.int .i64 0, .bool false] 38 (0, 0)) := by
    have := heap_alloc_new (w.alloc (.cells #[.int .i64 0, .int .i64 0, .slice none 0 0] 25)) (.cells #[.int .i64 0, .bool false] 38)
    rw [hs1] at this; exact this
  go_enter Tryz.func15, Tryz.ntmps15
  go_wp2_with fail
  generalize (w.alloc (.cells #[.int .i64 0, .int .i64 0, .slice none 0 0] 25)).alloc (.cells #[.int .i64 0, .bool false] 38) = wa at *
  refine (open_any A c bs _ hr1 HW.out hn hcap).mono ?_
  rintro e w1 ⟨g, A1, c1, by1, rfl, O1⟩
  clear hr1 HW hn hcap hr hs1
  go_wp2_with fail
  refine (two_any _ g A1 c1 by1 0 O1.1 (by omega)).mono ?_
  rintro e w2 ⟨W, T, xs, B, k, L, D, d, V, p2, rfl, R2, hl2, RL2, hL2, S2, hp2, G2, f2, f3⟩
  have hg1 := O1.lt
  have hgw : w.heap.size + 2 ≤ g := by have := O1.2.1; omega
  have O2 := (O1.pick S2 G2).belo (bl_alloc (Below.refl _ _) (.cells #[.int .i64 W, .int .i64 T, .slice B xs.length k] 25))
  have R2' := R2.alloc (.cells #[.int .i64 W, .int .i64 T, .slice B xs.length k] 25)
  have RL2' := RL2.alloc (.cells #[.int .i64 W, .int .i64 T, .slice B xs.length k] 25)
  have X2 : (w2.alloc (.cells #[.int .i64 W, .int .i64 T, .slice B xs.length k] 25)).heap[w2.heap.size]? = some (.cells #[.int .i64 W, .int .i64 T, .slice B xs.length k] 25 (0, 0)) := heap_alloc_new w2 _
  have hbw : w.heap.size + 2 ≤ w2.heap.size := by have := G2.size; omega
  have hgb : g < w2.heap.size := by have := G2.size; omega
  have hfB : ∀ ad, B = some ad → w.heap.size + 2 ≤ ad.block := fun ad ha => by have := f2 ad ha; omega
  have hfD : ∀ ad, D = some ad → w.heap.size + 2 ≤ ad.block := fun ad ha => by have := f3 ad ha; omega
  have hBg : ∀ ad, B = some ad → g ≠ ad.block := fun ad ha => by have := f2 ad ha; omega
  have hBg' : ∀ ad, B = some ad → g < ad.block := fun ad ha => by have := f2 ad ha; omega
  have hDg' : ∀ ad, D = some ad → g < ad.block := fun ad ha => by have := f3 ad ha; omega
  clear S2 G2 O1 R2 RL2 f2 f3
  go_upto_region 3 with fail
  generalize w2.alloc (.cells #[.int .i64 W, .int .i64 T, .slice B xs.length k] 25) = wd at *
  generalize w2.heap.size = bx at *
  have hB := O2.2.2
  have P2 := (hB.block w.heap.size (by omega)).trans P0
  have Q2 := (hB.block (w.heap.size + 1) (by omega)).trans Q0
  obtain ⟨s0, s1, s2, g0, g1, g2⟩ := blk3 P2
  obtain ⟨x0, x1, x2, y0, y1, y2⟩ := blk3 X2
  have hwd : w.heap.size + 1 < wd.heap.size := heap_lt Q2
  have hbd : bx < wd.heap.size := heap_lt X2
  have CQ := Lib.hid (corner_any W T B D k d xs L wd.drew g A1 c1 by1 p2 O2.1 (by omega) R2' RL2' hl2 (by omega) hBg)
  have gb0 : wd.grownBy wd.drew (some g) := gb_drew (World.grownBy.refl _ _)
  have KB := Lib.hid (fun (v : World) (p : Addr) (u : Value) (hp : p.block ≤ w.heap.size + 1) (R : Rd v B (xs.map .bool)) => show Rd (v.setCell p u) B (xs.map .bool) from R.grownBelow (set_gbQ v p u) (fun _ ad ha e => by have := hfB ad ha; have e' : ad.block = p.block := (by simpa using e); omega))
  have KD := Lib.hid (fun (v : World) (p : Addr) (u : Value) (hp : p.block ≤ w.heap.size + 1) (R : Rd v D (L.map (.int .i64))) => show Rd (v.setCell p u) D (L.map (.int .i64)) from R.grownBelow (set_gbQ v p u) (fun _ ad ha e => by have := hfD ad ha; have e' : ad.block = p.block := (by simpa using e); omega))
  have ZS := Lib.hid (fun (v : World) (Z : Below wa.heap.size wa v) => show Below w.heap.size w v from Z0.trans (Z.mono (show w.heap.size ≤ wa.heap.size by omega)))
  go_region_law (
    go_simp
    first
      | (go_at_call 44
         refine CQ.out.mono ?_
         rintro e w4 ⟨zc, p4, rfl, hz1, hz2, S4, hp4, G4⟩
         have G5 := grownBy_trans' gb0 G4
         have P4 := (G5.block w.heap.size (by omega) (by simp; omega)).trans P2
         have Q4 := (G5.block (w.heap.size + 1) hwd (by simp; omega)).trans Q2
         have X4 := (G5.block bx hbd (by simp; omega)).trans X2
         have R4 := rd_pick R2' hBg' G5
         have RL4 := rd_pick RL2' hDg' G5
         have O4 := O2.pick S4 G5
         have CP4 := pick_any 2 w4 g A1 c1 by1 p4 S4 (by omega) (by omega)
         obtain ⟨s0, s1, s2, g0, g1, g2⟩ := blk3 P4
         obtain ⟨x0, x1, x2, y0, y1, y2⟩ := blk3 X4)
      | (go_at_call 45
         refine CP4.mono ?_
         rintro e w5 ⟨r5, rfl, hr5, S5, G6⟩
         have hl4 : w.heap.size + 1 < w4.heap.size := heap_lt Q4
         have P5 := (G6.block w.heap.size (by omega) (by simp; omega)).trans P4
         have Q5 := (G6.block (w.heap.size + 1) hl4 (by simp; omega)).trans Q4
         have X5 := (G6.block bx (heap_lt X4) (by simp; omega)).trans X4
         have R5 := rd_pick R4 hBg' G6
         have RL5 := rd_pick RL4 hDg' G6
         have O5 := O4.pick S5 G6
         obtain ⟨up, hup⟩ : ∃ up, (r5 == 0) = up := ⟨_, rfl⟩
         obtain ⟨s0, s1, s2, g0, g1, g2⟩ := blk3 P5
         obtain ⟨x0, x1, x2, y0, y1, y2⟩ := blk3 X5
         obtain ⟨q0, q1, q2, q3⟩ := blk2 Q5))
  all_goals (
    have B5 := ZS.out _ O5.2.2
    have R8 := KB.out _ ⟨w.heap.size + 1, 1, none⟩ (.bool up) (Nat.le_refl _) (KB.out _ ⟨w.heap.size + 1, 0, none⟩ (.int .i64 zc) (Nat.le_refl _) (KB.out _ ⟨w.heap.size, 2, none⟩ (.slice B xs.length k) (Nat.le_succ _) (KB.out _ ⟨w.heap.size, 1, none⟩ (.int .i64 T) (Nat.le_succ _) (KB.out _ ⟨w.heap.size, 0, none⟩ (.int .i64 W) (Nat.le_succ _) R5))))
    have RL8 := KD.out _ ⟨w.heap.size + 1, 1, none⟩ (.bool up) (Nat.le_refl _) (KD.out _ ⟨w.heap.size + 1, 0, none⟩ (.int .i64 zc) (Nat.le_refl _) (KD.out _ ⟨w.heap.size, 2, none⟩ (.slice B xs.length k) (Nat.le_succ _) (KD.out _ ⟨w.heap.size, 1, none⟩ (.int .i64 T) (Nat.le_succ _) (KD.out _ ⟨w.heap.size, 0, none⟩ (.int .i64 W) (Nat.le_succ _) RL5))))
    have B8 := ((((B5.setCell (p := ⟨w.heap.size, 0, none⟩) (Nat.le_refl _) (.int .i64 W)).setCell (p := ⟨w.heap.size, 1, none⟩) (Nat.le_refl _) (.int .i64 T)).setCell (p := ⟨w.heap.size, 2, none⟩) (Nat.le_refl _) (.slice B xs.length k)).setCell (p := ⟨w.heap.size + 1, 0, none⟩) (Nat.le_succ _) (.int .i64 zc)).setCell (p := ⟨w.heap.size + 1, 1, none⟩) (Nat.le_succ _) (.bool up)
    go_wp2
    refine bodyPost_ret (v := .tuple #[.agg #[.int .i64 W, .int .i64 T, .slice B xs.length k], .slice D L.length d, .agg #[.int .i64 zc, .bool up]]) (by simp [results, Tryz.results15, go_sem, s0, s1, s2, q0, q1]) rfl ?_
    exact ⟨W, T, xs, B, k, L, D, d, zc, up, rfl, R8, hl2, RL8, hL2, ⟨hz1, hz2⟩, B8⟩)
end Go.Proofs.YtafmpgikdhlknaaGreat
