/- Contract: the reference's l3Less: a region without some cells. -/
import Derived.Test.YtnciemnlnijhfaaBarsN
import Derived.Test.YtnciemnlnijhfaaSet
import Derived.Test.YtnciemnlnijhfaaGb
namespace Go.Proofs.Ytnciemnlnijhfaa
open Go.RowKit

section
set_option maxRecDepth 100000
variable {ops : Array Oper} {rest : List Oper} {o : Oper} {a : Act} {Q : Exit → Act → World → Prop}
theorem step_app_bools {K : Act → World → Prop} {E : Prop} (W : World) (hgd : o.guard = none) (s x : Operand) (ho : o.op = .call { callee := .builtin .append, args := #[s, x], argTypes := #[23, 23] })
    (base H0 : Nat) (hs : a.eval s = .slice (some ⟨H0, 0, none⟩) 0 0) (hown : W.ownsRow base 4 1 (.slice (some ⟨H0, 0, none⟩) 0 0) 0 []) (ad : Addr) (n c : Nat) (hx : a.eval x = .slice (some ad) n c) (bs : List Bool) (hl : bs.length = n)
    (hc : Rd W (some ad) (bs.map .bool)) (h0 : 0 < n) (hn : n ≤ 1000000) (hbase : base ≤ W.heap.size)
    (h : ∀ (g cap : Nat) (w' : World), w'.ownsRow base 4 1 (.slice (some ⟨g, 0, none⟩) n cap) n (bs.map .bool) → W.grownBy w' (some H0) → (g = H0 ∨ g = W.heap.size) → K (a.put o.dst (.slice (some ⟨g, 0, none⟩) n cap)) w') :
    if Region.wanted o (yielded ops a.tmps) = true then Oper.wp Try.prog o a W K Q else E := by
  obtain ⟨i0, hi, hz0, hz1, hz2⟩ := info_parts Try.infoB
  refine step_append_lies _ hgd s x 23 ho base 4 i0 (.bool false) 1 1 Try.underlying23 hi hz0 hz1 hz2 rfl (by decide) _ _ _ hs hown ad n c (bs.map .bool) hx (by simp [hl]) ?_ ?_ h0 ?_ ?_ hbase _ rfl ?_
  · intro j y hj
    obtain ⟨ad', e, hcell⟩ := hc (by intro e; rw [e] at hj; simp at hj)
    injection e with e; subst e
    exact hcell j y hj
  · intro y hy; obtain ⟨b, _, rfl⟩ := List.mem_map.1 hy; rfl
  · unfold maxLen; omega
  · omega
  · intro g cap w' h1 h2 h3 _
    simp only [Nat.zero_add, List.nil_append] at h1
    rw [Nat.zero_add]
    refine h g cap w' h1 h2 ?_
    rcases h3 with h3 | h3
    · left; injection h3 with h3; exact h3.symm
    · exact .inr h3
end
theorem kb3 {w w' : World} {H : Nat} {o : Obj} {p : Addr} {v : Value} (hg : (w.alloc o).drew.grownBy w' (some H)) (h : w.cell? p = some v) (hH : p.block < H) : w'.cell? p = some v :=
  (hg.cell_far p (World.block_lt_of_cell? (w.alloc o) _ (al_cell h)) (fun e => by injection e with e; omega)).trans (al_cell h)
theorem kb4 {w w' : World} {H : Nat} {o o' : Obj} {p : Addr} {v : Value} (hg : ((w.alloc o).alloc o').drew.grownBy w' (some H)) (h : w.cell? p = some v) (hH : p.block < H) : w'.cell? p = some v :=
  (hg.cell_far p (World.block_lt_of_cell? ((w.alloc o).alloc o') _ (al_cell (al_cell h))) (fun e => by injection e with e; omega)).trans (al_cell (al_cell h))
/-- three cells of a block written -/
def sc3 (w : World) (p : Nat) (x y z : Value) : World := ((w.setCell ⟨p, 0, none⟩ x).setCell ⟨p, 1, none⟩ y).setCell ⟨p, 2, none⟩ z
theorem sc3_c3 {w : World} {p : Nat} {x0 y0 z0 x y z : Value} {t : TypeId} (h : w.heap[p]? = some (.cells #[x0, y0, z0] t (0, 0))) : C3 (sc3 w p x y z) p x y z := by
  have e1 := heap_setCell_same w p 0 _ _ x h
  have e2 := heap_setCell_same _ p 1 _ _ y e1
  have e3 := heap_setCell_same _ p 2 _ _ z e2
  obtain ⟨y0, y1, y2, -⟩ := blk3 (by simpa using e3)
  exact ⟨y0, y1, y2⟩
theorem sc3_heap {w : World} {p i : Nat} {x y z : Value} (h : i ≠ p) : (sc3 w p x y z).heap[i]? = w.heap[i]? := by
  unfold sc3
  rw [Below.heap_setCell _ _ _ _ (by simp; omega), Below.heap_setCell _ _ _ _ (by simp; omega), Below.heap_setCell _ _ _ _ (by simp; omega)]
theorem sc3_below {w w0 : World} {B p : Nat} {x y z : Value} (h : Below B w0 w) (hp : B ≤ p) : Below B w0 (sc3 w p x y z) := ((h.setCell (by simpa using hp) _).setCell (by simpa using hp) _).setCell (by simpa using hp) _
theorem al_blk2 {w w3 : World} {o : Obj} {x y z : Value} {t : TypeId} (hg : ((w.alloc o).alloc (.cells #[x, y, z] t)).drew.grownBy w3 (some w.heap.size)) :
    w3.heap[w.heap.size + 1]? = some (.cells #[x, y, z] t (0, 0)) := by
  have h := heap_alloc_new (w.alloc o) (.cells #[x, y, z] t)
  rw [show (w.alloc o).heap.size = w.heap.size + 1 by simp] at h
  exact (hg.block (w.heap.size + 1) (by simp) (by simp)).trans h
theorem al_blk3 {w w3 : World} {o : Obj} {x y z : Value} {t : TypeId} (hg : ((w.alloc (.cells #[x, y, z] t)).alloc o).drew.grownBy w3 (some (w.heap.size + 1))) :
    w3.heap[w.heap.size]? = some (.cells #[x, y, z] t (0, 0)) :=
  (hg.block w.heap.size (by simp; omega) (by simp)).trans ((((Below.refl _ _).alloc (Nat.le_refl _) _).block w.heap.size (by simp)).trans (heap_alloc_new w _))
theorem below_grown' {w wq w3 : World} {B H : Nat} (hb : Below B wq w) (hg : w.drew.grownBy w3 (some H)) (hH : B ≤ H) (hB : B ≤ wq.heap.size) : Below B wq w3 :=
  hb.drew.grown hg (Nat.le_trans hB hb.size) (fun k hk => by injection hk with hk; omega)
set_option maxRecDepth 100000 in
set_option maxHeartbeats 1000000 in
theorem l3less_any (W T : Int) (ad : Addr) (Ac : Option Addr) (c cc : Nat) (bs : List Bool) (L : List Int) (w : World) (hr : Rd w (some ad) (bs.map .bool)) (hrL : Rd w Ac (L.map (.int .i64))) (hne : bs ≠ []) (hn : bs.length ≤ 36)
    (hL : ∀ x ∈ L, 0 ≤ x ∧ x < (bs.length : Int)) (hll : L.length ≤ 100) :
    Calls Try.prog 132 #[.agg #[.int .i64 W, .int .i64 T, .slice (some ad) bs.length c], .slice Ac L.length cc] w (NewRW W T (clearL bs L) w) := by
  have X0 := (C3.new w (.int .i64 W) (.int .i64 T) (.slice (some ad) bs.length c) 25).alloc (.cells #[.int .i64 0, .int .i64 0, .slice none 0 0] 25)
  have B0 := bl_alloc (bl_alloc (Below.refl w.heap.size w) (.cells #[.int .i64 W, .int .i64 T, .slice (some ad) bs.length c] 25)) (.cells #[.int .i64 0, .int .i64 0, .slice none 0 0] 25)
  have R0 := hr.belo B0
  have RL := hrL.belo B0
  have K0 : ((w.alloc (.cells #[.int .i64 W, .int .i64 T, .slice (some ad) bs.length c] 25)).alloc (.cells #[.int .i64 0, .int .i64 0, .slice none 0 0] 25)).heap[w.heap.size + 1]? = some (.cells #[.int .i64 0, .int .i64 0, .slice none 0 0] 25 (0, 0)) := by
    have := heap_alloc_new (w.alloc (.cells #[.int .i64 W, .int .i64 T, .slice (some ad) bs.length c] 25)) (.cells #[.int .i64 0, .int .i64 0, .slice none 0 0] 25)
    simpa using this
  have z0 : w.heap.size + 2 = ((w.alloc (.cells #[.int .i64 W, .int .i64 T, .slice (some ad) bs.length c] 25)).alloc (.cells #[.int .i64 0, .int .i64 0, .slice none 0 0] 25)).heap.size := by simp
  have h0 : 0 < bs.length := List.length_pos_iff.2 hne
  have HLL := Lib.hid hL
  have HNE := Lib.hid hne
  have HRL := Lib.hid hrL
  clear hr hrL hL hne
  go_enter Try.func132, Try.ntmps132
  go_wp2_with fail
  generalize (w.alloc (.cells #[.int .i64 W, .int .i64 T, .slice (some ad) bs.length c] 25)).alloc (.cells #[.int .i64 0, .int .i64 0, .slice none 0 0] 25) = wq at *
  obtain ⟨x0, x1, x2⟩ := id X0
  have s0 : w.heap.size < wq.heap.size := by omega
  have sz : wq.heap.size = w.heap.size + 2 := z0.symm
  have HZ0 := Lib.hid sz
  clear z0 sz
  have own1 := World.ownsRow_lit (e := 4) (size := 1) wq #[] 0 (Nat.le_refl _) (by unfold maxLen; omega) (by simp)
  have own2 := own1.alloc (.cells #[.int .i64 0, .int .i64 0, .slice none 0 0] 25)
  have own3 := World.ownsRow_lit (e := 4) (size := 1) (wq.alloc (.cells #[.int .i64 0, .int .i64 0, .slice none 0 0] 25)) #[] 0 (Nat.le_refl _) (by unfold maxLen; omega) (by simp)
  rw [show (wq.alloc (.cells #[.int .i64 0, .int .i64 0, .slice none 0 0] 25)).heap.size = wq.heap.size + 1 by simp] at own3
  go_region_held3 (fun w' => w'.cell? ⟨w.heap.size, 0, none⟩ = some (.int .i64 W) ∧ w'.cell? ⟨w.heap.size, 1, none⟩ = some (.int .i64 T) ∧ w'.cell? ⟨w.heap.size, 2, none⟩ = some (.slice (some ad) bs.length c))
    (first | (with_reducible exact ⟨x0, x1, x2⟩) | (with_reducible exact ⟨dr_cell x0, dr_cell x1, dr_cell x2⟩) | (with_reducible exact ⟨al_cell x0, al_cell x1, al_cell x2⟩) | (with_reducible exact ⟨dr_cell (al_cell x0), dr_cell (al_cell x1), dr_cell (al_cell x2)⟩) | (with_reducible exact ⟨al_cell (al_cell x0), al_cell (al_cell x1), al_cell (al_cell x2)⟩) | (with_reducible exact ⟨dr_cell (al_cell (al_cell x0)), dr_cell (al_cell (al_cell x1)), dr_cell (al_cell (al_cell x2))⟩) | (with_reducible exact ⟨kb3 hgA x0 s0, kb3 hgA x1 s0, kb3 hgA x2 s0⟩) | (with_reducible exact ⟨kb4 hgA x0 hHA, kb4 hgA x1 hHA, kb4 hgA x2 hHA⟩) | (with_reducible exact ⟨al_cell (kb3 hgA x0 s0), al_cell (kb3 hgA x1 s0), al_cell (kb3 hgA x2 s0)⟩) | (with_reducible exact ⟨set3 (kb4 hgA x0 hHA) (by omega), set3 (kb4 hgA x1 hHA) (by omega), set3 (kb4 hgA x2 hHA) (by omega)⟩))
    (first
      | (refine step_app_bools _ (by rfl) _ _ (by rfl) _ wq.heap.size (by rfl) own1.drew ad bs.length c (by rfl) bs rfl (R0.alloc _).drew h0 (by omega) (by simp) ?_; intro gA capA w3 ownA hgA hatA)
      | (refine step_app_bools _ (by rfl) _ _ (by rfl) _ wq.heap.size (by rfl) own2.drew ad bs.length c (by rfl) bs rfl ((R0.alloc _).alloc _).drew h0 (by omega) (by simp <;> omega) ?_; intro gA capA w3 ownA hgA hatA; have hHA := s0; obtain ⟨n0, n1, n2, f0, f1, f2⟩ := blk3 (al_blk2 hgA))
      | (refine step_app_bools _ (by rfl) _ _ (by rfl) _ (wq.heap.size + 1) (by rfl) own3.drew ad bs.length c (by rfl) bs rfl ((R0.alloc _).alloc _).drew h0 (by omega) (by simp) ?_; intro gA capA w3 ownA hgA hatA; have hHA : w.heap.size < wq.heap.size + 1 := (by omega); obtain ⟨n0, n1, n2, f0, f1, f2⟩ := blk3 (al_blk3 hgA)))
  · have BA : Below wq.heap.size wq w3 := below_grown' ((Below.refl wq.heap.size wq).alloc (Nat.le_refl _) (.cells #[] 4)) hgA (Nat.le_refl _) (Nat.le_refl _)
    have hgA1 : wq.heap.size ≤ gA := by rcases hatA with h | h <;> (try simp at h) <;> omega
    have hgA2 : gA < w3.heap.size := own_lt ownA _ rfl
    have BB := bl_alloc (Below.refl w3.heap.size w3) (.cells #[.int .i64 W, .int .i64 T, .slice (some ⟨gA, 0, none⟩) bs.length capA] 25)
    have Q := ((Wr.of_own ownA).belo BB).lower (lo' := w.heap.size + 2) (by have := HZ0.out; omega)
    have X := C3.new w3 (.int .i64 W) (.int .i64 T) (.slice (some ⟨gA, 0, none⟩) bs.length capA) 25
    have hs3 := BA.size
    have KZ := (BB.block (w.heap.size + 1) (by have := HZ0.out; omega)).trans ((BA.block (w.heap.size + 1) (by have := HZ0.out; omega)).trans K0)
    have BX := bl_go (bl_go B0 BA) BB
    have hpg : w3.heap.size ≠ gA := by omega
    have hpw : w.heap.size + 1 < w3.heap.size := by have := HZ0.out; omega
    clear ownA hgA hatA BA BB own1 own2 own3 R0 RL K0 B0 X0 x0 x1 x2
    generalize w3.alloc (.cells #[.int .i64 W, .int .i64 T, .slice (some ⟨gA, 0, none⟩) bs.length capA] 25) = wx at *
    generalize w3.heap.size = pb at *
    go_wp2_with fail
    go_loopw [6] (fun i wr => ∃ j : Nat, j ≤ L.length ∧ i = .int .i64 j ∧ C3 wr pb (.int .i64 W) (.int .i64 T) (.slice (some ⟨gA, 0, none⟩) bs.length capA) ∧ Wr wr (w.heap.size + 2) 4 (some ⟨gA, 0, none⟩) ((clearL bs (L.take j)).map .bool) ∧ wr.heap[w.heap.size + 1]? = some (.cells #[.int .i64 0, .int .i64 0, .slice none 0 0] 25 (0, 0)) ∧ Below w.heap.size w wr) (fun i _ => L.length - (intOf i).toNat)
    case atStart => exact ⟨0, Nat.zero_le _, rfl, X, Q, KZ, BX⟩
    case round =>
      clear X Q KZ BX
      obtain ⟨j, hj, rfl, X, Q, KZ, BX⟩ := hrel
      have HKZ := Lib.hid KZ
      obtain ⟨y0, y1, y2⟩ := id X
      by_cases hjl : j < L.length
      · obtain ⟨xj, hxj⟩ : ∃ x, L[j] = x := ⟨_, rfl⟩
        obtain ⟨bj, oj, hA, cj⟩ := (HRL.out.belo BX).atEM hjl
        rw [hxj] at cj
        have hm := HLL.out xj (by rw [← hxj]; exact List.getElem_mem hjl)
        obtain ⟨xn, rfl⟩ := Int.eq_ofNat_of_zero_le hm.1
        have hxn : xn < bs.length := by have := hm.2; omega
        have HS := Lib.hid (show clearL bs (L.take (j + 1)) = (clearL bs (L.take j)).set xn false by
          rw [take_one_more L j hjl, clearL_snoc, hxj, Int.toNat_natCast])
        have HLN := Lib.hid (clearL_len (L.take j) bs)
        have cx := Q.rd.cellEM (k := xn) (by rw [HLN.out]; exact hxn)
        simp only [Nat.zero_add] at cx
        obtain ⟨g', e', hlo, _, hfz⟩ := Q.form (by intro e; have := congrArg List.length e; simp [HLN.out] at this; exact HNE.out this)
        have hgg : gA = g' := by injection e' with e'; injection e'
        subst hgg
        have fx := hfz xn
        obtain ⟨ov, cx2⟩ : ∃ ov, wr.cell? ⟨gA, xn, none⟩ = some ov := ⟨_, cx⟩
        have xI : (xn : Int) < (bs.length : Int) := by omega
        have x0I : (0 : Int) ≤ (xn : Int) := by omega
        have jI : (j : Int) < (L.length : Int) := by omega
        have j0I : (0 : Int) ≤ (j : Int) := by omega
        have hbj : bj ≠ gA := by
          have := HRL.out.lt hA (by intro e; simp at e; subst e; simp at hjl)
          simp only at this; omega
        subst hA
        clear hm hxj hfz e' cx KZ
        go_wp2_with fail
        go_region_held3 (fun w' => w'.cell? ⟨pb, 2, none⟩ = some (.slice (some ⟨gA, 0, none⟩) bs.length capA) ∧ w'.cell? ⟨bj, oj + j, none⟩ = some (.int .i64 xn))
          (first | (with_reducible exact ⟨y2, cj⟩) | (with_reducible exact ⟨dr_cell y2, dr_cell cj⟩) | (with_reducible exact ⟨gb_far y2 hpg, gb_far cj hbj⟩) | (with_reducible exact ⟨dr_cell (gb_far y2 hpg), dr_cell (gb_far cj hbj)⟩))
          (fail)
        go_wp2
        go_roundw
        case rel =>
          refine ⟨j + 1, by omega, by go_num, (X.set (p := ⟨gA, xn, none⟩) (fun e => hpg e.symm) _).drew, ?_, ?_, (BX.setCell (by simp; omega) _).drew⟩
          · rw [HS.out, List.map_set]; exact Q.store xn _
          · have : (wr.setCell ⟨gA, xn, none⟩ (.bool false)).heap[w.heap.size + 1]? = some (.cells #[.int .i64 0, .int .i64 0, .slice none 0 0] 25 (0, 0)) := by
              rw [Below.heap_setCell _ _ _ _ (by simp; omega)]; exact HKZ.out
            exact this
        case measure => simp [intOf]; omega
      · obtain rfl : j = L.length := by omega
        rw [List.take_length] at Q
        obtain ⟨g0, g1, g2, f0, f1, f2⟩ := blk3 KZ
        have hlo := Q.1 _ rfl
        simp only at hlo
        clear KZ
        go_wp2_with fail
        refine bodyPost_ret (v := .agg #[.int .i64 W, .int .i64 T, .slice (some ⟨gA, 0, none⟩) bs.length capA]) (by simp [results, Try.results132, go_sem, g0, g1, g2]) rfl ⟨some ⟨gA, 0, none⟩, capA, by rw [clearL_len], ?_, ?_⟩
        · refine (Q.lower (by omega)).keep fun g' hg' hg2' => ?_
          have hgg : gA = g' := by injection hg' with h; injection h
          subst hgg
          exact sc3_heap (p := w.heap.size + 1) (by omega)
        · exact sc3_below (p := w.heap.size + 1) BX (by omega)
  · have BA : Below wq.heap.size wq w3 := below_grown' (((Below.refl wq.heap.size wq).alloc (Nat.le_refl _) (.cells #[] 4)).alloc (by simp) (.cells #[.int .i64 0, .int .i64 0, .slice none 0 0] 25)) hgA (by omega) (Nat.le_refl _)
    have hgA1 : wq.heap.size ≤ gA ∧ gA ≠ wq.heap.size + 1 := by rcases hatA with h | h <;> (try simp at h) <;> omega
    obtain ⟨hgA1, hgA3⟩ := hgA1
    have KB := al_blk2 hgA
    have KZ0 := (BA.block (w.heap.size + 1) (by have := HZ0.out; omega)).trans K0
    have X : C3 (sc3 w3 (wq.heap.size + 1) (.int .i64 W) (.int .i64 T) (.slice (some ⟨gA, 0, none⟩) bs.length capA)) (wq.heap.size + 1) (.int .i64 W) (.int .i64 T) (.slice (some ⟨gA, 0, none⟩) bs.length capA) := sc3_c3 KB
    have KZ : (sc3 w3 (wq.heap.size + 1) (.int .i64 W) (.int .i64 T) (.slice (some ⟨gA, 0, none⟩) bs.length capA)).heap[w.heap.size + 1]? = some (.cells #[.int .i64 0, .int .i64 0, .slice none 0 0] 25 (0, 0)) := (sc3_heap (by have := HZ0.out; omega)).trans KZ0
    have BX : Below w.heap.size w (sc3 w3 (wq.heap.size + 1) (.int .i64 W) (.int .i64 T) (.slice (some ⟨gA, 0, none⟩) bs.length capA)) := sc3_below (bl_go B0 BA) (by have := HZ0.out; omega)
    have Q : Wr (sc3 w3 (wq.heap.size + 1) (.int .i64 W) (.int .i64 T) (.slice (some ⟨gA, 0, none⟩) bs.length capA)) (w.heap.size + 2) 4 (some ⟨gA, 0, none⟩) (bs.map .bool) := by
      refine ((Wr.of_own ownA).lower (by have := HZ0.out; simp; omega)).keep fun g' hg' hg2' => ?_
      have hgg : gA = g' := by injection hg' with h; injection h
      subst hgg
      exact sc3_heap hgA3
    have hpg : wq.heap.size + 1 ≠ gA := fun e => hgA3 e.symm
    have hpw : w.heap.size + 1 < wq.heap.size + 1 := by have := HZ0.out; omega
    clear ownA hgA hatA BA own1 own2 own3 R0 RL K0 B0 X0 x0 x1 x2 KB KZ0 n0 n1 n2 f0 f1 f2
    change Exit.then _ _ _ _ (sc3 w3 (wq.heap.size + 1) (.int .i64 W) (.int .i64 T) (.slice (some ⟨gA, 0, none⟩) bs.length capA))
    generalize sc3 w3 (wq.heap.size + 1) (.int .i64 W) (.int .i64 T) (.slice (some ⟨gA, 0, none⟩) bs.length capA) = wx at *
    obtain ⟨pb, hpb⟩ : ∃ pb, wq.heap.size + 1 = pb := ⟨_, rfl⟩
    rw [hpb] at X hpg hpw ⊢
    clear hpb
    go_wp2_with fail
    go_loopw [6] (fun i wr => ∃ j : Nat, j ≤ L.length ∧ i = .int .i64 j ∧ C3 wr pb (.int .i64 W) (.int .i64 T) (.slice (some ⟨gA, 0, none⟩) bs.length capA) ∧ Wr wr (w.heap.size + 2) 4 (some ⟨gA, 0, none⟩) ((clearL bs (L.take j)).map .bool) ∧ wr.heap[w.heap.size + 1]? = some (.cells #[.int .i64 0, .int .i64 0, .slice none 0 0] 25 (0, 0)) ∧ Below w.heap.size w wr) (fun i _ => L.length - (intOf i).toNat)
    case atStart => exact ⟨0, Nat.zero_le _, rfl, X, Q, KZ, BX⟩
    case round =>
      clear X Q KZ BX
      obtain ⟨j, hj, rfl, X, Q, KZ, BX⟩ := hrel
      have HKZ := Lib.hid KZ
      obtain ⟨y0, y1, y2⟩ := id X
      by_cases hjl : j < L.length
      · obtain ⟨xj, hxj⟩ : ∃ x, L[j] = x := ⟨_, rfl⟩
        obtain ⟨bj, oj, hA, cj⟩ := (HRL.out.belo BX).atEM hjl
        rw [hxj] at cj
        have hm := HLL.out xj (by rw [← hxj]; exact List.getElem_mem hjl)
        obtain ⟨xn, rfl⟩ := Int.eq_ofNat_of_zero_le hm.1
        have hxn : xn < bs.length := by have := hm.2; omega
        have HS := Lib.hid (show clearL bs (L.take (j + 1)) = (clearL bs (L.take j)).set xn false by
          rw [take_one_more L j hjl, clearL_snoc, hxj, Int.toNat_natCast])
        have HLN := Lib.hid (clearL_len (L.take j) bs)
        have cx := Q.rd.cellEM (k := xn) (by rw [HLN.out]; exact hxn)
        simp only [Nat.zero_add] at cx
        obtain ⟨g', e', hlo, _, hfz⟩ := Q.form (by intro e; have := congrArg List.length e; simp [HLN.out] at this; exact HNE.out this)
        have hgg : gA = g' := by injection e' with e'; injection e'
        subst hgg
        have fx := hfz xn
        obtain ⟨ov, cx2⟩ : ∃ ov, wr.cell? ⟨gA, xn, none⟩ = some ov := ⟨_, cx⟩
        have xI : (xn : Int) < (bs.length : Int) := by omega
        have x0I : (0 : Int) ≤ (xn : Int) := by omega
        have jI : (j : Int) < (L.length : Int) := by omega
        have j0I : (0 : Int) ≤ (j : Int) := by omega
        have hbj : bj ≠ gA := by
          have := HRL.out.lt hA (by intro e; simp at e; subst e; simp at hjl)
          simp only at this; omega
        subst hA
        clear hm hxj hfz e' cx KZ
        go_wp2_with fail
        go_region_held3 (fun w' => w'.cell? ⟨pb, 2, none⟩ = some (.slice (some ⟨gA, 0, none⟩) bs.length capA) ∧ w'.cell? ⟨bj, oj + j, none⟩ = some (.int .i64 xn))
          (first | (with_reducible exact ⟨y2, cj⟩) | (with_reducible exact ⟨dr_cell y2, dr_cell cj⟩) | (with_reducible exact ⟨gb_far y2 hpg, gb_far cj hbj⟩) | (with_reducible exact ⟨dr_cell (gb_far y2 hpg), dr_cell (gb_far cj hbj)⟩))
          (fail)
        go_wp2
        go_roundw
        case rel =>
          refine ⟨j + 1, by omega, by go_num, (X.set (p := ⟨gA, xn, none⟩) (fun e => hpg e.symm) _).drew, ?_, ?_, (BX.setCell (by simp; omega) _).drew⟩
          · rw [HS.out, List.map_set]; exact Q.store xn _
          · have : (wr.setCell ⟨gA, xn, none⟩ (.bool false)).heap[w.heap.size + 1]? = some (.cells #[.int .i64 0, .int .i64 0, .slice none 0 0] 25 (0, 0)) := by
              rw [Below.heap_setCell _ _ _ _ (by simp; omega)]; exact HKZ.out
            exact this
        case measure => simp [intOf]; omega
      · obtain rfl : j = L.length := by omega
        rw [List.take_length] at Q
        obtain ⟨g0, g1, g2, f0, f1, f2⟩ := blk3 KZ
        have hlo := Q.1 _ rfl
        simp only at hlo
        clear KZ
        go_wp2_with fail
        refine bodyPost_ret (v := .agg #[.int .i64 W, .int .i64 T, .slice (some ⟨gA, 0, none⟩) bs.length capA]) (by simp [results, Try.results132, go_sem, g0, g1, g2]) rfl ⟨some ⟨gA, 0, none⟩, capA, by rw [clearL_len], ?_, ?_⟩
        · refine (Q.lower (by omega)).keep fun g' hg' hg2' => ?_
          have hgg : gA = g' := by injection hg' with h; injection h
          subst hgg
          exact sc3_heap (p := w.heap.size + 1) (by omega)
        · exact sc3_below (p := w.heap.size + 1) BX (by omega)
  · have BA : Below wq.heap.size wq w3 := below_grown' (((Below.refl wq.heap.size wq).alloc (Nat.le_refl _) (.cells #[.int .i64 0, .int .i64 0, .slice none 0 0] 25)).alloc (by simp) (.cells #[] 4)) hgA (by omega) (Nat.le_refl _)
    have hgA1 : wq.heap.size ≤ gA ∧ gA ≠ wq.heap.size := by rcases hatA with h | h <;> (try simp at h) <;> omega
    obtain ⟨hgA1, hgA3⟩ := hgA1
    have KB := al_blk3 hgA
    have KZ0 := (BA.block (w.heap.size + 1) (by have := HZ0.out; omega)).trans K0
    have X : C3 (sc3 w3 (wq.heap.size) (.int .i64 W) (.int .i64 T) (.slice (some ⟨gA, 0, none⟩) bs.length capA)) (wq.heap.size) (.int .i64 W) (.int .i64 T) (.slice (some ⟨gA, 0, none⟩) bs.length capA) := sc3_c3 KB
    have KZ : (sc3 w3 (wq.heap.size) (.int .i64 W) (.int .i64 T) (.slice (some ⟨gA, 0, none⟩) bs.length capA)).heap[w.heap.size + 1]? = some (.cells #[.int .i64 0, .int .i64 0, .slice none 0 0] 25 (0, 0)) := (sc3_heap (by have := HZ0.out; omega)).trans KZ0
    have BX : Below w.heap.size w (sc3 w3 (wq.heap.size) (.int .i64 W) (.int .i64 T) (.slice (some ⟨gA, 0, none⟩) bs.length capA)) := sc3_below (bl_go B0 BA) (by have := HZ0.out; omega)
    have Q : Wr (sc3 w3 (wq.heap.size) (.int .i64 W) (.int .i64 T) (.slice (some ⟨gA, 0, none⟩) bs.length capA)) (w.heap.size + 2) 4 (some ⟨gA, 0, none⟩) (bs.map .bool) := by
      refine ((Wr.of_own ownA).lower (by have := HZ0.out; simp; omega)).keep fun g' hg' hg2' => ?_
      have hgg : gA = g' := by injection hg' with h; injection h
      subst hgg
      exact sc3_heap hgA3
    have hpg : wq.heap.size ≠ gA := fun e => hgA3 e.symm
    have hpw : w.heap.size + 1 < wq.heap.size := by have := HZ0.out; omega
    clear ownA hgA hatA BA own1 own2 own3 R0 RL K0 B0 X0 x0 x1 x2 KB KZ0 n0 n1 n2 f0 f1 f2
    change Exit.then _ _ _ _ (sc3 w3 (wq.heap.size) (.int .i64 W) (.int .i64 T) (.slice (some ⟨gA, 0, none⟩) bs.length capA))
    generalize sc3 w3 (wq.heap.size) (.int .i64 W) (.int .i64 T) (.slice (some ⟨gA, 0, none⟩) bs.length capA) = wx at *
    obtain ⟨pb, hpb⟩ : ∃ pb, wq.heap.size = pb := ⟨_, rfl⟩
    rw [hpb] at X hpg hpw ⊢
    clear hpb
    go_wp2_with fail
    go_loopw [6] (fun i wr => ∃ j : Nat, j ≤ L.length ∧ i = .int .i64 j ∧ C3 wr pb (.int .i64 W) (.int .i64 T) (.slice (some ⟨gA, 0, none⟩) bs.length capA) ∧ Wr wr (w.heap.size + 2) 4 (some ⟨gA, 0, none⟩) ((clearL bs (L.take j)).map .bool) ∧ wr.heap[w.heap.size + 1]? = some (.cells #[.int .i64 0, .int .i64 0, .slice none 0 0] 25 (0, 0)) ∧ Below w.heap.size w wr) (fun i _ => L.length - (intOf i).toNat)
    case atStart => exact ⟨0, Nat.zero_le _, rfl, X, Q, KZ, BX⟩
    case round =>
      clear X Q KZ BX
      obtain ⟨j, hj, rfl, X, Q, KZ, BX⟩ := hrel
      have HKZ := Lib.hid KZ
      obtain ⟨y0, y1, y2⟩ := id X
      by_cases hjl : j < L.length
      · obtain ⟨xj, hxj⟩ : ∃ x, L[j] = x := ⟨_, rfl⟩
        obtain ⟨bj, oj, hA, cj⟩ := (HRL.out.belo BX).atEM hjl
        rw [hxj] at cj
        have hm := HLL.out xj (by rw [← hxj]; exact List.getElem_mem hjl)
        obtain ⟨xn, rfl⟩ := Int.eq_ofNat_of_zero_le hm.1
        have hxn : xn < bs.length := by have := hm.2; omega
        have HS := Lib.hid (show clearL bs (L.take (j + 1)) = (clearL bs (L.take j)).set xn false by
          rw [take_one_more L j hjl, clearL_snoc, hxj, Int.toNat_natCast])
        have HLN := Lib.hid (clearL_len (L.take j) bs)
        have cx := Q.rd.cellEM (k := xn) (by rw [HLN.out]; exact hxn)
        simp only [Nat.zero_add] at cx
        obtain ⟨g', e', hlo, _, hfz⟩ := Q.form (by intro e; have := congrArg List.length e; simp [HLN.out] at this; exact HNE.out this)
        have hgg : gA = g' := by injection e' with e'; injection e'
        subst hgg
        have fx := hfz xn
        obtain ⟨ov, cx2⟩ : ∃ ov, wr.cell? ⟨gA, xn, none⟩ = some ov := ⟨_, cx⟩
        have xI : (xn : Int) < (bs.length : Int) := by omega
        have x0I : (0 : Int) ≤ (xn : Int) := by omega
        have jI : (j : Int) < (L.length : Int) := by omega
        have j0I : (0 : Int) ≤ (j : Int) := by omega
        have hbj : bj ≠ gA := by
          have := HRL.out.lt hA (by intro e; simp at e; subst e; simp at hjl)
          simp only at this; omega
        subst hA
        clear hm hxj hfz e' cx KZ
        go_wp2_with fail
        go_region_held3 (fun w' => w'.cell? ⟨pb, 2, none⟩ = some (.slice (some ⟨gA, 0, none⟩) bs.length capA) ∧ w'.cell? ⟨bj, oj + j, none⟩ = some (.int .i64 xn))
          (first | (with_reducible exact ⟨y2, cj⟩) | (with_reducible exact ⟨dr_cell y2, dr_cell cj⟩) | (with_reducible exact ⟨gb_far y2 hpg, gb_far cj hbj⟩) | (with_reducible exact ⟨dr_cell (gb_far y2 hpg), dr_cell (gb_far cj hbj)⟩))
          (fail)
        go_wp2
        go_roundw
        case rel =>
          refine ⟨j + 1, by omega, by go_num, (X.set (p := ⟨gA, xn, none⟩) (fun e => hpg e.symm) _).drew, ?_, ?_, (BX.setCell (by simp; omega) _).drew⟩
          · rw [HS.out, List.map_set]; exact Q.store xn _
          · have : (wr.setCell ⟨gA, xn, none⟩ (.bool false)).heap[w.heap.size + 1]? = some (.cells #[.int .i64 0, .int .i64 0, .slice none 0 0] 25 (0, 0)) := by
              rw [Below.heap_setCell _ _ _ _ (by simp; omega)]; exact HKZ.out
            exact this
        case measure => simp [intOf]; omega
      · obtain rfl : j = L.length := by omega
        rw [List.take_length] at Q
        obtain ⟨g0, g1, g2, f0, f1, f2⟩ := blk3 KZ
        have hlo := Q.1 _ rfl
        simp only at hlo
        clear KZ
        go_wp2_with fail
        refine bodyPost_ret (v := .agg #[.int .i64 W, .int .i64 T, .slice (some ⟨gA, 0, none⟩) bs.length capA]) (by simp [results, Try.results132, go_sem, g0, g1, g2]) rfl ⟨some ⟨gA, 0, none⟩, capA, by rw [clearL_len], ?_, ?_⟩
        · refine (Q.lower (by omega)).keep fun g' hg' hg2' => ?_
          have hgg : gA = g' := by injection hg' with h; injection h
          subst hgg
          exact sc3_heap (p := w.heap.size + 1) (by omega)
        · exact sc3_below (p := w.heap.size + 1) BX (by omega)
end Go.Proofs.Ytnciemnlnijhfaa
