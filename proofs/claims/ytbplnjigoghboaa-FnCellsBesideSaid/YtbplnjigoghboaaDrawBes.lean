/- Contract: the draw of a region and some cells (DrawCellsBeside). -/
import Derived.Test.YtbplnjigoghboaaDrawSome
import Derived.Test.YtbplnjigoghboaaDrawCol
import Derived.Deep.RegionLaw
import Derived.Maps.AppendAt
import Derived.Laws.AppendOwnNone
namespace Go.Proofs.Ytbplnjigoghboaa
open Go.RowKit

theorem rd_bl {w w' : World} {A : Option Addr} {xs : List Value} {B : Nat} (h : Rd w A xs) (hA : xs ≠ [] → ∀ ad, A = some ad → ad.block < B) (hb : Below B w w') : Rd w' A xs := fun hn => by
  obtain ⟨ad, rfl, hc⟩ := h hn
  exact ⟨ad, rfl, fun k v hv => (hb.cell (p := ad.add k) (by rw [blk_add]; exact hA hn ad rfl)).trans (hc k v hv)⟩
theorem rdS_app {w w' : World} {B g : Nat} {A : Option Addr} {c : Nat} {bytes : List Int} {p : Nat} (h : RdS w g A c bytes p) (hg : g < B) (hA : bytes ≠ [] → ∀ ad, A = some ad → ad.block < B) (hb : Below B w w') : RdS w' g A c bytes p :=
  ⟨(hb.block g hg).trans h.1, rd_bl h.2.1 (fun hne => hA (by simpa using hne)) hb, h.2.2⟩
theorem ownI_gr {w w' : World} {base g : Nat} {v : Value} {xs : List Int} (h : OwnI w base v xs) (hg : w.grownBy w' (some g)) (hlt : g < base) : OwnI w' base v xs := by
  obtain ⟨A, c, e, h⟩ := h
  refine ⟨A, c, e, h.kept hg ?_⟩
  rcases h.2 with ⟨h', _⟩ | ⟨g', cap', cur, h', hb, _⟩
  · left; rw [h']; rfl
  · right; rw [h']; intro e2; simp [Value.ownBlock] at e2; omega
/-- a region, a list under way, a reader -/
structure BesD (wa : World) (g bx : Nat) (A1 : Option Addr) (c1 : Nat) (by1 : List Int) (q : Nat) (W T : Int) (B : Option Addr) (k : Nat) (xs : List Bool) (L : List Int) (v : Value) (wr : World) : Prop where
  opn : Opn wa g A1 c1 by1 q wr
  rd : Rd wr B (xs.map .bool)
  box : C3 wr bx (.int .i64 W) (.int .i64 T) (.slice B xs.length k)
  own : OwnI wr (bx + 1) v L
  hg : g < bx
  hB : xs ≠ [] → ∀ ad, B = some ad → ad.block < bx ∧ ad.block ≠ g
  hA : by1 ≠ [] → ∀ ad, A1 = some ad → ad.block < bx
section
variable {wa wr w' : World} {g bx : Nat} {A1 : Option Addr} {c1 : Nat} {by1 : List Int} {q : Nat} {W T : Int} {B : Option Addr} {k : Nat} {xs : List Bool} {L : List Int} {v : Value}
theorem BesD.pick (h : BesD wa g bx A1 c1 by1 q W T B k xs L v wr) {q' : Nat} (S : RdS w' g A1 c1 by1 q') (G : wr.grownBy w' (some g)) : BesD wa g bx A1 c1 by1 q' W T B k xs L v w' :=
  ⟨h.opn.pick S G, h.rd.grownBelow G (fun hne ad ha e => (h.hB (by simpa using hne) ad ha).2 (by simpa using e)), h.box.gb G (by have := h.hg; omega), ownI_gr h.own G (by have := h.hg; omega), h.hg, h.hB, h.hA⟩
theorem BesD.app (h : BesD wa g bx A1 c1 by1 q W T B k xs L v wr) {v' : Value} {L' : List Int} (own : OwnI w' (bx + 1) v' L') (hb : Below (bx + 1) wr w') : BesD wa g bx A1 c1 by1 q W T B k xs L' v' w' := by
  have hg := h.hg
  refine ⟨⟨rdS_app h.opn.1 (by omega) (fun hne ad ha => by have := h.hA hne ad ha; omega) hb, h.opn.2.1, h.opn.2.2.trans (hb.mono (by have := h.opn.2.1; omega))⟩, rd_bl h.rd (fun hne ad ha => by have := (h.hB (by simpa using hne) ad ha).1; omega) hb, h.box.below hb (by omega), own, h.hg, h.hB, h.hA⟩
theorem BesD.belo (h : BesD wa g bx A1 c1 by1 q W T B k xs L v wr) (hb : Below wr.heap.size wr w') : BesD wa g bx A1 c1 by1 q W T B k xs L v w' := by
  have := h.box.lt
  exact h.app (h.own.belo hb) (hb.mono (by omega))
end
theorem arr2 (rn : Nat) (h : rn ≤ 1) : ∃ d : Int, (∀ w : World, (w.alloc (.cells #[.int .i64 (-1), .int .i64 40] 3)).cell? ⟨w.heap.size, rn, none⟩ = some (.int .i64 d)) ∧ -1 ≤ d ∧ d ≤ 40 := by
  rcases (show rn = 0 ∨ rn = 1 from by omega) with rfl | rfl
  · exact ⟨-1, fun w => cell_of_row _ _ _ _ _ _ (heap_alloc_new w _), by omega, by omega⟩
  · exact ⟨40, fun w => cell_of_row _ _ _ _ _ _ (heap_alloc_new w _), by omega, by omega⟩
/-- what a list looks like that can be appended -/
def Src (D : Option Addr) (d : Nat) (L : List Int) : Prop := (∃ ad, D = some ad) ∨ (D = none ∧ d = 0 ∧ L = [])
theorem OwnI.src {w : World} {base n c : Nat} {A : Option Addr} {xs : List Int} (h : OwnI w base (.slice A n c) xs) : Src A c xs := by
  obtain ⟨A', c', e, h⟩ := h
  injection e with e1 e2 e3
  subst e1; subst e2; subst e3
  rcases h.2 with ⟨e, h0⟩ | ⟨g, cap, cur, e, -⟩
  · injection e with e1 e2 e3
    exact .inr ⟨e1, e3, List.eq_nil_of_length_eq_zero h0⟩
  · injection e with e1 e2 e3
    exact .inl ⟨_, e1⟩
section
variable {ops : Array Oper} {rest : List Oper} {o : Oper} {a : Act} {Q : Exit → Act → World → Prop}
set_option maxRecDepth 100000 in
/-- a whole list of numbers is appended -/
theorem step_app_ints {K : Act → World → Prop} {E : Prop} (W : World) (hgd : o.guard = none) (s x : Operand) (ho : o.op = .call { callee := .builtin .append, args := #[s, x], argTypes := #[33, 33] })
    (base : Nat) (v : Value) (xs : List Int) (hs : a.eval s = v) (hown : OwnI W base v xs) (ys : List Int) (D : Option Addr) (d : Nat) (hx : a.eval x = .slice D ys.length d) (hD : Src D d ys) (hr : Rd W D (ys.map (.int .i64))) (hn2 : ys.length ≤ 1000000) (hn : xs.length ≤ 1000000000000) (hbase : base ≤ W.heap.size)
    (h : ∀ (A' : Option Addr) (c' : Nat) (w' : World), OwnI w' base (.slice A' (xs.length + ys.length) c') (xs ++ ys) → W.grownBy w' v.ownBlock → K (a.put o.dst (.slice A' (xs.length + ys.length) c')) w') :
    if Region.wanted o (yielded ops a.tmps) = true then Oper.wp Try.prog o a W K Q else E := by
  obtain ⟨i0, hi, hz0, hz1, hz2⟩ := info_parts Try.infoI
  have hown0 := hown
  obtain ⟨A, c, e, hown⟩ := hown
  rw [if_pos (show Region.wanted o (yielded ops a.tmps) = true by simp [Region.wanted, hgd])]
  have el : (xs ++ ys).length = xs.length + ys.length := List.length_append
  rcases hD with ⟨ad, rfl⟩ | ⟨rfl, rfl, rfl⟩
  · obtain ⟨v', w', hrun, h1, h2, h3, h4⟩ := run_append_own_at (P := Try.prog) W base 33 o.type 3 i0 (.int .i64 0) 1 8 Try.underlying33 hi hz0 hz1 hz2 rfl (by decide) v _ _ hown ad ys.length d (ys.map (.int .i64)) (by simp)
      (fun j u hj => by
        obtain ⟨ad', e', hc⟩ := hr (by intro e2; rw [e2] at hj; simp at hj)
        injection e' with e'; subst e'
        exact hc j u hj)
      (fun u hu => by obtain ⟨q, -, rfl⟩ := List.mem_map.1 hu; rfl) (by unfold maxLen; omega) (by omega) hbase
    have e1 : xs.map (Value.int .i64) ++ ys.map (Value.int .i64) = (xs ++ ys).map (.int .i64) := by simp
    rw [e1] at h1
    obtain ⟨A', c', rfl⟩ : ∃ A' c', v' = .slice A' (xs.length + ys.length) c' := by
      rcases h1.2 with ⟨e, h0⟩ | ⟨g, cap, cur, e, -⟩
      · exact ⟨none, 0, by rw [e, h0]⟩
      · exact ⟨_, _, e⟩
    unfold Oper.wp execOp
    simp only [ho, resolve, invoke, builtin, Sem.run_bind, Sem.run_pure, Result.andThen_ok, List.map_toArray, List.map_cons, List.map_nil, hs, hx, hrun]
    exact h A' c' w' ⟨A', c', by rw [el], by rw [el]; exact h1⟩ h2
  · have hrun := run_append_owned_none (P := Try.prog) (w := W) base 33 o.type 3 i0 1 Try.underlying33 hi v _ _ hown
    simp only [List.length_nil, Nat.add_zero, List.append_nil] at h hx
    unfold Oper.wp execOp
    simp only [ho, resolve, invoke, builtin, Sem.run_bind, Sem.run_pure, Result.andThen_ok, List.map_toArray, List.map_cons, List.map_nil, hs, hx, hrun]
    subst e
    exact h A c W hown0 (World.grownBy.refl _ _)
end
/-- a region and some cells -/
def DrawnC (w : World) (e : Ending) (w' : World) : Prop :=
  ∃ (W T : Int) (bs : List Bool) (B : Option Addr) (k : Nat) (L : List Int) (D : Option Addr) (d : Nat), e = .returned (.tuple #[.agg #[.int .i64 W, .int .i64 T, .slice B bs.length k], .slice D L.length d]) ∧ Rd w' B (bs.map .bool) ∧ bs.length ≤ 37 ∧ Rd w' D (L.map (.int .i64)) ∧ L.length ≤ 38 ∧ Src D d L ∧ Below w.heap.size w w'
set_option maxRecDepth 100000 in
set_option maxHeartbeats 4000000 in
theorem drawCellsBeside_any (A : Option Addr) (c : Nat) (bs : List Int) (w : World) (hr : Rd w A (bs.map (.int .u8))) (hw : ∀ x ∈ bs, 0 ≤ x ∧ x ≤ 255) (hn : bs.length ≤ 1048576) (hcap : bs.length ≤ c) :
    Calls Try.prog 33 #[.slice A bs.length c] w (DrawnC w) := by
  have HW := Lib.hid hw
  clear hw
  have hr1 := hr.alloc (.cells #[.int .i64 0, .int .i64 0, .slice none 0 0] 40)
  have P0 : (w.alloc (.cells #[.int .i64 0, .int .i64 0, .slice none 0 0] 40)).heap[w.heap.size]? = some (.cells #[.int .i64 0, .int .i64 0, .slice none 0 0] 40 (0, 0)) := heap_alloc_new w _
  have Z0 := bl_alloc (Below.refl w.heap.size w) (.cells #[.int .i64 0, .int .i64 0, .slice none 0 0] 40)
  have hs0 : (w.alloc (.cells #[.int .i64 0, .int .i64 0, .slice none 0 0] 40)).heap.size = w.heap.size + 1 := by simp
  go_enter Try.func33, Try.ntmps33
  go_wp2_with fail
  generalize w.alloc (.cells #[.int .i64 0, .int .i64 0, .slice none 0 0] 40) = wa at *
  refine (open_any A c bs _ hr1 HW.out hn hcap).mono ?_
  rintro e w1 ⟨g, A1, c1, by1, rfl, O1⟩
  have hg1 := O1.lt
  have hA1 : by1 ≠ [] → ∀ ad, A1 = some ad → ad.block < w1.heap.size := by
    intro hne ad ha
    obtain ⟨ad', ha', hc⟩ := O1.1.2.1 (by simpa using hne)
    obtain rfl := Option.some.inj (ha.symm.trans ha')
    obtain ⟨x, ys, rfl⟩ := List.exists_cons_of_ne_nil hne
    have := World.block_lt_of_cell? w1 _ (hc 0 _ rfl)
    simpa [Addr.add] using this
  clear hr1 HW hn hcap hr
  go_wp2_with fail
  refine (some_any 9 _ g A1 c1 by1 0 O1.1 (by omega) (by omega) (by omega)).mono ?_
  rintro e w2 ⟨W, T, xs, B, k, p2, rfl, R2, hl2, S2, hp2, G2, f2⟩
  have O2 := O1.pick S2 G2
  have h12 := G2.size
  have hw1 := O1.2.1
  have H3 : BesD wa g w2.heap.size A1 c1 by1 p2 W T B k xs [] (.slice (some ⟨w2.heap.size + 1, 0, none⟩) 0 0) ((w2.alloc (.cells #[.int .i64 W, .int .i64 T, .slice B xs.length k] 40)).alloc (.cells #[] 3)) := by
    have b3 := bl_alloc (bl_alloc (Below.refl w2.heap.size w2) (.cells #[.int .i64 W, .int .i64 T, .slice B xs.length k] 40)) (.cells #[] 3)
    have o3 := OwnI.empty (w2.alloc (.cells #[.int .i64 W, .int .i64 T, .slice B xs.length k] 40))
    rw [show (w2.alloc (.cells #[.int .i64 W, .int .i64 T, .slice B xs.length k] 40)).heap.size = w2.heap.size + 1 by simp] at o3
    refine ⟨O2.belo b3, R2.belo b3, (C3.new _ _ _ _ _).alloc _, o3, by omega, fun hne ad ha => ⟨?_, ?_⟩, fun hne ad ha => by have := hA1 hne ad ha; omega⟩
    · exact R2.lt ha (by simpa using hne)
    · have := f2 ad ha; omega
  have hwb : w.heap.size < w2.heap.size := by omega
  have hBw : ∀ ad, B = some ad → ad.block ≠ w.heap.size := fun ad ha => by have := f2 ad ha; omega
  have hpq : p2 ≤ 90 := by omega
  clear S2 G2 O1 O2 R2 f2 hA1 hp2
  go_wp2_with fail
  generalize (w2.alloc (.cells #[.int .i64 W, .int .i64 T, .slice B xs.length k] 40)).alloc (.cells #[] 3) = w3 at *
  obtain ⟨bx, hbx⟩ : ∃ bx, w2.heap.size = bx := ⟨_, rfl⟩
  rw [hbx] at H3 hwb ⊢
  clear hbx h12 hg1 hw1
  go_loopw [6, 7] (fun v i wr => ∃ (j q : Nat) (L : List Int), j ≤ xs.length ∧ i = .int .i64 j ∧ Hid (L.length ≤ j) ∧ q ≤ p2 + j ∧ BesD wa g bx A1 c1 by1 q W T B k xs L v wr) (fun _ i _ => xs.length - (intOf i).toNat)
  case atStart => exact ⟨0, p2, [], Nat.zero_le _, rfl, Lib.hid (Nat.zero_le _), by omega, H3⟩
  case round =>
    clear H3
    obtain ⟨j, q, L, hj, rfl, HL, hq, HR⟩ := hrel
    obtain ⟨x0, x1, x2⟩ := id HR.box
    have hxl : L.length ≤ 1000000000000 := by have := HL.out; omega
    have hbl := HR.box.lt
    obtain ⟨A9, c9, rfl, -⟩ := id HR.own
    by_cases hlt : j < xs.length
    · have hltI : (j : Int) < (xs.length : Int) := by omega
      go_wp2_with fail
      refine (pick_any 4 _ g A1 c1 by1 q HR.opn.1 (by omega) (by omega)).mono ?_
      rintro e w4 ⟨r4, rfl, hr4, S4, G4⟩
      have H4 := HR.pick S4 G4
      clear HR S4 G4 hr4 x0 x1 x2
      have hbl4 := H4.box.lt
      obtain ⟨x0, x1, x2⟩ := id H4.box
      by_cases h0 : r4 = 0
      · subst h0
        go_wp2_with (at_builtin; refine app_int _ rfl _ _ rfl (bx + 1) _ _ rfl H4.own (j : Int) rfl hxl (by omega) ?_; intro A8 c8 w8 o8 g8)
        have b8 := app_below (Below.refl (bx + 1) w4) (Nat.le_refl _) (by omega) H4.own g8
        have H8 := H4.app o8 b8
        go_roundw
        case rel => exact ⟨j + 1, q + 1, L ++ [(j : Int)], by omega, by go_num, Lib.hid (by have := HL.out; simp; omega), by omega, by simpa using H8⟩
        case measure => simp [intOf]; omega
      · have h0' : (r4 == 0) = false := by simpa using h0
        go_wp2_with fail
        go_roundw
        case rel => exact ⟨j + 1, q + 1, L, by omega, by go_num, Lib.hid (by have := HL.out; omega), by omega, H4⟩
        case measure => simp [intOf]; omega
    · obtain rfl : j = xs.length := by omega
      have hge : ¬ ((xs.length : Int) < (xs.length : Int)) := by omega
      go_wp2_with fail
      refine (odd_any 9 _ g A1 c1 by1 q HR.opn.1 (by omega) (by omega) (by omega)).mono ?_
      rintro e w6 ⟨b, q', rfl, S6, hq6, G6⟩
      have H6 := HR.pick S6 G6
      have hq7 : q' ≤ 200 := by omega
      have hL37 : L.length ≤ 37 := by have := HL.out; omega
      have P6 : w6.heap[w.heap.size]? = some (.cells #[.int .i64 0, .int .i64 0, .slice none 0 0] 40 (0, 0)) := (H6.opn.2.2.block w.heap.size (by omega)).trans P0
      have B6 : Below w.heap.size w w6 := Z0.trans (H6.opn.2.2.mono (by omega))
      clear HR S6 G6 x0 x1 x2 hbl hq hq6 hge hlt
      have hbl6 := H6.box.lt
      obtain ⟨x0, x1, x2⟩ := id H6.box
      have KB := fun (v : World) (i : Nat) (u : Value) (R : Rd v B (xs.map .bool)) => R.grownBelow (set_grownR v ⟨w.heap.size, i, none⟩ u) (fun _ ad ha e => hBw ad ha (by simpa using e))
      cases b with
      | false =>
        obtain ⟨s0, s1, s2, t0, t1, t2⟩ := blk3 P6
        have KD := fun (v : World) (i : Nat) (u : Value) (R : Rd v A9 (L.map (.int .i64))) => R.grownBelow (set_grownR v ⟨w.heap.size, i, none⟩ u) (fun _ ad ha e => by have := (H6.own.lt ad ha).1; have e' : ad.block = w.heap.size := (by simpa using e); omega)
        have R8 := KB _ 2 (.slice B xs.length k) (KB _ 1 (.int .i64 T) (KB _ 0 (.int .i64 W) H6.rd))
        have D8 := KD _ 2 (.slice B xs.length k) (KD _ 1 (.int .i64 T) (KD _ 0 (.int .i64 W) H6.own.rd.2))
        have B8 := ((B6.setCell (p := ⟨w.heap.size, 0, none⟩) (Nat.le_refl _) (.int .i64 W)).setCell (p := ⟨w.heap.size, 1, none⟩) (Nat.le_refl _) (.int .i64 T)).setCell (p := ⟨w.heap.size, 2, none⟩) (Nat.le_refl _) (.slice B xs.length k)
        clear KB KD P6 B6
        go_wp2_with fail
        refine bodyPost_ret (v := .tuple #[.agg #[.int .i64 W, .int .i64 T, .slice B xs.length k], .slice A9 L.length c9]) (by simp [results, Try.results33, go_sem, s0, s1, s2]) rfl ⟨W, T, xs, B, k, L, A9, c9, rfl, R8, hl2, D8, by omega, H6.own.src, B8⟩
      | true =>
        have hA9 := fun ad ha => (H6.own.lt ad ha).1
        go_wp2_with fail
        have H6a := H6.belo (bl_alloc (Below.refl _ _) (.cells #[.int .i64 (-1), .int .i64 40] 3))
        have hz6 : (w6.alloc (.cells #[.int .i64 (-1), .int .i64 40] 3)).heap.size = w6.heap.size + 1 := by simp
        refine (pick_any 2 _ g A1 c1 by1 q' H6a.opn.1 (by omega) (by omega)).mono ?_
        rintro e w7 ⟨r7, rfl, hr7, S7, G7⟩
        have H7 := H6a.pick S7 G7
        obtain ⟨rn, rfl, hrn⟩ : ∃ rn : Nat, r7 = rn ∧ rn ≤ 1 := ⟨r7.toNat, by unfold Below0 at hr7; omega, by unfold Below0 at hr7; omega⟩
        clear hr7
        have hrn2 : (rn : Int) < 2 := by omega
        obtain ⟨d, hd', d1, d2⟩ := arr2 rn hrn
        have hd := gb_cell G7 (by have := H6.hg; show w6.heap.size ≠ g; omega) (hd' w6)
        have hbl7 := H7.box.lt
        go_wp2_with (
          at_builtin
          refine app_int _ rfl _ _ rfl (bx + 1) _ _ rfl H7.own d rfl (by omega) (by omega) ?_
          intro A8 c10 w9 o9 g10
          have b9 := app_below (Below.refl (bx + 1) w7) (Nat.le_refl _) (by omega) H7.own g10
          have H9 := H7.app o9 b9
          have P9 : w9.heap[w.heap.size]? = some (.cells #[.int .i64 0, .int .i64 0, .slice none 0 0] 40 (0, 0)) := (H9.opn.2.2.block w.heap.size (by omega)).trans P0
          have B9 : Below w.heap.size w w9 := Z0.trans (H9.opn.2.2.mono (by omega))
          obtain ⟨y0, y1, y2⟩ := id H9.box
          obtain ⟨s0, s1, s2, t0, t1, t2⟩ := blk3 P9)
        have KD := fun (v : World) (i : Nat) (u : Value) (R : Rd v A8 ((L ++ [d]).map (.int .i64))) => R.grownBelow (set_grownR v ⟨w.heap.size, i, none⟩ u) (fun _ ad ha e => by have := (H9.own.lt ad ha).1; have e' : ad.block = w.heap.size := (by simpa using e); omega)
        have R8 := KB _ 2 (.slice B xs.length k) (KB _ 1 (.int .i64 T) (KB _ 0 (.int .i64 W) H9.rd))
        have D8 := KD _ 2 (.slice B xs.length k) (KD _ 1 (.int .i64 T) (KD _ 0 (.int .i64 W) H9.own.rd.2))
        have B8 := ((B9.setCell (p := ⟨w.heap.size, 0, none⟩) (Nat.le_refl _) (.int .i64 W)).setCell (p := ⟨w.heap.size, 1, none⟩) (Nat.le_refl _) (.int .i64 T)).setCell (p := ⟨w.heap.size, 2, none⟩) (Nat.le_refl _) (.slice B xs.length k)
        have hlen : (L ++ [d]).length = L.length + 1 := by simp
        refine bodyPost_ret (v := .tuple #[.agg #[.int .i64 W, .int .i64 T, .slice B xs.length k], .slice A8 (L.length + 1) c10]) (by simp [results, Try.results33, go_sem, s0, s1, s2]) rfl ⟨W, T, xs, B, k, L ++ [d], A8, c10, by rw [hlen], R8, hl2, D8, by omega, H9.own.src, B8⟩
end Go.Proofs.Ytbplnjigoghboaa
