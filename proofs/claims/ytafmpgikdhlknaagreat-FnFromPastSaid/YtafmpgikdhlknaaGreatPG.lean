
/- FnCoupledAt: joined from PickV, DrawSome, DrawSmall. -/
import Derived.Test.YtafmpgikdhlknaaGreatDraw
import Derived.Test.YtafmpgikdhlknaaGreatCellApp
import Derived.Test.YtafmpgikdhlknaaGreatBoxes
import Derived.Test.YtafmpgikdhlknaaGreatGb
import Derived.Test.YtafmpgikdhlknaaGreatDrawTil
import Derived.Deep.Cut
import Derived.Deep.CutRange
/- Contract: pick, with the number that it hands back; some list of cells (l20Piece). -/
namespace Go.Proofs.YtafmpgikdhlknaaGreat
open Go.RowKit

/-- what pick hands back -/
def pickV (n : Int) (bytes : List Int) (p : Nat) : Int :=
  if n < 1 ∨ bytes.length = 0 then 0
  else if p < bytes.length then bytes.getD p 0 % n
  else bits .xor .i64 (bytes.getD (p % bytes.length) 0 * 131 + bytes.getD ((p * 7 + 3) % bytes.length) 0 * 1117 + (p : Int) * 29 + (p : Int) / (bytes.length : Int) * 53) ((bytes.getD (p % bytes.length) 0 * 131 + bytes.getD ((p * 7 + 3) % bytes.length) 0 * 1117 + (p : Int) * 29 + (p : Int) / (bytes.length : Int) * 53) / 64) % n
def PickedV (n : Int) (w : World) (g : Nat) (A : Option Addr) (c : Nat) (bytes : List Int) (p : Nat) (e : Ending) (w' : World) : Prop :=
  e = .returned (.int .i64 (pickV n bytes p)) ∧ RdS w' g A c bytes (p + 1) ∧ w.grownBy w' (some g)
theorem pickV_bd {n : Int} (bytes : List Int) (p : Nat) (h : 1 ≤ n) : 0 ≤ pickV n bytes p ∧ pickV n bytes p < n := by
  unfold pickV
  split
  · omega
  · split
    · exact ⟨Int.emod_nonneg _ (by omega), Int.emod_lt_of_pos _ (by omega)⟩
    · exact ⟨Int.emod_nonneg _ (by omega), Int.emod_lt_of_pos _ (by omega)⟩
set_option maxHeartbeats 1000000 in
theorem pickV_any (n : Int) (w : World) (g : Nat) (A : Option Addr) (c : Nat) (bytes : List Int) (p : Nat) (h : RdS w g A c bytes p) (hp : p ≤ 1000000000) (hnl : n ≤ 9223372036854775807) :
    Calls Tryz.prog 45 #[.pointer (some ⟨g, 0, none⟩), .int .i64 n] w (PickedV n w g A c bytes p) := by
  obtain ⟨c0, c1, f1⟩ := h.cells
  obtain ⟨hS, hG⟩ := h.next
  have hlb := h.2.2.2.1
  by_cases hn : n < 1
  · have HV := Lib.hid (show 0 = pickV n bytes p by unfold pickV; rw [if_pos (.inl hn)])
    go_enter Tryz.func45, Tryz.ntmps45
    go_wp2
    go_ret
    exact ⟨ret_i HV.out, hS, hG⟩
  · by_cases hl : bytes.length = 0
    · have hb : ((bytes.length : Int) == 0) = true := by simp [hl]
      have HV := Lib.hid (show 0 = pickV n bytes p by unfold pickV; rw [if_pos (.inr hl)])
      clear hl
      go_enter Tryz.func45, Tryz.ntmps45
      go_wp2
      go_ret
      exact ⟨ret_i HV.out, hS, hG⟩
    · have hb : ((bytes.length : Int) == 0) = false := by rw [beq_eq_false_iff_ne]; omega
      have hl1 : 0 < bytes.length := by omega
      by_cases hlt : p < bytes.length
      · obtain ⟨ad, rfl, hc⟩ := hS.2.1.atM hlt
        have hx := h.2.2.2.2 bytes[p] (List.getElem_mem hlt)
        have HV := Lib.hid (show bytes[p] % n = pickV n bytes p by
          unfold pickV; rw [if_neg (by omega), if_pos hlt]; simp [List.getD_eq_getElem?_getD, List.getElem?_eq_getElem hlt])
        generalize bytes[p] = x at hc hx HV
        obtain ⟨x0, x1⟩ := hx
        go_enter Tryz.func45, Tryz.ntmps45
        go_wp2
        go_ret
        exact ⟨ret_i HV.out, hS, hG⟩
      · obtain ⟨ad, rfl, hc1⟩ := hS.2.1.atM (k := p % bytes.length) (Nat.mod_lt _ hl1)
        obtain ⟨_, h', hc2⟩ := hS.2.1.atM (k := (p * 7 + 3) % bytes.length) (Nat.mod_lt _ hl1)
        obtain rfl := Option.some.inj h'
        have hx1 := h.2.2.2.2 _ (List.getElem_mem (Nat.mod_lt p hl1))
        have hx2 := h.2.2.2.2 _ (List.getElem_mem (Nat.mod_lt (p * 7 + 3) hl1))
        have HV := Lib.hid (show (bits .xor .i64 (bytes[p % bytes.length]'(Nat.mod_lt _ hl1) * 131 + bytes[(p * 7 + 3) % bytes.length]'(Nat.mod_lt _ hl1) * 1117 + (p : Int) * 29 + (p : Int) / (bytes.length : Int) * 53) ((bytes[p % bytes.length]'(Nat.mod_lt _ hl1) * 131 + bytes[(p * 7 + 3) % bytes.length]'(Nat.mod_lt _ hl1) * 1117 + (p : Int) * 29 + (p : Int) / (bytes.length : Int) * 53) / 64)) % n = pickV n bytes p by
          unfold pickV
          rw [if_neg (by omega), if_neg hlt]
          simp only [List.getD_eq_getElem?_getD, List.getElem?_eq_getElem (Nat.mod_lt p hl1), List.getElem?_eq_getElem (Nat.mod_lt (p * 7 + 3) hl1), Option.getD_some])
        generalize bytes[p % bytes.length]'(Nat.mod_lt _ hl1) = x at hc1 hx1 HV
        generalize bytes[(p * 7 + 3) % bytes.length]'(Nat.mod_lt _ hl1) = y at hc2 hx2 HV
        obtain ⟨x0, x1⟩ := hx1
        obtain ⟨y0, y1⟩ := hx2
        clear h'
        obtain ⟨q1, hq1⟩ : ∃ q, p % bytes.length = q := ⟨_, rfl⟩
        obtain ⟨q2, hq2⟩ : ∃ q, (p * 7 + 3) % bytes.length = q := ⟨_, rfl⟩
        have l1 : (q1 : Int) < (bytes.length : Int) := by have := Nat.mod_lt p hl1; omega
        have l2 : (q2 : Int) < (bytes.length : Int) := by have := Nat.mod_lt (p * 7 + 3) hl1; omega
        have d0 : 0 ≤ (p : Int) / (bytes.length : Int) := Int.ediv_nonneg (by omega) (by omega)
        have d1 : (p : Int) / (bytes.length : Int) ≤ p := Int.ediv_le_self _ (by omega)
        have t1 : (p : Int).tmod (bytes.length : Int) = (q1 : Int) := by rw [Int.tmod_eq_emod_of_nonneg (by omega), ← hq1]; omega
        have t2 : ((p : Int) * 7 + 3).tmod (bytes.length : Int) = (q2 : Int) := by rw [Int.tmod_eq_emod_of_nonneg (by omega), ← hq2, Int.natCast_emod]; rfl
        have t3 : (p : Int).tdiv (bytes.length : Int) = (p : Int) / (bytes.length : Int) := Int.tdiv_eq_ediv_of_nonneg (by omega)
        rw [hq1] at hc1
        rw [hq2] at hc2
        generalize (p : Int) / (bytes.length : Int) = d at d0 d1 t3 HV
        clear hq1 hq2
        have e1 : IntKind.i64.wrap (q1 : Int) = q1 := IntWalk.i64_in _ (by omega)
        have e2 : IntKind.i64.wrap ((p : Int) * 7) = (p : Int) * 7 := IntWalk.i64_in _ (by omega)
        have e3 : IntKind.i64.wrap ((p : Int) * 7 + 3) = (p : Int) * 7 + 3 := IntWalk.i64_in _ (by omega)
        have e4 : IntKind.i64.wrap (q2 : Int) = q2 := IntWalk.i64_in _ (by omega)
        have e5 : IntKind.i64.wrap x = x := IntWalk.i64_in _ (by omega)
        have e6 : IntKind.i64.wrap y = y := IntWalk.i64_in _ (by omega)
        have e7 : IntKind.i64.wrap (x * 131) = x * 131 := IntWalk.i64_in _ (by omega)
        have e8 : IntKind.i64.wrap (y * 1117) = y * 1117 := IntWalk.i64_in _ (by omega)
        have e9 : IntKind.i64.wrap (x * 131 + y * 1117) = x * 131 + y * 1117 := IntWalk.i64_in _ (by omega)
        have e10 : IntKind.i64.wrap ((p : Int) * 29) = (p : Int) * 29 := IntWalk.i64_in _ (by omega)
        have e11 : IntKind.i64.wrap (x * 131 + y * 1117 + (p : Int) * 29) = x * 131 + y * 1117 + (p : Int) * 29 := IntWalk.i64_in _ (by omega)
        have e12 : IntKind.i64.wrap d = d := IntWalk.i64_in _ (by omega)
        have e13 : IntKind.i64.wrap (d * 53) = d * 53 := IntWalk.i64_in _ (by omega)
        have e14 : IntKind.i64.wrap (x * 131 + y * 1117 + (p : Int) * 29 + d * 53) = x * 131 + y * 1117 + (p : Int) * 29 + d * 53 := IntWalk.i64_in _ (by omega)
        obtain ⟨z0, z1⟩ := xor_nonneg (x * 131 + y * 1117 + (p : Int) * 29 + d * 53) (by omega) (by omega)
        go_enter Tryz.func45, Tryz.ntmps45
        go_wp2_with fail
        go_quiet (fail)
        clear t1 t2 t3 e1 e2 e3 e4 e5 e6 e7 e8 e9 e10 e11 e12 e13 e14
        generalize hX : x * 131 + y * 1117 + (p : Int) * 29 + d * 53 = X at z0 z1 HV ⊢
        have X0 : 0 ≤ X := by omega
        have X1 : X ≤ 1000000000000 := by omega
        clear hX
        generalize hZ : bits .xor .i64 X (X / 64) = Z at z0 z1 HV
        go_wp2
        go_ret
        exact ⟨ret_i HV.out, hS, hG.os, hG.tape, hG.output, hG.size, hG.block⟩
end Go.Proofs.YtafmpgikdhlknaaGreat

/- Contract: the draw of a region that is often tiled or a box (l20Some). Written by wip/gen_some.py. -/
namespace Go.Proofs.YtafmpgikdhlknaaGreat
open Go.RowKit

/-- the state of l20Some -/
structure Rs (w : World) (g : Nat) (A : Option Addr) (c : Nat) (bytes : List Int) (q : Nat) (wr : World) : Prop where
  rds : RdS wr g A c bytes q
  res : wr.heap[w.heap.size]? = some (.cells #[.int .i64 0, .int .i64 0, .slice none 0 0] 25 (0, 0))
  gb : w.grownBy wr (some g)
  hg : g < w.heap.size
  ha : bytes ≠ [] → ∀ ad, A = some ad → ad.block < w.heap.size
section
variable {w wr w' : World} {g : Nat} {A : Option Addr} {c : Nat} {bytes : List Int} {q : Nat}
theorem Rs.pick (h : Rs w g A c bytes q wr) {q' : Nat} (S : RdS w' g A c bytes q') (G : wr.grownBy w' (some g)) : Rs w g A c bytes q' w' :=
  ⟨S, (G.block _ (heap_lt h.res) (by have := h.hg; simp; omega)).trans h.res, grownBy_trans' h.gb G, h.hg, h.ha⟩
theorem Rs.below (h : Rs w g A c bytes q wr) (hb : Below wr.heap.size wr w') : Rs w g A c bytes q w' :=
  ⟨h.rds.below (heap_lt h.rds.1) hb, (hb.block _ (heap_lt h.res)).trans h.res, gb_below h.gb hb, h.hg, h.ha⟩
theorem Rs.drew (h : Rs w g A c bytes q wr) : Rs w g A c bytes q wr.drew := ⟨h.rds, h.res, gb_drew h.gb, h.hg, h.ha⟩
theorem Rs.alloc (h : Rs w g A c bytes q wr) (o : Obj) : Rs w g A c bytes q (wr.alloc o) := h.below (bl_alloc (Below.refl _ _) o)
theorem Rs.done (h : Rs w g A c bytes q wr) {p more : Nat} {W T : Int} {B : Option Addr} {kb : Nat} {bs : List Bool} (hr : Rd wr B (bs.map .bool)) (hB : ∀ ad, B = some ad → w.heap.size < ad.block) (hn : bs.length ≤ 37) (hq : q ≤ p + more) :
    SomeReg g A c bytes p more w (.returned (.agg #[.int .i64 W, .int .i64 T, .slice B bs.length kb])) (((wr.setCell ⟨w.heap.size, 0, none⟩ (.int .i64 W)).setCell ⟨w.heap.size, 1, none⟩ (.int .i64 T)).setCell ⟨w.heap.size, 2, none⟩ (.slice B bs.length kb)) := by
  obtain ⟨o1, r1, k1⟩ := reg_set (bx := w.heap.size + 1) (i := 0) (u := .int .i64 W) (OwnB.nil wr _) h.rds h.gb h.ha h.hg (by omega)
  obtain ⟨o2, r2, k2⟩ := reg_set (i := 1) (u := .int .i64 T) o1 r1 k1 h.ha h.hg (by omega)
  obtain ⟨o3, r3, k3⟩ := reg_set (i := 2) (u := .slice B bs.length kb) o2 r2 k2 h.ha h.hg (by omega)
  refine ⟨W, T, bs, _, _, q, rfl, fun hne => ?_, hn, r3, hq, k3, fun ad ha => by have := hB ad ha; omega⟩
  obtain ⟨ad, h1, hc⟩ := hr hne
  have hlt := hB ad h1
  refine ⟨ad, h1, fun j u hu => ?_⟩
  have hab : (ad.add j).block = ad.block := by unfold Addr.add; split <;> rfl
  have hne2 : ∀ i, (⟨w.heap.size, i, none⟩ : Addr) ≠ ad.add j := fun i e => by
    have e2 := congrArg Addr.block e; rw [hab] at e2; simp at e2; omega
  rw [World.cell?_setCell_other _ _ _ _ (hne2 2), World.cell?_setCell_other _ _ _ _ (hne2 1), World.cell?_setCell_other _ _ _ _ (hne2 0)]
  exact hc j u hu
end
theorem arr5 (rn : Nat) (h : rn ≤ 4) : ∃ d : Int, (∀ w : World, (w.alloc (.cells #[.int .i64 2, .int .i64 3, .int .i64 4, .int .i64 4, .int .i64 6] 3)).cell? ⟨w.heap.size, rn, none⟩ = some (.int .i64 d)) ∧ 2 ≤ d ∧ d ≤ 6 := by
  rcases (show rn = 0 ∨ rn = 1 ∨ rn = 2 ∨ rn = 3 ∨ rn = 4 from by omega) with rfl | rfl | rfl | rfl | rfl
  · exact ⟨2, fun w => cell_of_row _ _ _ _ _ _ (heap_alloc_new w _), by omega, by omega⟩
  · exact ⟨3, fun w => cell_of_row _ _ _ _ _ _ (heap_alloc_new w _), by omega, by omega⟩
  · exact ⟨4, fun w => cell_of_row _ _ _ _ _ _ (heap_alloc_new w _), by omega, by omega⟩
  · exact ⟨4, fun w => cell_of_row _ _ _ _ _ _ (heap_alloc_new w _), by omega, by omega⟩
  · exact ⟨6, fun w => cell_of_row _ _ _ _ _ _ (heap_alloc_new w _), by omega, by omega⟩
theorem arr3 (rn : Nat) (h : rn ≤ 2) : ∃ d : Int, (∀ w : World, (w.alloc (.cells #[.int .i64 2, .int .i64 3, .int .i64 4] 3)).cell? ⟨w.heap.size, rn, none⟩ = some (.int .i64 d)) ∧ 2 ≤ d ∧ d ≤ 4 := by
  rcases (show rn = 0 ∨ rn = 1 ∨ rn = 2 from by omega) with rfl | rfl | rfl
  · exact ⟨2, fun w => cell_of_row _ _ _ _ _ _ (heap_alloc_new w _), by omega, by omega⟩
  · exact ⟨3, fun w => cell_of_row _ _ _ _ _ _ (heap_alloc_new w _), by omega, by omega⟩
  · exact ⟨4, fun w => cell_of_row _ _ _ _ _ _ (heap_alloc_new w _), by omega, by omega⟩
theorem box_len (W T : Int) : (boxB W T).length ≤ 24 := by
  unfold boxB
  split
  · rename_i h
    unfold boxOk at h; simp at h
    simp; omega
  · simp
theorem cell_al {w : World} {a : Addr} {v : Value} (h : w.cell? a = some v) (o : Obj) : (w.alloc o).cell? a = some v := by
  rw [World.cell?_alloc_lt w o a (World.block_lt_of_cell? w _ h)]; exact h
set_option maxRecDepth 100000 in
set_option maxHeartbeats 8000000 in
theorem some_any (n : Int) (w : World) (g : Nat) (A : Option Addr) (c : Nat) (bytes : List Int) (p : Nat) (h : RdS w g A c bytes p) (hp : p ≤ 40000) (hn0 : 0 ≤ n) (hn : n ≤ 1000) :
    Calls Tryz.prog 83 #[.pointer (some ⟨g, 0, none⟩), .int .i64 n] w (SomeReg g A c bytes p 90 w) := by
  have hg := heap_lt h.1
  have hA : bytes ≠ [] → ∀ ad, A = some ad → ad.block < w.heap.size := by
    intro hne ad ha
    obtain ⟨ad', ha', hc⟩ := h.2.1 (by simpa using hne)
    obtain rfl := Option.some.inj (ha.symm.trans ha')
    obtain ⟨x, ys, rfl⟩ := List.exists_cons_of_ne_nil hne
    have := World.block_lt_of_cell? w _ (hc 0 _ rfl)
    simpa [Addr.add] using this
  have H0 : Rs w g A c bytes p (w.alloc (.cells #[.int .i64 0, .int .i64 0, .slice none 0 0] 25)) :=
    ⟨h.below hg (bl_alloc (Below.refl _ _) _), heap_alloc_new w _, gb_below (World.grownBy.refl _ _) (bl_alloc (Below.refl _ _) _), hg, hA⟩
  go_enter Tryz.func83, Tryz.ntmps83
  go_wp2_with fail
  refine (pick_any 4 _ g A c bytes p H0.rds (by omega) (by omega)).mono ?_
  rintro e w1 ⟨r, rfl, hr, S1, G1⟩
  have H1 := H0.pick S1 G1
  have hr' : r = 0 ∨ r = 1 ∨ r = 2 ∨ r = 3 := by unfold Below0 at hr; omega
  clear hr H0
  have hreg : ∀ z, RdS z g A c bytes (p + 1) → Calls Tryz.prog 65 #[.pointer (some ⟨g, 0, none⟩), .int .i64 n] z (SomeReg g A c bytes (p + 1) 30 z) := fun z R => region_any n z g A c bytes (p + 1) R (by omega) hn0 hn
  have htil : ∀ z, RdS z g A c bytes (p + 1) → Calls Tryz.prog 119 #[.pointer (some ⟨g, 0, none⟩), .int .i64 n] z (SomeReg g A c bytes (p + 1) 80 z) := fun z R => tiled_any n z g A c bytes (p + 1) R (by omega) hn0 hn
  have HREG := Lib.hid hreg
  have HTIL := Lib.hid htil
  clear hreg htil
  rcases hr' with rfl | rfl | rfl | rfl
  · obtain ⟨rn1, e1, h1⟩ : ∃ rn : Nat, pickV 5 bytes (p + 1) = rn ∧ rn ≤ 4 := by
      have := pickV_bd (n := 5) bytes (p + 1) (by omega)
      exact ⟨(pickV 5 bytes (p + 1)).toNat, by omega, by omega⟩
    obtain ⟨rn2, e2, h2⟩ : ∃ rn : Nat, pickV 3 bytes (p + 1 + 1) = rn ∧ rn ≤ 2 := by
      have := pickV_bd (n := 3) bytes (p + 1 + 1) (by omega)
      exact ⟨(pickV 3 bytes (p + 1 + 1)).toNat, by omega, by omega⟩
    have p5 : ∀ z, RdS z g A c bytes (p + 1) → Calls Tryz.prog 45 #[.pointer (some ⟨g, 0, none⟩), .int .i64 5] z fun e w' => e = .returned (.int .i64 rn1) ∧ RdS w' g A c bytes (p + 1 + 1) ∧ z.grownBy w' (some g) := fun z R => by
      have := pickV_any 5 z g A c bytes (p + 1) R (by omega) (by omega)
      unfold PickedV at this; rw [e1] at this; exact this
    have p3 : ∀ z, RdS z g A c bytes (p + 1 + 1) → Calls Tryz.prog 45 #[.pointer (some ⟨g, 0, none⟩), .int .i64 3] z fun e w' => e = .returned (.int .i64 rn2) ∧ RdS w' g A c bytes (p + 1 + 1 + 1) ∧ z.grownBy w' (some g) := fun z R => by
      have := pickV_any 3 z g A c bytes (p + 1 + 1) R (by omega) (by omega)
      unfold PickedV at this; rw [e2] at this; exact this
    have P5 := Lib.hid p5
    have P3 := Lib.hid p3
    obtain ⟨d5, f5, a1, a2⟩ := arr5 rn1 h1
    obtain ⟨d3, f3, a3, a4⟩ := arr3 rn2 h2
    have F5 := Lib.hid f5
    have F3 := Lib.hid f3
    have SZ := Lib.hid (show ∀ (z : World) (o : Obj), (z.alloc o).heap.size = z.heap.size + 1 from fun z o => by simp)
    clear p5 p3 f5 f3 e1 e2
    have hr1 : (rn1 : Int) < 5 := by omega
    have hr2 : (rn2 : Int) < 3 := by omega
    have q0 : g < w1.heap.size := heap_lt H1.rds.1
    have q1 : g ≠ w1.heap.size := by omega
    have E5a : (w1.alloc (.cells #[.int .i64 2, .int .i64 3, .int .i64 4, .int .i64 4, .int .i64 6] 3)).cell? ⟨w1.heap.size, rn1, none⟩ = some (.int .i64 d5) := F5.out w1
    have E3a : (w1.alloc (.cells #[.int .i64 2, .int .i64 3, .int .i64 4] 3)).cell? ⟨w1.heap.size, rn2, none⟩ = some (.int .i64 d3) := F3.out w1
    have E5b : ((w1.alloc (.cells #[.int .i64 2, .int .i64 3, .int .i64 4] 3)).alloc (.cells #[.int .i64 2, .int .i64 3, .int .i64 4, .int .i64 4, .int .i64 6] 3)).cell? ⟨w1.heap.size + 1, rn1, none⟩ = some (.int .i64 d5) := by have := F5.out (w1.alloc (.cells #[.int .i64 2, .int .i64 3, .int .i64 4] 3)); rw [SZ.out] at this; exact this
    have E3b : ((w1.alloc (.cells #[.int .i64 2, .int .i64 3, .int .i64 4, .int .i64 4, .int .i64 6] 3)).alloc (.cells #[.int .i64 2, .int .i64 3, .int .i64 4] 3)).cell? ⟨w1.heap.size + 1, rn2, none⟩ = some (.int .i64 d3) := by have := F3.out (w1.alloc (.cells #[.int .i64 2, .int .i64 3, .int .i64 4, .int .i64 4, .int .i64 6] 3)); rw [SZ.out] at this; exact this
    go_wp2_with fail
    go_region_law? (
      go_simp
      first
        | (go_at_call 45
           first
             | (with_reducible refine (P5.out w1.drew H1.drew.rds).mono ?_
                rintro e w4 ⟨rfl, S4, G4⟩
                have H4 := H1.drew.pick S4 G4
                have q4 : g < w4.heap.size := by have := heap_lt H4.rds.1; exact this
                have q5 : g ≠ w4.heap.size := by omega
                have E5c := F5.out w4
                have E3c := F3.out w4
                have E5g := cell_al E5c (.cells #[.int .i64 2, .int .i64 3, .int .i64 4] 3)
                have E3g := cell_al E3c (.cells #[.int .i64 2, .int .i64 3, .int .i64 4, .int .i64 4, .int .i64 6] 3)
                try have F5r := cell_al F5p (.cells #[.int .i64 2, .int .i64 3, .int .i64 4] 3)
                try have F3r := cell_al F3p (.cells #[.int .i64 2, .int .i64 3, .int .i64 4, .int .i64 4, .int .i64 6] 3)
                have E5d := F5.out (w4.alloc (.cells #[.int .i64 2, .int .i64 3, .int .i64 4] 3))
                have E3d := F3.out (w4.alloc (.cells #[.int .i64 2, .int .i64 3, .int .i64 4, .int .i64 4, .int .i64 6] 3))
                rw [SZ.out] at E5d
                rw [SZ.out] at E3d)
             | (with_reducible refine (P5.out (w1.alloc (.cells #[.int .i64 2, .int .i64 3, .int .i64 4, .int .i64 4, .int .i64 6] 3)).drew (H1.alloc (.cells #[.int .i64 2, .int .i64 3, .int .i64 4, .int .i64 4, .int .i64 6] 3)).drew.rds).mono ?_
                rintro e w4 ⟨rfl, S4, G4⟩
                have H4 := (H1.alloc (.cells #[.int .i64 2, .int .i64 3, .int .i64 4, .int .i64 4, .int .i64 6] 3)).drew.pick S4 G4
                have q4 : g < w4.heap.size := by have := heap_lt H4.rds.1; exact this
                have q5 : g ≠ w4.heap.size := by omega
                have F5p := gb_cell G4 (by omega) E5a
                have zF5p := World.block_lt_of_cell? _ _ F5p
                dsimp only at zF5p
                have E5c := F5.out w4
                have E3c := F3.out w4
                have E5g := cell_al E5c (.cells #[.int .i64 2, .int .i64 3, .int .i64 4] 3)
                have E3g := cell_al E3c (.cells #[.int .i64 2, .int .i64 3, .int .i64 4, .int .i64 4, .int .i64 6] 3)
                try have F5r := cell_al F5p (.cells #[.int .i64 2, .int .i64 3, .int .i64 4] 3)
                try have F3r := cell_al F3p (.cells #[.int .i64 2, .int .i64 3, .int .i64 4, .int .i64 4, .int .i64 6] 3)
                have E5d := F5.out (w4.alloc (.cells #[.int .i64 2, .int .i64 3, .int .i64 4] 3))
                have E3d := F3.out (w4.alloc (.cells #[.int .i64 2, .int .i64 3, .int .i64 4, .int .i64 4, .int .i64 6] 3))
                rw [SZ.out] at E5d
                rw [SZ.out] at E3d)
             | (with_reducible refine (P5.out (w1.alloc (.cells #[.int .i64 2, .int .i64 3, .int .i64 4] 3)).drew (H1.alloc (.cells #[.int .i64 2, .int .i64 3, .int .i64 4] 3)).drew.rds).mono ?_
                rintro e w4 ⟨rfl, S4, G4⟩
                have H4 := (H1.alloc (.cells #[.int .i64 2, .int .i64 3, .int .i64 4] 3)).drew.pick S4 G4
                have q4 : g < w4.heap.size := by have := heap_lt H4.rds.1; exact this
                have q5 : g ≠ w4.heap.size := by omega
                have F3p := gb_cell G4 (by omega) E3a
                have zF3p := World.block_lt_of_cell? _ _ F3p
                dsimp only at zF3p
                have E5c := F5.out w4
                have E3c := F3.out w4
                have E5g := cell_al E5c (.cells #[.int .i64 2, .int .i64 3, .int .i64 4] 3)
                have E3g := cell_al E3c (.cells #[.int .i64 2, .int .i64 3, .int .i64 4, .int .i64 4, .int .i64 6] 3)
                try have F5r := cell_al F5p (.cells #[.int .i64 2, .int .i64 3, .int .i64 4] 3)
                try have F3r := cell_al F3p (.cells #[.int .i64 2, .int .i64 3, .int .i64 4, .int .i64 4, .int .i64 6] 3)
                have E5d := F5.out (w4.alloc (.cells #[.int .i64 2, .int .i64 3, .int .i64 4] 3))
                have E3d := F3.out (w4.alloc (.cells #[.int .i64 2, .int .i64 3, .int .i64 4, .int .i64 4, .int .i64 6] 3))
                rw [SZ.out] at E5d
                rw [SZ.out] at E3d)
             | (with_reducible refine (P5.out ((w1.alloc (.cells #[.int .i64 2, .int .i64 3, .int .i64 4, .int .i64 4, .int .i64 6] 3)).alloc (.cells #[.int .i64 2, .int .i64 3, .int .i64 4] 3)).drew ((H1.alloc (.cells #[.int .i64 2, .int .i64 3, .int .i64 4, .int .i64 4, .int .i64 6] 3)).alloc (.cells #[.int .i64 2, .int .i64 3, .int .i64 4] 3)).drew.rds).mono ?_
                rintro e w4 ⟨rfl, S4, G4⟩
                have H4 := ((H1.alloc (.cells #[.int .i64 2, .int .i64 3, .int .i64 4, .int .i64 4, .int .i64 6] 3)).alloc (.cells #[.int .i64 2, .int .i64 3, .int .i64 4] 3)).drew.pick S4 G4
                have q4 : g < w4.heap.size := by have := heap_lt H4.rds.1; exact this
                have q5 : g ≠ w4.heap.size := by omega
                have F5p := gb_cell G4 (by omega) (cell_al E5a (.cells #[.int .i64 2, .int .i64 3, .int .i64 4] 3))
                have zF5p := World.block_lt_of_cell? _ _ F5p
                dsimp only at zF5p
                have F3p := gb_cell G4 (by omega) E3b
                have zF3p := World.block_lt_of_cell? _ _ F3p
                dsimp only at zF3p
                have E5c := F5.out w4
                have E3c := F3.out w4
                have E5g := cell_al E5c (.cells #[.int .i64 2, .int .i64 3, .int .i64 4] 3)
                have E3g := cell_al E3c (.cells #[.int .i64 2, .int .i64 3, .int .i64 4, .int .i64 4, .int .i64 6] 3)
                try have F5r := cell_al F5p (.cells #[.int .i64 2, .int .i64 3, .int .i64 4] 3)
                try have F3r := cell_al F3p (.cells #[.int .i64 2, .int .i64 3, .int .i64 4, .int .i64 4, .int .i64 6] 3)
                have E5d := F5.out (w4.alloc (.cells #[.int .i64 2, .int .i64 3, .int .i64 4] 3))
                have E3d := F3.out (w4.alloc (.cells #[.int .i64 2, .int .i64 3, .int .i64 4, .int .i64 4, .int .i64 6] 3))
                rw [SZ.out] at E5d
                rw [SZ.out] at E3d)
             | (with_reducible refine (P5.out ((w1.alloc (.cells #[.int .i64 2, .int .i64 3, .int .i64 4] 3)).alloc (.cells #[.int .i64 2, .int .i64 3, .int .i64 4, .int .i64 4, .int .i64 6] 3)).drew ((H1.alloc (.cells #[.int .i64 2, .int .i64 3, .int .i64 4] 3)).alloc (.cells #[.int .i64 2, .int .i64 3, .int .i64 4, .int .i64 4, .int .i64 6] 3)).drew.rds).mono ?_
                rintro e w4 ⟨rfl, S4, G4⟩
                have H4 := ((H1.alloc (.cells #[.int .i64 2, .int .i64 3, .int .i64 4] 3)).alloc (.cells #[.int .i64 2, .int .i64 3, .int .i64 4, .int .i64 4, .int .i64 6] 3)).drew.pick S4 G4
                have q4 : g < w4.heap.size := by have := heap_lt H4.rds.1; exact this
                have q5 : g ≠ w4.heap.size := by omega
                have F3p := gb_cell G4 (by omega) (cell_al E3a (.cells #[.int .i64 2, .int .i64 3, .int .i64 4, .int .i64 4, .int .i64 6] 3))
                have zF3p := World.block_lt_of_cell? _ _ F3p
                dsimp only at zF3p
                have F5p := gb_cell G4 (by omega) E5b
                have zF5p := World.block_lt_of_cell? _ _ F5p
                dsimp only at zF5p
                have E5c := F5.out w4
                have E3c := F3.out w4
                have E5g := cell_al E5c (.cells #[.int .i64 2, .int .i64 3, .int .i64 4] 3)
                have E3g := cell_al E3c (.cells #[.int .i64 2, .int .i64 3, .int .i64 4, .int .i64 4, .int .i64 6] 3)
                try have F5r := cell_al F5p (.cells #[.int .i64 2, .int .i64 3, .int .i64 4] 3)
                try have F3r := cell_al F3p (.cells #[.int .i64 2, .int .i64 3, .int .i64 4, .int .i64 4, .int .i64 6] 3)
                have E5d := F5.out (w4.alloc (.cells #[.int .i64 2, .int .i64 3, .int .i64 4] 3))
                have E3d := F3.out (w4.alloc (.cells #[.int .i64 2, .int .i64 3, .int .i64 4, .int .i64 4, .int .i64 6] 3))
                rw [SZ.out] at E5d
                rw [SZ.out] at E3d)
             | (with_reducible refine (P3.out w4 H4.rds).mono ?_
                rintro e w6 ⟨rfl, S6, G6⟩
                have H6 := H4.pick S6 G6
                try (have F5q := gb_cell G6 (by omega) F5p
                     have zF5q := World.block_lt_of_cell? _ _ F5q
                     dsimp only at zF5q)
                try (have F3q := gb_cell G6 (by omega) F3p
                     have zF3q := World.block_lt_of_cell? _ _ F3q
                     dsimp only at zF3q)
                have E5e := F5.out w6
                have E3e := F3.out w6
                have E5h := cell_al E5e (.cells #[.int .i64 2, .int .i64 3, .int .i64 4] 3)
                have E3h := cell_al E3e (.cells #[.int .i64 2, .int .i64 3, .int .i64 4, .int .i64 4, .int .i64 6] 3)
                try have F5s := cell_al F5q (.cells #[.int .i64 2, .int .i64 3, .int .i64 4] 3)
                try have F3s := cell_al F3q (.cells #[.int .i64 2, .int .i64 3, .int .i64 4, .int .i64 4, .int .i64 6] 3)
                have E5f := F5.out (w6.alloc (.cells #[.int .i64 2, .int .i64 3, .int .i64 4] 3))
                have E3f := F3.out (w6.alloc (.cells #[.int .i64 2, .int .i64 3, .int .i64 4, .int .i64 4, .int .i64 6] 3))
                rw [SZ.out] at E5f
                rw [SZ.out] at E3f)
             | (with_reducible refine (P3.out (w4.alloc (.cells #[.int .i64 2, .int .i64 3, .int .i64 4, .int .i64 4, .int .i64 6] 3)) (H4.alloc (.cells #[.int .i64 2, .int .i64 3, .int .i64 4, .int .i64 4, .int .i64 6] 3)).rds).mono ?_
                rintro e w6 ⟨rfl, S6, G6⟩
                have H6 := (H4.alloc (.cells #[.int .i64 2, .int .i64 3, .int .i64 4, .int .i64 4, .int .i64 6] 3)).pick S6 G6
                try (have F5q := gb_cell G6 (by omega) E5c
                     have zF5q := World.block_lt_of_cell? _ _ F5q
                     dsimp only at zF5q)
                try (have F3q := gb_cell G6 (by omega) (cell_al F3p (.cells #[.int .i64 2, .int .i64 3, .int .i64 4, .int .i64 4, .int .i64 6] 3))
                     have zF3q := World.block_lt_of_cell? _ _ F3q
                     dsimp only at zF3q)
                have E5e := F5.out w6
                have E3e := F3.out w6
                have E5h := cell_al E5e (.cells #[.int .i64 2, .int .i64 3, .int .i64 4] 3)
                have E3h := cell_al E3e (.cells #[.int .i64 2, .int .i64 3, .int .i64 4, .int .i64 4, .int .i64 6] 3)
                try have F5s := cell_al F5q (.cells #[.int .i64 2, .int .i64 3, .int .i64 4] 3)
                try have F3s := cell_al F3q (.cells #[.int .i64 2, .int .i64 3, .int .i64 4, .int .i64 4, .int .i64 6] 3)
                have E5f := F5.out (w6.alloc (.cells #[.int .i64 2, .int .i64 3, .int .i64 4] 3))
                have E3f := F3.out (w6.alloc (.cells #[.int .i64 2, .int .i64 3, .int .i64 4, .int .i64 4, .int .i64 6] 3))
                rw [SZ.out] at E5f
                rw [SZ.out] at E3f)
             | (with_reducible refine (P3.out (w4.alloc (.cells #[.int .i64 2, .int .i64 3, .int .i64 4] 3)) (H4.alloc (.cells #[.int .i64 2, .int .i64 3, .int .i64 4] 3)).rds).mono ?_
                rintro e w6 ⟨rfl, S6, G6⟩
                have H6 := (H4.alloc (.cells #[.int .i64 2, .int .i64 3, .int .i64 4] 3)).pick S6 G6
                try (have F3q := gb_cell G6 (by omega) E3c
                     have zF3q := World.block_lt_of_cell? _ _ F3q
                     dsimp only at zF3q)
                try (have F5q := gb_cell G6 (by omega) (cell_al F5p (.cells #[.int .i64 2, .int .i64 3, .int .i64 4] 3))
                     have zF5q := World.block_lt_of_cell? _ _ F5q
                     dsimp only at zF5q)
                have E5e := F5.out w6
                have E3e := F3.out w6
                have E5h := cell_al E5e (.cells #[.int .i64 2, .int .i64 3, .int .i64 4] 3)
                have E3h := cell_al E3e (.cells #[.int .i64 2, .int .i64 3, .int .i64 4, .int .i64 4, .int .i64 6] 3)
                try have F5s := cell_al F5q (.cells #[.int .i64 2, .int .i64 3, .int .i64 4] 3)
                try have F3s := cell_al F3q (.cells #[.int .i64 2, .int .i64 3, .int .i64 4, .int .i64 4, .int .i64 6] 3)
                have E5f := F5.out (w6.alloc (.cells #[.int .i64 2, .int .i64 3, .int .i64 4] 3))
                have E3f := F3.out (w6.alloc (.cells #[.int .i64 2, .int .i64 3, .int .i64 4, .int .i64 4, .int .i64 6] 3))
                rw [SZ.out] at E5f
                rw [SZ.out] at E3f)
             | (with_reducible refine (P3.out ((w4.alloc (.cells #[.int .i64 2, .int .i64 3, .int .i64 4, .int .i64 4, .int .i64 6] 3)).alloc (.cells #[.int .i64 2, .int .i64 3, .int .i64 4] 3)) ((H4.alloc (.cells #[.int .i64 2, .int .i64 3, .int .i64 4, .int .i64 4, .int .i64 6] 3)).alloc (.cells #[.int .i64 2, .int .i64 3, .int .i64 4] 3)).rds).mono ?_
                rintro e w6 ⟨rfl, S6, G6⟩
                have H6 := ((H4.alloc (.cells #[.int .i64 2, .int .i64 3, .int .i64 4, .int .i64 4, .int .i64 6] 3)).alloc (.cells #[.int .i64 2, .int .i64 3, .int .i64 4] 3)).pick S6 G6
                try (have F5q := gb_cell G6 (by omega) (cell_al E5c (.cells #[.int .i64 2, .int .i64 3, .int .i64 4] 3))
                     have zF5q := World.block_lt_of_cell? _ _ F5q
                     dsimp only at zF5q)
                try (have F3q := gb_cell G6 (by omega) E3d
                     have zF3q := World.block_lt_of_cell? _ _ F3q
                     dsimp only at zF3q)
                have E5e := F5.out w6
                have E3e := F3.out w6
                have E5h := cell_al E5e (.cells #[.int .i64 2, .int .i64 3, .int .i64 4] 3)
                have E3h := cell_al E3e (.cells #[.int .i64 2, .int .i64 3, .int .i64 4, .int .i64 4, .int .i64 6] 3)
                try have F5s := cell_al F5q (.cells #[.int .i64 2, .int .i64 3, .int .i64 4] 3)
                try have F3s := cell_al F3q (.cells #[.int .i64 2, .int .i64 3, .int .i64 4, .int .i64 4, .int .i64 6] 3)
                have E5f := F5.out (w6.alloc (.cells #[.int .i64 2, .int .i64 3, .int .i64 4] 3))
                have E3f := F3.out (w6.alloc (.cells #[.int .i64 2, .int .i64 3, .int .i64 4, .int .i64 4, .int .i64 6] 3))
                rw [SZ.out] at E5f
                rw [SZ.out] at E3f)
             | (with_reducible refine (P3.out ((w4.alloc (.cells #[.int .i64 2, .int .i64 3, .int .i64 4] 3)).alloc (.cells #[.int .i64 2, .int .i64 3, .int .i64 4, .int .i64 4, .int .i64 6] 3)) ((H4.alloc (.cells #[.int .i64 2, .int .i64 3, .int .i64 4] 3)).alloc (.cells #[.int .i64 2, .int .i64 3, .int .i64 4, .int .i64 4, .int .i64 6] 3)).rds).mono ?_
                rintro e w6 ⟨rfl, S6, G6⟩
                have H6 := ((H4.alloc (.cells #[.int .i64 2, .int .i64 3, .int .i64 4] 3)).alloc (.cells #[.int .i64 2, .int .i64 3, .int .i64 4, .int .i64 4, .int .i64 6] 3)).pick S6 G6
                try (have F3q := gb_cell G6 (by omega) (cell_al E3c (.cells #[.int .i64 2, .int .i64 3, .int .i64 4, .int .i64 4, .int .i64 6] 3))
                     have zF3q := World.block_lt_of_cell? _ _ F3q
                     dsimp only at zF3q)
                try (have F5q := gb_cell G6 (by omega) E5d
                     have zF5q := World.block_lt_of_cell? _ _ F5q
                     dsimp only at zF5q)
                have E5e := F5.out w6
                have E3e := F3.out w6
                have E5h := cell_al E5e (.cells #[.int .i64 2, .int .i64 3, .int .i64 4] 3)
                have E3h := cell_al E3e (.cells #[.int .i64 2, .int .i64 3, .int .i64 4, .int .i64 4, .int .i64 6] 3)
                try have F5s := cell_al F5q (.cells #[.int .i64 2, .int .i64 3, .int .i64 4] 3)
                try have F3s := cell_al F3q (.cells #[.int .i64 2, .int .i64 3, .int .i64 4, .int .i64 4, .int .i64 6] 3)
                have E5f := F5.out (w6.alloc (.cells #[.int .i64 2, .int .i64 3, .int .i64 4] 3))
                have E3f := F3.out (w6.alloc (.cells #[.int .i64 2, .int .i64 3, .int .i64 4, .int .i64 4, .int .i64 6] 3))
                rw [SZ.out] at E5f
                rw [SZ.out] at E3f))
        | (go_at_call 63
           with_reducible refine (sRegionBox_any d5 d3 _).mono ?_
           rintro e w7 ⟨B, kb, rfl, o7, b7⟩
           have H7 : Rs w g A c bytes (p + 1 + 1 + 1) w7 := by first | exact H6.below b7 | exact (H6.alloc (.cells #[.int .i64 2, .int .i64 3, .int .i64 4, .int .i64 4, .int .i64 6] 3)).below b7 | exact (H6.alloc (.cells #[.int .i64 2, .int .i64 3, .int .i64 4] 3)).below b7 | exact ((H6.alloc (.cells #[.int .i64 2, .int .i64 3, .int .i64 4, .int .i64 4, .int .i64 6] 3)).alloc (.cells #[.int .i64 2, .int .i64 3, .int .i64 4] 3)).below b7 | exact ((H6.alloc (.cells #[.int .i64 2, .int .i64 3, .int .i64 4] 3)).alloc (.cells #[.int .i64 2, .int .i64 3, .int .i64 4, .int .i64 4, .int .i64 6] 3)).below b7
           have hB : ∀ ad, B = some ad → w.heap.size < ad.block := fun ad ha => by have t := o7.1 ad ha; have := heap_lt H6.res; (try simp at t); omega
           obtain ⟨s0, s1, s2, t0, t1, t2⟩ := blk3 H7.res))
    all_goals (
      go_wp2_with fail
      refine bodyPost_ret (v := .agg #[.int .i64 (boxW d5 d3), .int .i64 (boxT d5 d3), .slice B (boxB d5 d3).length kb]) (by simp [results, Tryz.results83, go_sem, s0, s1, s2]) rfl ?_
      exact H7.done o7.rd hB (by have := box_len d5 d3; omega) (by omega))
  · go_wp2_with fail
    refine (HREG.out _ H1.rds).mono ?_
    rintro e w2 ⟨W, T, bs, B, kb, q, rfl, hrd, hl37, S2, hq, G2, hB⟩
    have z1 := heap_lt H1.res
    have H2 := H1.pick S2 G2
    obtain ⟨s0, s1, s2, t0, t1, t2⟩ := blk3 H2.res
    have hB' : ∀ ad, B = some ad → w.heap.size < ad.block := fun ad ha => by have := hB ad ha; omega
    go_wp2_with fail
    refine bodyPost_ret (v := .agg #[.int .i64 W, .int .i64 T, .slice B bs.length kb]) (by simp [results, Tryz.results83, go_sem, s0, s1, s2]) rfl ?_
    exact H2.done hrd hB' hl37 (by omega)
  all_goals (
    go_wp2_with fail
    refine (HTIL.out _ H1.rds).mono ?_
    rintro e w2 ⟨W, T, bs, B, kb, q, rfl, hrd, hl37, S2, hq, G2, hB⟩
    have z1 := heap_lt H1.res
    have H2 := H1.pick S2 G2
    obtain ⟨s0, s1, s2, t0, t1, t2⟩ := blk3 H2.res
    have hB' : ∀ ad, B = some ad → w.heap.size < ad.block := fun ad ha => by have := hB ad ha; omega
    go_wp2_with fail
    refine bodyPost_ret (v := .agg #[.int .i64 W, .int .i64 T, .slice B bs.length kb]) (by simp [results, Tryz.results83, go_sem, s0, s1, s2]) rfl ?_
    exact H2.done hrd hB' hl37 (by omega))
end Go.Proofs.YtafmpgikdhlknaaGreat

/- Contracts: the draw of a small region (l20Small), and that CellsMany ends with some number. Written by wip/gen_small.py. -/
namespace Go.Proofs.YtafmpgikdhlknaaGreat
open Go.RowKit

set_option maxHeartbeats 1000000 in
theorem l1Count_int (A : Option Addr) (c : Nat) (bs : List Bool) (w : World) (hr : Rd w A (bs.map .bool)) (hn : bs.length ≤ maxLen) :
    Calls Tryz.prog 132 #[.slice A bs.length c] w fun e w' => ∃ z : Int, e = .returned (.int .i64 z) ∧ w = w' := by
  unfold maxLen at hn
  go_enter Tryz.func132, Tryz.ntmps132
  go_wp2_with fail
  go_loopw [3, 4] (fun s i wr => ∃ (k : Nat) (z : Int), k ≤ bs.length ∧ s = .int .i64 z ∧ i = .int .i64 (k : Int) ∧ w = wr) (fun _ i _ => bs.length - (intOf i).toNat)
  case atStart => exact ⟨0, 0, Nat.zero_le _, rfl, rfl, rfl⟩
  case round =>
    obtain ⟨k, z, hk, rfl, rfl, rfl⟩ := hrel
    by_cases hlt : k < bs.length
    · have hkI : (k : Int) < (bs.length : Int) := by omega
      obtain ⟨ad, rfl, cx⟩ := hr.atM hlt
      generalize bs[k] = b at *
      cases b with
      | true =>
        go_wp2_with fail
        go_roundw
        case rel => exact ⟨k + 1, _, by omega, rfl, by go_num, trivial⟩
        case measure => simp [intOf]; omega
      | false =>
        go_wp2_with fail
        go_roundw
        case rel => exact ⟨k + 1, _, by omega, rfl, by go_num, trivial⟩
        case measure => simp [intOf]; omega
    · obtain rfl : k = bs.length := by omega
      go_wp2_with fail
      go_ret
      exact ⟨z, rfl, rfl⟩
set_option maxHeartbeats 1000000 in
theorem sCellsMany_int (W T : Int) (A : Option Addr) (c : Nat) (bs : List Bool) (w : World) (hr : Rd w A (bs.map .bool)) (hn : bs.length ≤ maxLen) :
    Calls Tryz.prog 98 #[.agg #[.int .i64 W, .int .i64 T, .slice A bs.length c]] w fun e w' => ∃ z : Int, e = .returned (.int .i64 z) ∧ Below w.heap.size w w' := by
  have X0 := C3.new w (.int .i64 W) (.int .i64 T) (.slice A bs.length c) 25
  cases hv : validB W T bs with
  | true =>
    go_enter Tryz.func98, Tryz.ntmps98
    go_wp2_with fail
    refine (sRegionValid_any _ _ _ _ _ _ (hr.alloc _) hn).mono ?_
    rintro e w1 ⟨rfl, b1⟩
    rw [hv]
    have B1 := bl_go (bl_alloc (Below.refl w.heap.size w) _) b1
    obtain ⟨x0, x1, x2⟩ := X0.belo b1
    go_wp2_with fail
    refine (l1Count_int _ _ _ _ (hr.belo B1) hn).mono ?_
    rintro e w' ⟨z, rfl, rfl⟩
    go_wp2
    go_ret
    exact ⟨z, rfl, B1⟩
  | false =>
    go_enter Tryz.func98, Tryz.ntmps98
    go_wp2_with fail
    refine (sRegionValid_any _ _ _ _ _ _ (hr.alloc _) hn).mono ?_
    rintro e w1 ⟨rfl, b1⟩
    rw [hv]
    have B1 := bl_go (bl_alloc (Below.refl w.heap.size w) _) b1
    go_wp2
    go_ret
    exact ⟨-1, rfl, B1⟩
theorem arr4 (rn : Nat) (h : rn ≤ 3) : ∃ d : Int, (∀ w : World, (w.alloc (.cells #[.int .i64 2, .int .i64 4, .int .i64 4, .int .i64 5] 3)).cell? ⟨w.heap.size, rn, none⟩ = some (.int .i64 d)) ∧ 2 ≤ d ∧ d ≤ 6 := by
  rcases (show rn = 0 ∨ rn = 1 ∨ rn = 2 ∨ rn = 3 from by omega) with rfl | rfl | rfl | rfl
  · exact ⟨2, fun w => cell_of_row _ _ _ _ _ _ (heap_alloc_new w _), by omega, by omega⟩
  · exact ⟨4, fun w => cell_of_row _ _ _ _ _ _ (heap_alloc_new w _), by omega, by omega⟩
  · exact ⟨4, fun w => cell_of_row _ _ _ _ _ _ (heap_alloc_new w _), by omega, by omega⟩
  · exact ⟨5, fun w => cell_of_row _ _ _ _ _ _ (heap_alloc_new w _), by omega, by omega⟩
theorem arr2 (rn : Nat) (h : rn ≤ 1) : ∃ d : Int, (∀ w : World, (w.alloc (.cells #[.int .i64 2, .int .i64 3] 3)).cell? ⟨w.heap.size, rn, none⟩ = some (.int .i64 d)) ∧ 2 ≤ d ∧ d ≤ 4 := by
  rcases (show rn = 0 ∨ rn = 1 from by omega) with rfl | rfl
  · exact ⟨2, fun w => cell_of_row _ _ _ _ _ _ (heap_alloc_new w _), by omega, by omega⟩
  · exact ⟨3, fun w => cell_of_row _ _ _ _ _ _ (heap_alloc_new w _), by omega, by omega⟩
set_option maxRecDepth 100000 in
set_option maxHeartbeats 8000000 in
theorem small_any (n : Int) (w : World) (g : Nat) (A : Option Addr) (c : Nat) (bytes : List Int) (p : Nat) (h : RdS w g A c bytes p) (hp : p ≤ 30000) (hn0 : 0 ≤ n) (hn : n ≤ 1000) :
    Calls Tryz.prog 60 #[.pointer (some ⟨g, 0, none⟩), .int .i64 n] w (SomeReg g A c bytes p 95 w) := by
  have hg := heap_lt h.1
  have hA : bytes ≠ [] → ∀ ad, A = some ad → ad.block < w.heap.size := by
    intro hne ad ha
    obtain ⟨ad', ha', hc⟩ := h.2.1 (by simpa using hne)
    obtain rfl := Option.some.inj (ha.symm.trans ha')
    obtain ⟨x, ys, rfl⟩ := List.exists_cons_of_ne_nil hne
    have := World.block_lt_of_cell? w _ (hc 0 _ rfl)
    simpa [Addr.add] using this
  have H0 : Rs w g A c bytes p (w.alloc (.cells #[.int .i64 0, .int .i64 0, .slice none 0 0] 25)) :=
    ⟨h.below hg (bl_alloc (Below.refl _ _) _), heap_alloc_new w _, gb_below (World.grownBy.refl _ _) (bl_alloc (Below.refl _ _) _), hg, hA⟩
  go_enter Tryz.func60, Tryz.ntmps60
  go_wp2_with fail
  have hsa : (w.alloc (.cells #[.int .i64 0, .int .i64 0, .slice none 0 0] 25)).heap.size = w.heap.size + 1 := by simp
  generalize w.alloc (.cells #[.int .i64 0, .int .i64 0, .slice none 0 0] 25) = wa at *
  refine (some_any n _ g A c bytes p H0.rds (by omega) hn0 hn).mono ?_
  rintro e w1 ⟨W, T, bs, B, kb, q, rfl, hrd, hl37, S1, hq, G1, hB⟩
  have hB1 : ∀ ad, B = some ad → w.heap.size < ad.block := fun ad ha => by have := hB ad ha; omega
  have H1 := (H0.pick S1 G1).alloc (.cells #[.int .i64 W, .int .i64 T, .slice B bs.length kb] 25)
  have R1 := hrd.alloc (.cells #[.int .i64 W, .int .i64 T, .slice B bs.length kb] 25)
  have X1 : (w1.alloc (.cells #[.int .i64 W, .int .i64 T, .slice B bs.length kb] 25)).heap[w1.heap.size]? = some (.cells #[.int .i64 W, .int .i64 T, .slice B bs.length kb] 25 (0, 0)) := heap_alloc_new w1 _
  have hbx : w.heap.size < w1.heap.size := by have := heap_lt (H0.pick S1 G1).res; omega
  have hB1' : ∀ ad, B = some ad → g ≠ ad.block := fun ad ha => by have := hB1 ad ha; omega
  have hmx : bs.length ≤ maxLen := by unfold maxLen; omega
  clear H0 S1 G1 hrd hB
  go_upto_region 2 with fail
  generalize w1.alloc (.cells #[.int .i64 W, .int .i64 T, .slice B bs.length kb] 25) = wb at *
  generalize w1.heap.size = bx at *
  obtain ⟨x0, x1, x2, y0, y1, y2⟩ := blk3 X1
  go_cut [16] from 6 to 29 (fun s16 wx => ∃ (cb : Bool) (q' : Nat), s16 = .bool cb ∧ q' ≤ p + 91 ∧ Rs w g A c bytes q' wx ∧ Rd wx B (bs.map .bool) ∧ wx.heap[bx]? = some (.cells #[.int .i64 W, .int .i64 T, .slice B bs.length kb] 25 (0, 0)))
  case first =>
    go_wp2_with fail
    refine (sCellsMany_int W T B kb bs _ R1 hmx).mono ?_
    rintro e w2 ⟨z, rfl, b2⟩
    have H2 := H1.below b2
    have R2 := R1.belo b2
    have X2 := (b2.block bx (heap_lt X1)).trans X1
    clear H1 R1 X1 b2 x0 x1 x2 y0 y1 y2
    obtain ⟨cb, hcb⟩ : ∃ cb, decide (16 < z) = cb := ⟨_, rfl⟩
    cases cb with
    | false =>
      go_wp2_with fail
      go_meet
      exact ⟨false, q, rfl, by omega, H2, R2, X2⟩
    | true =>
      go_wp2_with fail
      refine (pick_any 12 _ g A c bytes q H2.rds (by omega) (by omega)).mono ?_
      rintro e w3 ⟨r, rfl, hr, S3, G3⟩
      have H3 := H2.pick S3 G3
      have R3 := R2.grownBelow G3 (fun _ ad ha e => hB1' ad ha (by have e' : ad.block = g := (by simpa using e); exact e'.symm))
      have X3 := (G3.block bx (heap_lt X2) (by simp; omega)).trans X2
      clear H2 S3 G3 R2 X2
      go_wp2_with fail
      go_meet
      exact ⟨_, q + 1, rfl, by omega, H3, R3, X3⟩
  case rest =>
    clear H1 R1 X1 x0 x1 x2 y0 y1 y2 hq
    obtain ⟨cb, q, rfl, hq, H1, R1, X1⟩ := hcut
    obtain ⟨w1, hw1⟩ : ∃ w1 : World, w1 = wc := ⟨_, rfl⟩
    subst hw1
    cases cb with
    | true =>
        skip
        obtain ⟨rn1, e1, h1⟩ : ∃ rn : Nat, pickV 4 bytes q = rn ∧ rn ≤ 3 := by
          have := pickV_bd (n := 4) bytes q (by omega)
          exact ⟨(pickV 4 bytes q).toNat, by omega, by omega⟩
        obtain ⟨rn2, e2, h2⟩ : ∃ rn : Nat, pickV 2 bytes (q + 1) = rn ∧ rn ≤ 1 := by
          have := pickV_bd (n := 2) bytes (q + 1) (by omega)
          exact ⟨(pickV 2 bytes (q + 1)).toNat, by omega, by omega⟩
        have p5 : ∀ z, RdS z g A c bytes q → Calls Tryz.prog 45 #[.pointer (some ⟨g, 0, none⟩), .int .i64 4] z fun e w' => e = .returned (.int .i64 rn1) ∧ RdS w' g A c bytes (q + 1) ∧ z.grownBy w' (some g) := fun z R => by
          have := pickV_any 4 z g A c bytes q R (by omega) (by omega)
          unfold PickedV at this; rw [e1] at this; exact this
        have p3 : ∀ z, RdS z g A c bytes (q + 1) → Calls Tryz.prog 45 #[.pointer (some ⟨g, 0, none⟩), .int .i64 2] z fun e w' => e = .returned (.int .i64 rn2) ∧ RdS w' g A c bytes (q + 1 + 1) ∧ z.grownBy w' (some g) := fun z R => by
          have := pickV_any 2 z g A c bytes (q + 1) R (by omega) (by omega)
          unfold PickedV at this; rw [e2] at this; exact this
        have P5 := Lib.hid p5
        have P3 := Lib.hid p3
        obtain ⟨d5, f5, a1, a2⟩ := arr4 rn1 h1
        obtain ⟨d3, f3, a3, a4⟩ := arr2 rn2 h2
        have F5 := Lib.hid f5
        have F3 := Lib.hid f3
        have SZ := Lib.hid (show ∀ (z : World) (o : Obj), (z.alloc o).heap.size = z.heap.size + 1 from fun z o => by simp)
        clear p5 p3 f5 f3 e1 e2
        have hr1 : (rn1 : Int) < 4 := by omega
        have hr2 : (rn2 : Int) < 2 := by omega
        have q0 : g < w1.heap.size := heap_lt H1.rds.1
        have q1 : g ≠ w1.heap.size := by omega
        have E5a : (w1.alloc (.cells #[.int .i64 2, .int .i64 4, .int .i64 4, .int .i64 5] 3)).cell? ⟨w1.heap.size, rn1, none⟩ = some (.int .i64 d5) := F5.out w1
        have E3a : (w1.alloc (.cells #[.int .i64 2, .int .i64 3] 3)).cell? ⟨w1.heap.size, rn2, none⟩ = some (.int .i64 d3) := F3.out w1
        have E5b : ((w1.alloc (.cells #[.int .i64 2, .int .i64 3] 3)).alloc (.cells #[.int .i64 2, .int .i64 4, .int .i64 4, .int .i64 5] 3)).cell? ⟨w1.heap.size + 1, rn1, none⟩ = some (.int .i64 d5) := by have := F5.out (w1.alloc (.cells #[.int .i64 2, .int .i64 3] 3)); rw [SZ.out] at this; exact this
        have E3b : ((w1.alloc (.cells #[.int .i64 2, .int .i64 4, .int .i64 4, .int .i64 5] 3)).alloc (.cells #[.int .i64 2, .int .i64 3] 3)).cell? ⟨w1.heap.size + 1, rn2, none⟩ = some (.int .i64 d3) := by have := F3.out (w1.alloc (.cells #[.int .i64 2, .int .i64 4, .int .i64 4, .int .i64 5] 3)); rw [SZ.out] at this; exact this
        go_wp2_with fail
        go_region_law (
          go_simp
          first
            | (go_at_call 45
               first
                 | (with_reducible refine (P5.out w1.drew H1.drew.rds).mono ?_
                    rintro e w4 ⟨rfl, S4, G4⟩
                    have H4 := H1.drew.pick S4 G4
                    have q4 : g < w4.heap.size := by have := heap_lt H4.rds.1; exact this
                    have q5 : g ≠ w4.heap.size := by omega
                    have E5c := F5.out w4
                    have E3c := F3.out w4
                    have E5g := cell_al E5c (.cells #[.int .i64 2, .int .i64 3] 3)
                    have E3g := cell_al E3c (.cells #[.int .i64 2, .int .i64 4, .int .i64 4, .int .i64 5] 3)
                    try have F5r := cell_al F5p (.cells #[.int .i64 2, .int .i64 3] 3)
                    try have F3r := cell_al F3p (.cells #[.int .i64 2, .int .i64 4, .int .i64 4, .int .i64 5] 3)
                    have E5d := F5.out (w4.alloc (.cells #[.int .i64 2, .int .i64 3] 3))
                    have E3d := F3.out (w4.alloc (.cells #[.int .i64 2, .int .i64 4, .int .i64 4, .int .i64 5] 3))
                    rw [SZ.out] at E5d
                    rw [SZ.out] at E3d)
                 | (with_reducible refine (P5.out (w1.alloc (.cells #[.int .i64 2, .int .i64 4, .int .i64 4, .int .i64 5] 3)).drew (H1.alloc (.cells #[.int .i64 2, .int .i64 4, .int .i64 4, .int .i64 5] 3)).drew.rds).mono ?_
                    rintro e w4 ⟨rfl, S4, G4⟩
                    have H4 := (H1.alloc (.cells #[.int .i64 2, .int .i64 4, .int .i64 4, .int .i64 5] 3)).drew.pick S4 G4
                    have q4 : g < w4.heap.size := by have := heap_lt H4.rds.1; exact this
                    have q5 : g ≠ w4.heap.size := by omega
                    have F5p := gb_cell G4 (by omega) E5a
                    have zF5p := World.block_lt_of_cell? _ _ F5p
                    dsimp only at zF5p
                    have E5c := F5.out w4
                    have E3c := F3.out w4
                    have E5g := cell_al E5c (.cells #[.int .i64 2, .int .i64 3] 3)
                    have E3g := cell_al E3c (.cells #[.int .i64 2, .int .i64 4, .int .i64 4, .int .i64 5] 3)
                    try have F5r := cell_al F5p (.cells #[.int .i64 2, .int .i64 3] 3)
                    try have F3r := cell_al F3p (.cells #[.int .i64 2, .int .i64 4, .int .i64 4, .int .i64 5] 3)
                    have E5d := F5.out (w4.alloc (.cells #[.int .i64 2, .int .i64 3] 3))
                    have E3d := F3.out (w4.alloc (.cells #[.int .i64 2, .int .i64 4, .int .i64 4, .int .i64 5] 3))
                    rw [SZ.out] at E5d
                    rw [SZ.out] at E3d)
                 | (with_reducible refine (P5.out (w1.alloc (.cells #[.int .i64 2, .int .i64 3] 3)).drew (H1.alloc (.cells #[.int .i64 2, .int .i64 3] 3)).drew.rds).mono ?_
                    rintro e w4 ⟨rfl, S4, G4⟩
                    have H4 := (H1.alloc (.cells #[.int .i64 2, .int .i64 3] 3)).drew.pick S4 G4
                    have q4 : g < w4.heap.size := by have := heap_lt H4.rds.1; exact this
                    have q5 : g ≠ w4.heap.size := by omega
                    have F3p := gb_cell G4 (by omega) E3a
                    have zF3p := World.block_lt_of_cell? _ _ F3p
                    dsimp only at zF3p
                    have E5c := F5.out w4
                    have E3c := F3.out w4
                    have E5g := cell_al E5c (.cells #[.int .i64 2, .int .i64 3] 3)
                    have E3g := cell_al E3c (.cells #[.int .i64 2, .int .i64 4, .int .i64 4, .int .i64 5] 3)
                    try have F5r := cell_al F5p (.cells #[.int .i64 2, .int .i64 3] 3)
                    try have F3r := cell_al F3p (.cells #[.int .i64 2, .int .i64 4, .int .i64 4, .int .i64 5] 3)
                    have E5d := F5.out (w4.alloc (.cells #[.int .i64 2, .int .i64 3] 3))
                    have E3d := F3.out (w4.alloc (.cells #[.int .i64 2, .int .i64 4, .int .i64 4, .int .i64 5] 3))
                    rw [SZ.out] at E5d
                    rw [SZ.out] at E3d)
                 | (with_reducible refine (P5.out ((w1.alloc (.cells #[.int .i64 2, .int .i64 4, .int .i64 4, .int .i64 5] 3)).alloc (.cells #[.int .i64 2, .int .i64 3] 3)).drew ((H1.alloc (.cells #[.int .i64 2, .int .i64 4, .int .i64 4, .int .i64 5] 3)).alloc (.cells #[.int .i64 2, .int .i64 3] 3)).drew.rds).mono ?_
                    rintro e w4 ⟨rfl, S4, G4⟩
                    have H4 := ((H1.alloc (.cells #[.int .i64 2, .int .i64 4, .int .i64 4, .int .i64 5] 3)).alloc (.cells #[.int .i64 2, .int .i64 3] 3)).drew.pick S4 G4
                    have q4 : g < w4.heap.size := by have := heap_lt H4.rds.1; exact this
                    have q5 : g ≠ w4.heap.size := by omega
                    have F5p := gb_cell G4 (by omega) (cell_al E5a (.cells #[.int .i64 2, .int .i64 3] 3))
                    have zF5p := World.block_lt_of_cell? _ _ F5p
                    dsimp only at zF5p
                    have F3p := gb_cell G4 (by omega) E3b
                    have zF3p := World.block_lt_of_cell? _ _ F3p
                    dsimp only at zF3p
                    have E5c := F5.out w4
                    have E3c := F3.out w4
                    have E5g := cell_al E5c (.cells #[.int .i64 2, .int .i64 3] 3)
                    have E3g := cell_al E3c (.cells #[.int .i64 2, .int .i64 4, .int .i64 4, .int .i64 5] 3)
                    try have F5r := cell_al F5p (.cells #[.int .i64 2, .int .i64 3] 3)
                    try have F3r := cell_al F3p (.cells #[.int .i64 2, .int .i64 4, .int .i64 4, .int .i64 5] 3)
                    have E5d := F5.out (w4.alloc (.cells #[.int .i64 2, .int .i64 3] 3))
                    have E3d := F3.out (w4.alloc (.cells #[.int .i64 2, .int .i64 4, .int .i64 4, .int .i64 5] 3))
                    rw [SZ.out] at E5d
                    rw [SZ.out] at E3d)
                 | (with_reducible refine (P5.out ((w1.alloc (.cells #[.int .i64 2, .int .i64 3] 3)).alloc (.cells #[.int .i64 2, .int .i64 4, .int .i64 4, .int .i64 5] 3)).drew ((H1.alloc (.cells #[.int .i64 2, .int .i64 3] 3)).alloc (.cells #[.int .i64 2, .int .i64 4, .int .i64 4, .int .i64 5] 3)).drew.rds).mono ?_
                    rintro e w4 ⟨rfl, S4, G4⟩
                    have H4 := ((H1.alloc (.cells #[.int .i64 2, .int .i64 3] 3)).alloc (.cells #[.int .i64 2, .int .i64 4, .int .i64 4, .int .i64 5] 3)).drew.pick S4 G4
                    have q4 : g < w4.heap.size := by have := heap_lt H4.rds.1; exact this
                    have q5 : g ≠ w4.heap.size := by omega
                    have F3p := gb_cell G4 (by omega) (cell_al E3a (.cells #[.int .i64 2, .int .i64 4, .int .i64 4, .int .i64 5] 3))
                    have zF3p := World.block_lt_of_cell? _ _ F3p
                    dsimp only at zF3p
                    have F5p := gb_cell G4 (by omega) E5b
                    have zF5p := World.block_lt_of_cell? _ _ F5p
                    dsimp only at zF5p
                    have E5c := F5.out w4
                    have E3c := F3.out w4
                    have E5g := cell_al E5c (.cells #[.int .i64 2, .int .i64 3] 3)
                    have E3g := cell_al E3c (.cells #[.int .i64 2, .int .i64 4, .int .i64 4, .int .i64 5] 3)
                    try have F5r := cell_al F5p (.cells #[.int .i64 2, .int .i64 3] 3)
                    try have F3r := cell_al F3p (.cells #[.int .i64 2, .int .i64 4, .int .i64 4, .int .i64 5] 3)
                    have E5d := F5.out (w4.alloc (.cells #[.int .i64 2, .int .i64 3] 3))
                    have E3d := F3.out (w4.alloc (.cells #[.int .i64 2, .int .i64 4, .int .i64 4, .int .i64 5] 3))
                    rw [SZ.out] at E5d
                    rw [SZ.out] at E3d)
                 | (with_reducible refine (P3.out w4 H4.rds).mono ?_
                    rintro e w6 ⟨rfl, S6, G6⟩
                    have H6 := H4.pick S6 G6
                    try (have F5q := gb_cell G6 (by omega) F5p
                         have zF5q := World.block_lt_of_cell? _ _ F5q
                         dsimp only at zF5q)
                    try (have F3q := gb_cell G6 (by omega) F3p
                         have zF3q := World.block_lt_of_cell? _ _ F3q
                         dsimp only at zF3q)
                    have E5e := F5.out w6
                    have E3e := F3.out w6
                    have E5h := cell_al E5e (.cells #[.int .i64 2, .int .i64 3] 3)
                    have E3h := cell_al E3e (.cells #[.int .i64 2, .int .i64 4, .int .i64 4, .int .i64 5] 3)
                    try have F5s := cell_al F5q (.cells #[.int .i64 2, .int .i64 3] 3)
                    try have F3s := cell_al F3q (.cells #[.int .i64 2, .int .i64 4, .int .i64 4, .int .i64 5] 3)
                    have E5f := F5.out (w6.alloc (.cells #[.int .i64 2, .int .i64 3] 3))
                    have E3f := F3.out (w6.alloc (.cells #[.int .i64 2, .int .i64 4, .int .i64 4, .int .i64 5] 3))
                    rw [SZ.out] at E5f
                    rw [SZ.out] at E3f)
                 | (with_reducible refine (P3.out (w4.alloc (.cells #[.int .i64 2, .int .i64 4, .int .i64 4, .int .i64 5] 3)) (H4.alloc (.cells #[.int .i64 2, .int .i64 4, .int .i64 4, .int .i64 5] 3)).rds).mono ?_
                    rintro e w6 ⟨rfl, S6, G6⟩
                    have H6 := (H4.alloc (.cells #[.int .i64 2, .int .i64 4, .int .i64 4, .int .i64 5] 3)).pick S6 G6
                    try (have F5q := gb_cell G6 (by omega) E5c
                         have zF5q := World.block_lt_of_cell? _ _ F5q
                         dsimp only at zF5q)
                    try (have F3q := gb_cell G6 (by omega) (cell_al F3p (.cells #[.int .i64 2, .int .i64 4, .int .i64 4, .int .i64 5] 3))
                         have zF3q := World.block_lt_of_cell? _ _ F3q
                         dsimp only at zF3q)
                    have E5e := F5.out w6
                    have E3e := F3.out w6
                    have E5h := cell_al E5e (.cells #[.int .i64 2, .int .i64 3] 3)
                    have E3h := cell_al E3e (.cells #[.int .i64 2, .int .i64 4, .int .i64 4, .int .i64 5] 3)
                    try have F5s := cell_al F5q (.cells #[.int .i64 2, .int .i64 3] 3)
                    try have F3s := cell_al F3q (.cells #[.int .i64 2, .int .i64 4, .int .i64 4, .int .i64 5] 3)
                    have E5f := F5.out (w6.alloc (.cells #[.int .i64 2, .int .i64 3] 3))
                    have E3f := F3.out (w6.alloc (.cells #[.int .i64 2, .int .i64 4, .int .i64 4, .int .i64 5] 3))
                    rw [SZ.out] at E5f
                    rw [SZ.out] at E3f)
                 | (with_reducible refine (P3.out (w4.alloc (.cells #[.int .i64 2, .int .i64 3] 3)) (H4.alloc (.cells #[.int .i64 2, .int .i64 3] 3)).rds).mono ?_
                    rintro e w6 ⟨rfl, S6, G6⟩
                    have H6 := (H4.alloc (.cells #[.int .i64 2, .int .i64 3] 3)).pick S6 G6
                    try (have F3q := gb_cell G6 (by omega) E3c
                         have zF3q := World.block_lt_of_cell? _ _ F3q
                         dsimp only at zF3q)
                    try (have F5q := gb_cell G6 (by omega) (cell_al F5p (.cells #[.int .i64 2, .int .i64 3] 3))
                         have zF5q := World.block_lt_of_cell? _ _ F5q
                         dsimp only at zF5q)
                    have E5e := F5.out w6
                    have E3e := F3.out w6
                    have E5h := cell_al E5e (.cells #[.int .i64 2, .int .i64 3] 3)
                    have E3h := cell_al E3e (.cells #[.int .i64 2, .int .i64 4, .int .i64 4, .int .i64 5] 3)
                    try have F5s := cell_al F5q (.cells #[.int .i64 2, .int .i64 3] 3)
                    try have F3s := cell_al F3q (.cells #[.int .i64 2, .int .i64 4, .int .i64 4, .int .i64 5] 3)
                    have E5f := F5.out (w6.alloc (.cells #[.int .i64 2, .int .i64 3] 3))
                    have E3f := F3.out (w6.alloc (.cells #[.int .i64 2, .int .i64 4, .int .i64 4, .int .i64 5] 3))
                    rw [SZ.out] at E5f
                    rw [SZ.out] at E3f)
                 | (with_reducible refine (P3.out ((w4.alloc (.cells #[.int .i64 2, .int .i64 4, .int .i64 4, .int .i64 5] 3)).alloc (.cells #[.int .i64 2, .int .i64 3] 3)) ((H4.alloc (.cells #[.int .i64 2, .int .i64 4, .int .i64 4, .int .i64 5] 3)).alloc (.cells #[.int .i64 2, .int .i64 3] 3)).rds).mono ?_
                    rintro e w6 ⟨rfl, S6, G6⟩
                    have H6 := ((H4.alloc (.cells #[.int .i64 2, .int .i64 4, .int .i64 4, .int .i64 5] 3)).alloc (.cells #[.int .i64 2, .int .i64 3] 3)).pick S6 G6
                    try (have F5q := gb_cell G6 (by omega) (cell_al E5c (.cells #[.int .i64 2, .int .i64 3] 3))
                         have zF5q := World.block_lt_of_cell? _ _ F5q
                         dsimp only at zF5q)
                    try (have F3q := gb_cell G6 (by omega) E3d
                         have zF3q := World.block_lt_of_cell? _ _ F3q
                         dsimp only at zF3q)
                    have E5e := F5.out w6
                    have E3e := F3.out w6
                    have E5h := cell_al E5e (.cells #[.int .i64 2, .int .i64 3] 3)
                    have E3h := cell_al E3e (.cells #[.int .i64 2, .int .i64 4, .int .i64 4, .int .i64 5] 3)
                    try have F5s := cell_al F5q (.cells #[.int .i64 2, .int .i64 3] 3)
                    try have F3s := cell_al F3q (.cells #[.int .i64 2, .int .i64 4, .int .i64 4, .int .i64 5] 3)
                    have E5f := F5.out (w6.alloc (.cells #[.int .i64 2, .int .i64 3] 3))
                    have E3f := F3.out (w6.alloc (.cells #[.int .i64 2, .int .i64 4, .int .i64 4, .int .i64 5] 3))
                    rw [SZ.out] at E5f
                    rw [SZ.out] at E3f)
                 | (with_reducible refine (P3.out ((w4.alloc (.cells #[.int .i64 2, .int .i64 3] 3)).alloc (.cells #[.int .i64 2, .int .i64 4, .int .i64 4, .int .i64 5] 3)) ((H4.alloc (.cells #[.int .i64 2, .int .i64 3] 3)).alloc (.cells #[.int .i64 2, .int .i64 4, .int .i64 4, .int .i64 5] 3)).rds).mono ?_
                    rintro e w6 ⟨rfl, S6, G6⟩
                    have H6 := ((H4.alloc (.cells #[.int .i64 2, .int .i64 3] 3)).alloc (.cells #[.int .i64 2, .int .i64 4, .int .i64 4, .int .i64 5] 3)).pick S6 G6
                    try (have F3q := gb_cell G6 (by omega) (cell_al E3c (.cells #[.int .i64 2, .int .i64 4, .int .i64 4, .int .i64 5] 3))
                         have zF3q := World.block_lt_of_cell? _ _ F3q
                         dsimp only at zF3q)
                    try (have F5q := gb_cell G6 (by omega) E5d
                         have zF5q := World.block_lt_of_cell? _ _ F5q
                         dsimp only at zF5q)
                    have E5e := F5.out w6
                    have E3e := F3.out w6
                    have E5h := cell_al E5e (.cells #[.int .i64 2, .int .i64 3] 3)
                    have E3h := cell_al E3e (.cells #[.int .i64 2, .int .i64 4, .int .i64 4, .int .i64 5] 3)
                    try have F5s := cell_al F5q (.cells #[.int .i64 2, .int .i64 3] 3)
                    try have F3s := cell_al F3q (.cells #[.int .i64 2, .int .i64 4, .int .i64 4, .int .i64 5] 3)
                    have E5f := F5.out (w6.alloc (.cells #[.int .i64 2, .int .i64 3] 3))
                    have E3f := F3.out (w6.alloc (.cells #[.int .i64 2, .int .i64 4, .int .i64 4, .int .i64 5] 3))
                    rw [SZ.out] at E5f
                    rw [SZ.out] at E3f))
            | (go_at_call 63
               with_reducible refine (sRegionBox_any d5 d3 _).mono ?_
               rintro e w7 ⟨B, kb, rfl, o7, b7⟩
               have H7 : Rs w g A c bytes (q + 1 + 1) w7 := by first | exact H6.below b7 | exact (H6.alloc (.cells #[.int .i64 2, .int .i64 4, .int .i64 4, .int .i64 5] 3)).below b7 | exact (H6.alloc (.cells #[.int .i64 2, .int .i64 3] 3)).below b7 | exact ((H6.alloc (.cells #[.int .i64 2, .int .i64 4, .int .i64 4, .int .i64 5] 3)).alloc (.cells #[.int .i64 2, .int .i64 3] 3)).below b7 | exact ((H6.alloc (.cells #[.int .i64 2, .int .i64 3] 3)).alloc (.cells #[.int .i64 2, .int .i64 4, .int .i64 4, .int .i64 5] 3)).below b7
               have hB : ∀ ad, B = some ad → w.heap.size < ad.block := fun ad ha => by have t := o7.1 ad ha; have := heap_lt H6.res; (try simp at t); omega
               obtain ⟨s0, s1, s2, t0, t1, t2⟩ := blk3 H7.res))
        all_goals (
          go_wp2_with fail
          refine bodyPost_ret (v := .agg #[.int .i64 (boxW d5 d3), .int .i64 (boxT d5 d3), .slice B (boxB d5 d3).length kb]) (by simp [results, Tryz.results60, go_sem, s0, s1, s2]) rfl ?_
          exact H7.done o7.rd hB (by have := box_len d5 d3; omega) (by omega))
    | false =>
      obtain ⟨x0, x1, x2, -, -, -⟩ := blk3 X1
      obtain ⟨s0, s1, s2, t0, t1, t2⟩ := blk3 H1.res
      go_wp2_with fail
      refine bodyPost_ret (v := .agg #[.int .i64 W, .int .i64 T, .slice B bs.length kb]) (by simp [results, Tryz.results60, go_sem, s0, s1, s2]) rfl ?_
      exact H1.done R1 hB1 hl37 (by omega)
end Go.Proofs.YtafmpgikdhlknaaGreat
