
/- Contract: the draw of a region that is often tiled (l20Tiled). -/
import Derived.Test.YtafmpgikdhlknaaGreatDrawReg
import Derived.Test.YtafmpgikdhlknaaGreatLayS
namespace Go.Proofs.YtafmpgikdhlknaaGreat
open Go.RowKit

/-- the state of l20Tiled: the reader, the region's box and its truths, the list that is laid -/
structure Til (w : World) (g bx : Nat) (A : Option Addr) (c : Nat) (bytes : List Int) (q : Nat) (W T : Int) (B : Option Addr) (kb : Nat) (bs : List Bool) (L : List Int) (D : Option Addr) (wr : World) : Prop where
  rds : RdS wr g A c bytes q
  box : C3 wr bx (.int .i64 W) (.int .i64 T) (.slice B bs.length kb)
  rd : Rd wr B (bs.map .bool)
  lay : Rd wr D (L.map (.int .i64))
  res : wr.heap[w.heap.size]? = some (.cells #[.int .i64 0, .int .i64 0, .slice none 0 0] 25 (0, 0))
  gb : w.grownBy wr (some g)
  hg : g < w.heap.size
  hb : w.heap.size < bx
  hB : ∀ ad, B = some ad → w.heap.size < ad.block
  hD : ∀ ad, D = some ad → w.heap.size ≤ ad.block
  ha : bytes ≠ [] → ∀ ad, A = some ad → ad.block < w.heap.size
section
variable {w wr w' : World} {g bx : Nat} {A : Option Addr} {c : Nat} {bytes : List Int} {q : Nat} {W T : Int} {B : Option Addr} {kb : Nat} {bs : List Bool} {L : List Int} {D : Option Addr}
theorem Til.pick (h : Til w g bx A c bytes q W T B kb bs L D wr) {q' : Nat} (S : RdS w' g A c bytes q') (G : wr.grownBy w' (some g)) : Til w g bx A c bytes q' W T B kb bs L D w' :=
  ⟨S, h.box.gb G (by have := h.hg; have := h.hb; omega), h.rd.grownBelow G (fun _ ad hh => by have := h.hB ad hh; have := h.hg; simp; omega), h.lay.grownBelow G (fun _ ad hh => by have := h.hD ad hh; have := h.hg; simp; omega),
   (G.block _ (heap_lt h.res) (by have := h.hg; simp; omega)).trans h.res, grownBy_trans' h.gb G, h.hg, h.hb, h.hB, h.hD, h.ha⟩
theorem Til.below (h : Til w g bx A c bytes q W T B kb bs L D wr) (hb : Below wr.heap.size wr w') : Til w g bx A c bytes q W T B kb bs L D w' :=
  ⟨h.rds.below (heap_lt h.rds.1) hb, h.box.belo hb, h.rd.belo hb, h.lay.belo hb, (hb.block _ (heap_lt h.res)).trans h.res, gb_below h.gb hb, h.hg, h.hb, h.hB, h.hD, h.ha⟩
theorem Til.relay (h : Til w g bx A c bytes q W T B kb bs L D wr) {L' : List Int} {D' : Option Addr} (r : Rd wr D' (L'.map (.int .i64))) (hD : ∀ ad, D' = some ad → w.heap.size ≤ ad.block) : Til w g bx A c bytes q W T B kb bs L' D' wr :=
  ⟨h.rds, h.box, h.rd, r, h.res, h.gb, h.hg, h.hb, h.hB, hD, h.ha⟩
/-- it is handed back -/
theorem Til.done (h : Til w g bx A c bytes q W T B kb bs L D wr) {p more : Nat} (hn : bs.length ≤ 37) (hq : q ≤ p + more) :
    SomeReg g A c bytes p more w (.returned (.agg #[.int .i64 W, .int .i64 T, .slice B bs.length kb])) (((wr.setCell ⟨w.heap.size, 0, none⟩ (.int .i64 W)).setCell ⟨w.heap.size, 1, none⟩ (.int .i64 T)).setCell ⟨w.heap.size, 2, none⟩ (.slice B bs.length kb)) := by
  obtain ⟨o1, r1, k1⟩ := reg_set (i := 0) (u := .int .i64 W) (OwnB.nil wr (bx + 1)) h.rds h.gb h.ha h.hg h.hb
  obtain ⟨o2, r2, k2⟩ := reg_set (i := 1) (u := .int .i64 T) o1 r1 k1 h.ha h.hg h.hb
  obtain ⟨o3, r3, k3⟩ := reg_set (i := 2) (u := .slice B bs.length kb) o2 r2 k2 h.ha h.hg h.hb
  refine ⟨W, T, bs, _, _, q, rfl, fun hne => ?_, hn, r3, hq, k3, fun ad ha => by have := h.hB ad ha; omega⟩
  obtain ⟨ad, h1, hc⟩ := h.rd hne
  have hlt := h.hB ad h1
  refine ⟨ad, h1, fun j u hu => ?_⟩
  have hab : (ad.add j).block = ad.block := by unfold Addr.add; split <;> rfl
  have hne2 : ∀ i, (⟨w.heap.size, i, none⟩ : Addr) ≠ ad.add j := fun i e => by
    have e2 := congrArg Addr.block e; rw [hab] at e2; simp at e2; omega
  rw [World.cell?_setCell_other _ _ _ _ (hne2 2), World.cell?_setCell_other _ _ _ _ (hne2 1), World.cell?_setCell_other _ _ _ _ (hne2 0)]
  exact hc j u hu
end
theorem Rd.keepW {w w' : World} {b2 i : Nat} {u : Value} {D : Option Addr} {xs : List Value} (h : Rd w D xs) (hlt : ∀ ad, D = some ad → ad.block < b2) (hb : Below (b2 + 1) w w') : Rd (w'.setCell ⟨b2, i, none⟩ u) D xs := fun hne => by
  obtain ⟨ad, h1, hc⟩ := h hne
  have hl := hlt ad h1
  refine ⟨ad, h1, fun j y hy => ?_⟩
  have hab : (ad.add j).block = ad.block := by unfold Addr.add; split <;> rfl
  have hne2 : (⟨b2, i, none⟩ : Addr) ≠ ad.add j := fun e => by
    have e2 := congrArg Addr.block e; rw [hab] at e2; simp at e2; omega
  rw [World.cell?_setCell_other _ _ _ _ hne2, hb.cell (p := ad.add j) (by omega)]
  exact hc j y hy
/-- one of the four ways -/
theorem way_cell (w : World) (rn : Nat) (h : rn ≤ 3) : ∃ d : Int, (w.alloc (.cells #[.int .i64 1, .int .i64 2, .int .i64 3, .int .i64 4] 3)).cell? ⟨w.heap.size, rn, none⟩ = some (.int .i64 d) ∧ 1 ≤ d ∧ d ≤ 4 := by
  rcases (show rn = 0 ∨ rn = 1 ∨ rn = 2 ∨ rn = 3 from by omega) with rfl | rfl | rfl | rfl
  · exact ⟨1, cell_of_row _ _ _ _ _ _ (heap_alloc_new w _), by omega, by omega⟩
  · exact ⟨2, cell_of_row _ _ _ _ _ _ (heap_alloc_new w _), by omega, by omega⟩
  · exact ⟨3, cell_of_row _ _ _ _ _ _ (heap_alloc_new w _), by omega, by omega⟩
  · exact ⟨4, cell_of_row _ _ _ _ _ _ (heap_alloc_new w _), by omega, by omega⟩
set_option maxRecDepth 100000 in
set_option maxHeartbeats 4000000 in
theorem tiled_any (n : Int) (w : World) (g : Nat) (A : Option Addr) (c : Nat) (bytes : List Int) (p : Nat) (h : RdS w g A c bytes p) (hp : p ≤ 50000) (hn0 : 0 ≤ n) (hn : n ≤ 1000) :
    Calls Tryz.prog 119 #[.pointer (some ⟨g, 0, none⟩), .int .i64 n] w (SomeReg g A c bytes p 80 w) := by
  have hg := heap_lt h.1
  have hA : bytes ≠ [] → ∀ ad, A = some ad → ad.block < w.heap.size := by
    intro hne ad ha
    obtain ⟨ad', ha', hc⟩ := h.2.1 (by simpa using hne)
    obtain rfl := Option.some.inj (ha.symm.trans ha')
    obtain ⟨x, ys, rfl⟩ := List.exists_cons_of_ne_nil hne
    have := World.block_lt_of_cell? w _ (hc 0 _ rfl)
    simpa [Addr.add] using this
  have h0 := h.below hg (bl_alloc (Below.refl _ _) (.cells #[.int .i64 0, .int .i64 0, .slice none 0 0] 25))
  have P0 := heap_alloc_new w (.cells #[.int .i64 0, .int .i64 0, .slice none 0 0] 25)
  have K0 : w.grownBy (w.alloc (.cells #[.int .i64 0, .int .i64 0, .slice none 0 0] 25)) (some g) := gb_below (World.grownBy.refl _ _) (bl_alloc (Below.refl _ _) _)
  have z0 : w.heap.size < (w.alloc (.cells #[.int .i64 0, .int .i64 0, .slice none 0 0] 25)).heap.size := by simp
  go_enter Tryz.func119, Tryz.ntmps119
  go_wp2_with fail
  refine (region_any n _ g A c bytes p h0 (by omega) hn0 hn).mono ?_
  rintro e w1 ⟨W, T, bs, B, kb, q, rfl, hrd, hl37, S1, hq, G1, hB⟩
  have hB' : ∀ ad, B = some ad → w.heap.size < ad.block := fun ad ha => by have := hB ad ha; omega
  have K1 := grownBy_trans' K0 G1
  have P1 := (G1.block _ z0 (by simp; omega)).trans P0
  have z1 := heap_lt P1
  have HT : Til w g w1.heap.size A c bytes q W T B kb bs [] none (w1.alloc (.cells #[.int .i64 W, .int .i64 T, .slice B bs.length kb] 25)) :=
    ⟨S1.below (heap_lt S1.1) (bl_alloc (Below.refl _ _) _), C3.new _ _ _ _ _, hrd.belo (bl_alloc (Below.refl _ _) _), Rd.nil _ _, ((bl_alloc (Below.refl _ _) _).block _ z1).trans P1, gb_below K1 (bl_alloc (Below.refl _ _) _), hg, z1, hB', (fun ad ha => by cases ha), hA⟩
  clear hB K1 P1 S1 hrd G1 P0 K0 h0 z0
  have hmx : bs.length ≤ maxLen := by unfold maxLen; omega
  go_wp2_with fail
  refine (sRegionValid_any W T B kb bs _ HT.rd hmx).mono ?_
  rintro e w2 ⟨rfl, b2⟩
  have H2 := HT.below b2
  clear HT b2
  generalize w1.heap.size = bx at *
  obtain ⟨x0, x1, x2⟩ := id H2.box
  obtain ⟨s0, s1, s2, t0, t1, t2⟩ := blk3 H2.res
  have n1 : w.heap.size ≠ bx := by omega
  have n2 : bx ≠ w.heap.size := by omega
  have CL := Lib.hid (fun z (R : Rd z B (bs.map .bool)) => sLaidBare_any W T B kb bs z R hmx)
  cases hv : validB W T bs with
  | false =>
    clear hv
    go_wp2_with fail
    refine bodyPost_ret (v := .agg #[.int .i64 W, .int .i64 T, .slice B bs.length kb]) (by simp [results, Tryz.results119, go_sem, s0, s1, s2]) rfl ?_
    exact H2.done hl37 (by omega)
  | true =>
    have hl36 := (valid_len hv).2.2.2.2.1
    have hl1 : 1 ≤ bs.length := by
      obtain ⟨h1, h2, h3, h4, h5, h6⟩ := valid_len hv
      have := (mul_bd h1 h2 h3 h4).1
      omega
    go_wp2_with fail
    refine (CL.out _ H2.rd).mono ?_
    rintro e w3 ⟨D0, c0, rfl, r3, b3, hD3⟩
    have z2 := heap_lt H2.res
    have H3 := (H2.below b3).relay r3 (fun ad ha => by have := hD3 ad ha; omega)
    obtain ⟨N, hN⟩ : ∃ N, bs.length = N := ⟨_, rfl⟩
    have HB := Lib.hid (show (bareL W T bs).length = N by unfold bareL; rw [if_pos hv]; simp [hN])
    have HN := Lib.hid hN
    have hN36 : N ≤ 36 := by omega
    have hN1 : 1 ≤ N := by omega
    generalize bareL W T bs = L0 at *
    clear hv H2 b3 x0 x1 x2 s0 s1 s2 t0 t1 t2 r3 hD3 z2 CL hN
    go_wp2_with fail
    go_loopw [6, 7] (fun v i wr => ∃ (k q' c6 : Nat) (L : List Int) (D : Option Addr), k ≤ N ∧ i = .int .i64 k ∧ v = .slice D L.length c6 ∧ Hid (L.length = N) ∧ q' ≤ q + k ∧ Til w g bx A c bytes q' W T B kb bs L D wr) (fun _ i _ => N - (intOf i).toNat)
    case atStart => exact ⟨0, q, _, L0, _, Nat.zero_le _, rfl, rfl, HB, by omega, H3⟩
    case round =>
      clear H3 HB
      obtain ⟨k, q', c6, L, D, hk, rfl, rfl, HL, hq', HR⟩ := hrel
      obtain ⟨y0, y1, y2⟩ := id HR.box
      have zb := HR.box.lt
      have hLm : L.length ≤ maxLen := by rw [HL.out]; unfold maxLen; omega
      by_cases hlt : k < N
      · have hlt2 : (k : Int) < (L.length : Int) := by rw [HL.out]; omega
        go_wp2_with fail
        go_region_law (first
          | (go_simp
             go_at_call 45
             refine (pick_any 4 wr.drew g A c bytes q' HR.rds (by omega) (by omega)).mono ?_
             rintro e w4 ⟨r4, rfl, hr4, S4, G4⟩
             have G5 : wr.grownBy w4 (some g) := ⟨G4.os, G4.tape, G4.output, G4.size, G4.block⟩
             have H4 := HR.pick S4 G5
             have H5 := H4.below (bl_alloc (Below.refl _ _) (.cells #[.int .i64 1, .int .i64 2, .int .i64 3, .int .i64 4] 3))
             obtain ⟨rn, rfl, hrn⟩ : ∃ rn : Nat, r4 = rn ∧ rn ≤ 3 := ⟨r4.toNat, by unfold Below0 at hr4; omega, by unfold Below0 at hr4; omega⟩
             clear hr4
             have hrn4 : (rn : Int) < 4 := by omega
             obtain ⟨d, hd, d1, d2⟩ := way_cell w4 rn hrn
             obtain ⟨x0, x1, x2⟩ := id H4.box
             have zb4 := H4.box.lt)
          | (go_simp
             go_at_call 45
             refine (pick_any 4 (wr.drew.alloc (.cells #[.int .i64 1, .int .i64 2, .int .i64 3, .int .i64 4] 3)) g A c bytes q' (HR.below (bl_alloc (Below.refl _ _) (.cells #[.int .i64 1, .int .i64 2, .int .i64 3, .int .i64 4] 3))).rds (by omega) (by omega)).mono ?_
             rintro e w4 ⟨r4, rfl, hr4, S4, G4⟩
             have G5 : (wr.alloc (.cells #[.int .i64 1, .int .i64 2, .int .i64 3, .int .i64 4] 3)).grownBy w4 (some g) := ⟨G4.os, G4.tape, G4.output, G4.size, G4.block⟩
             have H5 := (HR.below (bl_alloc (Below.refl _ _) (.cells #[.int .i64 1, .int .i64 2, .int .i64 3, .int .i64 4] 3))).pick S4 G5
             obtain ⟨rn, rfl, hrn⟩ : ∃ rn : Nat, r4 = rn ∧ rn ≤ 3 := ⟨r4.toNat, by unfold Below0 at hr4; omega, by unfold Below0 at hr4; omega⟩
             clear hr4
             have hrn4 : (rn : Int) < 4 := by omega
             obtain ⟨d, hd0, d1, d2⟩ := way_cell wr rn hrn
             have hd := gb_cell G5 (by have := heap_lt HR.rds.1; simp; omega) hd0
             obtain ⟨x0, x1, x2⟩ := id H5.box
             have zb4 := H5.box.lt)
          | (go_simp
             go_at_call 121
             refine (sLayOne_any W T k d B D kb c6 bs L _ H5.rd H5.lay hmx hLm (by omega) (by omega)).mono ?_
             rintro e w5 ⟨L5, D5, c5, ok, rfl, r5, hl5, b5, hD5⟩))
        all_goals (
          have z5 := heap_lt H5.res
          have H6 := H5.below b5
          have H7 := H6.relay r5 (fun ad ha => by have := hD5 ad ha; omega)
          cases ok with
          | true =>
            have HL5 := Lib.hid ((hl5 rfl).trans HL.out)
            clear hl5
            go_wp2
            go_roundw
            case rel => exact ⟨k + 1, q' + 1, c5, L5, D5, by omega, by go_num, rfl, HL5, by omega, H7⟩
            case measure => simp [intOf]; omega
          | false =>
            clear hl5
            go_wp2
            go_roundw
            case rel => exact ⟨k + 1, q' + 1, c6, L, D, by omega, by go_num, rfl, HL, by omega, H6⟩
            case measure => simp [intOf]; omega)
      · have hge : ¬ ((k : Int) < (L.length : Int)) := by rw [HL.out]; omega
        have hq2 : q' ≤ p + 70 := by omega
        go_wp2_with fail
        clear y0 y1 y2 zb hge hlt
        obtain ⟨wo, hwo⟩ : ∃ wo : World, wo = wr := ⟨_, rfl⟩
        subst hwo
        go_loopw [6, 10] (fun v i wr => ∃ (k c6 : Nat) (L : List Int) (D : Option Addr), k ≤ N ∧ i = .int .i64 k ∧ v = .slice D L.length c6 ∧ Hid (L.length = N) ∧ Til w g bx A c bytes q' W T B kb bs L D wr) (fun _ i _ => N - (intOf i).toNat)
        case atStart => exact ⟨0, _, L, _, Nat.zero_le _, rfl, rfl, HL, HR⟩
        case round =>
          clear HR HL hLm
          obtain ⟨k2, c6, L, D, hk2, rfl, rfl, HL, HR⟩ := hrel
          have hLm : L.length ≤ maxLen := by rw [HL.out]; unfold maxLen; omega
          by_cases hlt : k2 < N
          · have hlt2 : (k2 : Int) < (L.length : Int) := by rw [HL.out]; omega
            go_wp2_with fail
            obtain ⟨wo, hwo⟩ : ∃ wo : World, wo = wr := ⟨_, rfl⟩
            subst hwo
            go_loopw [6, 11] (fun v i wr => ∃ (m c6 : Nat) (L : List Int) (D : Option Addr), m ≤ 2 ∧ i = .int .i64 ((m : Int) + 1) ∧ v = .slice D L.length c6 ∧ Hid (L.length = N) ∧ Til w g bx A c bytes q' W T B kb bs L D wr) (fun _ i _ => 3 - (intOf i).toNat)
            case atStart => exact ⟨0, _, L, _, by omega, rfl, rfl, HL, HR⟩
            case round =>
              clear HR HL hLm hlt2
              obtain ⟨m, c6, L, D, hm, rfl, rfl, HL, HR⟩ := hrel
              have hLm : L.length ≤ maxLen := by rw [HL.out]; unfold maxLen; omega
              obtain ⟨y0, y1, y2⟩ := id HR.box
              by_cases hm2 : m < 2
              · have hm3 : (m : Int) + 1 ≤ 2 := by omega
                go_wp2_with fail
                refine (sLayOne_any W T k2 (m + 1) B D kb c6 bs L _ HR.rd HR.lay hmx hLm (by omega) (by omega)).mono ?_
                rintro e w5 ⟨L5, D5, c5, ok, rfl, r5, hl5, b5, hD5⟩
                have z5 := heap_lt HR.res
                have H6 := HR.below b5
                have H7 := H6.relay r5 (fun ad ha => by have := hD5 ad ha; omega)
                cases ok with
                | true =>
                  have HL5 := Lib.hid ((hl5 rfl).trans HL.out)
                  clear hl5
                  go_wp2
                  go_roundw
                  case rel => exact ⟨m + 1, c5, L5, D5, by omega, by go_num, rfl, HL5, H7⟩
                  case measure => simp [intOf]; omega
                | false =>
                  clear hl5
                  go_wp2
                  go_roundw
                  case rel => exact ⟨m + 1, c6, L, D, by omega, by go_num, rfl, HL, H6⟩
                  case measure => simp [intOf]; omega
              · have hm3 : ¬ ((m : Int) + 1 ≤ 2) := by omega
                go_wp2
                go_roundw
                case rel => exact ⟨k2 + 1, c6, L, D, by omega, by go_num, rfl, HL, HR⟩
                case measure => simp [intOf]; omega
          · have hge : ¬ ((k2 : Int) < (L.length : Int)) := by rw [HL.out]; omega
            obtain ⟨y0, y1, y2⟩ := id HR.box
            go_wp2_with fail
            clear y0 y1 y2 hge hlt
            obtain ⟨b, off, rfl, hb0⟩ := HR.lay.atEM (k := 0) (by rw [HL.out]; omega)
            have hbl : b < wr.heap.size := by have := World.block_lt_of_cell? _ _ hb0; simpa [Addr.add] using this
            have G0 := RegI.new HR.gb HR.res HR.rds hA hg W T
            have R0 := HR.lay.alloc (.cells #[.int .i64 W, .int .i64 T, .slice none 0 0] 25)
            generalize hb2 : wr.heap.size = b2 at *
            generalize wr.alloc (.cells #[.int .i64 W, .int .i64 T, .slice none 0 0] 25) = wp at *
            clear HR hb0
            obtain ⟨wo, hwo⟩ : ∃ wo : World, wo = wr := ⟨_, rfl⟩
            subst hwo
            go_loopw [15] (fun i wr => ∃ (k : Nat) (xs : List Bool) (v : Value), k ≤ N ∧ i = .int .i64 k ∧ Hid (xs.length = k) ∧ RegI w g b2 A c bytes W T q' xs v wr ∧ Rd wr (some ⟨b, off, none⟩) (L.map (.int .i64))) (fun i _ => N - (intOf i).toNat)
            case atStart => exact ⟨0, [], _, Nat.zero_le _, rfl, Lib.hid rfl, G0, R0⟩
            case round =>
              clear G0 R0
              obtain ⟨j, xs, v, hj, rfl, HX, HR, RL⟩ := hrel
              obtain ⟨zb, y0, y1, y2, f2⟩ := HR.cells
              obtain ⟨s0, s1, s2, t0, t1, t2⟩ := blk3 HR.res
              obtain ⟨A9, c9, rfl, -⟩ := id HR.own
              by_cases hlt : j < N
              · have hlt2 : (j : Int) < (L.length : Int) := by rw [HL.out]; omega
                have hxl : xs.length ≤ 1000000000000 := by rw [HX.out]; omega
                have hjl : j < L.length := by rw [HL.out]; omega
                have cl := RL.cellEM hjl
                have zbl : b < wr.heap.size := by omega
                generalize L[j] = u at cl
                have H5 := fun o => HR.below (bl_alloc (Below.refl wr.heap.size wr).drew o)
                go_wp2_with fail
                go_region_law (first
                  | (refine step_app_bool _ rfl _ _ rfl (b2 + 1) _ xs rfl (H5 _).own _ _ rfl (cell_of_row _ _ 0 _ _ _ (heap_alloc_new _ _)) hxl (by simp; omega) ?_
                     intro v4 w5 o4 b4
                     obtain ⟨A4, c4, rfl, -⟩ := id o4
                     simp only [List.length_append, List.length_cons, List.length_nil, Nat.zero_add] at o4
                     have T4 := (b4.block b2 (by omega)).trans (H5 _).box
                     have H6 := (H5 _).app o4 b4
                     have RL6 := Rd.keepW (i := 2) (u := .slice A4 (xs.length + 1) c4) (RL.drew.alloc _) (fun ad ha => by injection ha with ha; subst ha; exact hbl) b4
                     obtain ⟨u0, u1, u2, g0, g1, g2⟩ := blk3 T4))
                all_goals (
                  go_wp2
                  go_roundw
                  case rel => refine ⟨j + 1, xs ++ [_], _, by omega, by go_num, Lib.hid (by simp [HX.out]), H6, RL6⟩
                  case measure => simp [intOf]; omega)
              · have hge : ¬ ((j : Int) < (L.length : Int)) := by rw [HL.out]; omega
                have hxl : xs.length ≤ 36 := by rw [HX.out]; omega
                go_wp2_with fail
                refine bodyPost_ret (v := .agg #[.int .i64 W, .int .i64 T, .slice A9 xs.length c9]) (by simp [results, Tryz.results119, go_sem, s0, s1, s2]) rfl ?_
                exact HR.done HR.own (by omega) (by omega)
end Go.Proofs.YtafmpgikdhlknaaGreat
