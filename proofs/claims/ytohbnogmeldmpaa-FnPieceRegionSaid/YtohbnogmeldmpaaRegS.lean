
/- Contract: the reference's PieceRegion. -/
import Derived.Test.YtohbnogmeldmpaaRegI
import Derived.Test.YtohbnogmeldmpaaMoveT
namespace Go.Proofs.Ytohbnogmeldmpaa
open Go.RowKit

/-- a box of a region -/
def B3 (w : World) (b : Nat) (x y : Int) (z : Value) : Prop := w.heap[b]? = some (.cells #[.int .i64 x, .int .i64 y, z] 27 (0, 0))
theorem B3.lt {w : World} {b : Nat} {x y : Int} {z : Value} (h : B3 w b x y z) : b < w.heap.size := (Array.getElem?_eq_some_iff.1 h).1
theorem B3.new (w : World) (x y : Int) (z : Value) : B3 (w.alloc (.cells #[.int .i64 x, .int .i64 y, z] 27)) w.heap.size x y z := heap_alloc_new w _
theorem B3.belo {w w' : World} {b : Nat} {x y : Int} {z : Value} (h : B3 w b x y z) (hb : Below w.heap.size w w') : B3 w' b x y z := (hb.block b h.lt).trans h
theorem B3.grown {w w' : World} {b : Nat} {x y : Int} {z : Value} {row : Option Nat} (h : B3 w b x y z) (hg : w.grownBy w' row) (hr : row ≠ some b) : B3 w' b x y z := (hg.block b h.lt (fun e => hr e.symm)).trans h
theorem B3.set0 {w : World} {b : Nat} {x y : Int} {z : Value} (h : B3 w b x y z) (u : Int) : B3 (w.setCell ⟨b, 0, none⟩ (.int .i64 u)) b u y z := heap_setCell_same w b 0 _ _ (.int .i64 u) h
theorem B3.set1 {w : World} {b : Nat} {x y : Int} {z : Value} (h : B3 w b x y z) (u : Int) : B3 (w.setCell ⟨b, 1, none⟩ (.int .i64 u)) b x u z := heap_setCell_same w b 1 _ _ (.int .i64 u) h
theorem B3.set2 {w : World} {b : Nat} {x y : Int} {z : Value} (h : B3 w b x y z) (u : Value) : B3 (w.setCell ⟨b, 2, none⟩ u) b x y u := heap_setCell_same w b 2 _ _ u h
theorem B3.other {w : World} {b : Nat} {x y : Int} {z : Value} (h : B3 w b x y z) {p : Addr} (hp : p.block ≠ b) (u : Value) : B3 (w.setCell p u) b x y z := (Below.heap_setCell _ _ _ _ (fun e => hp e.symm)).trans h
theorem hiK_val (X : List Ce) (k : Nat) (x y : Int) (h : k < X.length) (hq : X[k] = (x, y)) : (hiK X (k + 1)).1 = max (hiK X k).1 (x + 1) ∧ (hiK X (k + 1)).2 = max (hiK X k).2 (y + 1) := by
  rw [hiK_step X k h, hq]; exact ⟨rfl, rfl⟩
set_option maxRecDepth 100000 in
set_option maxHeartbeats 4000000 in
theorem sPieceRegion_any (A : Option Addr) (c : Nat) (ps : List Ce) (w : World) (hr : RdC w A ps) (hn : ps.length ≤ maxLen) (hcap : ps.length ≤ c) :
    Calls Try.prog 7 #[.slice A ps.length c] w (NewRW (hiP (mvdV stayC ps)).1 (hiP (mvdV stayC ps)).2 (fieldP (mvdV stayC ps)) w) := by
  have hU := mvdV_bd (f := stayC) (ps := ps) stay_bd
  have hXl : (mvdV stayC ps).length ≤ 5 := mvdV_len _ _
  have CM := Lib.hid (fun (z : World) (R : RdC z A ps) => sPieceMoved_any A c ps z R hn hcap)
  generalize mvdV stayC ps = X at *
  have HU := Lib.hid hU
  have HFB := Lib.hid (field_bd (b := 18) (by omega) hU)
  clear hU
  have R0 := hr.alloc (.cells #[.int .i64 0, .int .i64 0, .slice none 0 0] 27)
  have Z0 := bl_alloc (Below.refl w.heap.size w) (.cells #[.int .i64 0, .int .i64 0, .slice none 0 0] 27)
  go_enter Try.func7, Try.ntmps7
  go_wp2_with fail
  refine (CM.out _ R0).mono ?_
  rintro e w2 ⟨A2, c2, rfl, X2, b2, hf2, hc2⟩
  have hE2 : B3 w2 w.heap.size 0 0 (.slice none 0 0) := B3.belo (B3.new w 0 0 _) b2
  have hB2 := Z0.trans (b2.mono Z0.size)
  have hs2 : w.heap.size < w2.heap.size := hE2.lt
  have hA2 : X ≠ [] → ∀ ad, A2 = some ad → ad.block < w2.heap.size := fun hne ad ha => X2.lt ha (by intro e; have := congrArg List.length e; rw [cellsV_len] at this; simp at this; exact hne (List.eq_nil_of_length_eq_zero (by omega)))
  clear b2 R0 CM hr hn hcap Z0
  have X3 := X2.alloc (.cells #[.int .i64 0, .int .i64 0, .slice none 0 0] 27)
  have hE3 := hE2.belo (bl_alloc (Below.refl w2.heap.size w2) (.cells #[.int .i64 0, .int .i64 0, .slice none 0 0] 27))
  have Y3 := B3.new w2 0 0 (.slice none 0 0)
  have hB3 := bl_alloc hB2 (.cells #[.int .i64 0, .int .i64 0, .slice none 0 0] 27)
  clear X2 hE2 hB2
  go_wp2_with fail
  generalize w2.alloc (.cells #[.int .i64 0, .int .i64 0, .slice none 0 0] 27) = w3 at *
  go_loopw [5] (fun i wr => ∃ k : Nat, k ≤ X.length ∧ i = .int .i64 k ∧ B3 wr w2.heap.size (hiK X k).1 (hiK X k).2 (.slice none 0 0) ∧ RdC wr A2 X ∧ B3 wr w.heap.size 0 0 (.slice none 0 0) ∧ Below w.heap.size w wr) (fun i _ => X.length - (intOf i).toNat)
  case atStart => exact ⟨0, Nat.zero_le _, rfl, Y3, X3, hE3, hB3⟩
  case round =>
    clear X3 Y3 hE3 hB3
    obtain ⟨k, hk, rfl, Y4, X4, hE4, hB4⟩ := hrel
    by_cases hlt : k < X.length
    · have hXne : X ≠ [] := by rintro rfl; simp at hlt
      have hkb := hiK_bd (b := 18) (by omega) HU.out hk
      obtain ⟨q, hq⟩ : ∃ q, X[k] = q := ⟨_, rfl⟩
      have hqB := HU.out q (by rw [← hq]; exact List.getElem_mem hlt)
      obtain ⟨x, y⟩ := q
      have HS := Lib.hid (hiK_val X k x y hlt hq)
      obtain ⟨b, off, rfl, c0, c1⟩ := RdC.at_ X4 hlt
      rw [hq] at c0 c1
      clear hq
      unfold upBd at hqB hkb
      simp only at c0 c1 hqB
      obtain ⟨p1, p2, p3, p4⟩ := hqB
      obtain ⟨r1, r2, r3, r4⟩ := hkb
      have hbb := hA2 hXne _ rfl
      simp only at hbb
      obtain ⟨y0, y1, y2, f0, f1, f2⟩ := blk3 Y4
      have hkI : (k : Int) < (X.length : Int) := by omega
      generalize (hiK X k).1 = W at *
      generalize (hiK X k).2 = T at *
      go_wp2_with fail
      go_region
      have Y5 : B3 (wr.setCell ⟨w2.heap.size, 0, none⟩ (.int .i64 (max W (x + 1)))).drew w2.heap.size (max W (x + 1)) T (.slice none 0 0) := Y4.set0 _
      have X5 : RdC (wr.setCell ⟨w2.heap.size, 0, none⟩ (.int .i64 (max W (x + 1)))).drew (some ⟨b, off, none⟩) X := rd_setO X4 (fun ad ha => by injection ha with ha; subst ha; simp; omega) _
      have hE5 : B3 (wr.setCell ⟨w2.heap.size, 0, none⟩ (.int .i64 (max W (x + 1)))).drew w.heap.size 0 0 (.slice none 0 0) := hE4.other (by simp; omega) _
      have hB5 : Below w.heap.size w (wr.setCell ⟨w2.heap.size, 0, none⟩ (.int .i64 (max W (x + 1)))).drew := (hB4.setCell (by simp; omega) _).drew
      have c0' : (wr.setCell ⟨w2.heap.size, 0, none⟩ (.int .i64 (max W (x + 1)))).drew.cell? ⟨b, off + k * 2, none⟩ = some (.int .i64 x) := (World.cell?_setCell_other wr _ _ _ (fun e => by have := congrArg Addr.block e; simp at this; omega)).trans c0
      have c1' : (wr.setCell ⟨w2.heap.size, 0, none⟩ (.int .i64 (max W (x + 1)))).drew.cell? ⟨b, off + k * 2 + 1, none⟩ = some (.int .i64 y) := (World.cell?_setCell_other wr _ _ _ (fun e => by have := congrArg Addr.block e; simp at this; omega)).trans c1
      clear Y4 X4 hE4 hB4 c0 c1 y0 y1 y2 f0 f1 f2
      go_wp2_with fail
      generalize (wr.setCell ⟨w2.heap.size, 0, none⟩ (.int .i64 (max W (x + 1)))).drew = w5 at *
      obtain ⟨y0, y1, y2, f0, f1, f2⟩ := blk3 Y5
      go_region
      go_wp2_with fail
      go_roundw
      case rel =>
        refine ⟨k + 1, by omega, by go_num, ?_, rd_setO X5 (fun ad ha => by injection ha with ha; subst ha; simp; omega) _, hE5.other (by simp; omega) _, (hB5.setCell (by simp; omega) _).drew⟩
        rw [HS.out.1, HS.out.2]
        exact Y5.set1 _
      case measure => simp [intOf]; omega
    · obtain rfl : k = X.length := by omega
      obtain ⟨H0, n0, n1⟩ := HFB.out
      have hWd : (hiK X X.length).1 = (hiP X).1 := rfl
      have hTd : (hiK X X.length).2 = (hiP X).2 := rfl
      rw [hWd, hTd] at Y4
      unfold upBd at H0
      obtain ⟨u1, u2, u3, u4⟩ := H0
      obtain ⟨n, hn⟩ := Int.eq_ofNat_of_zero_le n0
      have hF : fieldP X = fillK (hiP X).1 n X X.length := by unfold fieldP; rw [hn]; rfl
      have HFX := Lib.hid hF
      have HL := Lib.hid (fun k hk => fillK_len (hiP X).1 n X (k := k) hk)
      have HS := Lib.hid (fun k hk => fillK_step (hiP X).1 n X k hk)
      have HZ := Lib.hid (fillK_zero (hiP X).1 n X)
      have HLT := Lib.hid (hiP_lt X)
      generalize (hiP X).1 = W at *
      generalize (hiP X).2 = T at *
      have HN := Lib.hid hn
      have hn400 : n ≤ 400 := by omega
      obtain ⟨i0, hi, hz0, hz1, hz2⟩ := info_parts Try.infoB
      have hb1 : i0.bytes * n ≤ 281474976710656 := by rw [hz2]; omega
      have HZ2 := Lib.hid (And.intro hz0 (And.intro hz1 hz2))
      clear hz0 hz1 hz2 hlt hk hWd hTd hF HFB hn
      obtain ⟨y0, y1, y2, f0, f1, f2⟩ := blk3 Y4
      have hsz := Y4.lt
      obtain ⟨wo, hwo⟩ : ∃ wo : World, wo = wr := ⟨_, rfl⟩
      subst hwo
      go_wp2_with (at_make; refine wpList_make_full _ rfl _ _ 25 rfl wo.heap.size 4 i0 (.bool false) 1 Try.underlying25 hi HZ2.out.1 HZ2.out.2.1 .i64 .i64 _ _ n rfl rfl HN.out HN.out hb1 (by unfold maxLen; omega) (Nat.le_refl _) ?_; intro w6 hown6 hgrow6; have Y6 := Y4.grown hgrow6 (by simp); obtain ⟨z0, z1, z2, k0, k1, k2⟩ := blk3 Y6)
      have hE6 := hE4.grown hgrow6 (by simp)
      have X6 : RdC w6 A2 X := Rd.grown X4 hgrow6 (fun g hg => by cases hg)
      have hB6 := hB4.grown hgrow6 (by have := hE4.lt; omega) (fun k hk => by cases hk)
      have hQ6 := Wr.of_own hown6
      rw [show (Value.bool false).cells = #[.bool false] from rfl, toList_madeCells_one, Nat.mul_one, ← List.map_replicate (f := Value.bool) (a := false), ← HZ.out] at hQ6
      have hgs : wo.heap.size < w6.heap.size := own_lt hown6 _ rfl
      have Y7 := Y6.set2 (.slice (some ⟨wo.heap.size, 0, none⟩) n n)
      have hE7 := hE6.other (p := ⟨w2.heap.size, 2, none⟩) (by simp; omega) (.slice (some ⟨wo.heap.size, 0, none⟩) n n)
      have X7 : RdC _ A2 X := rdc_set X6 hA2 (p := ⟨w2.heap.size, 2, none⟩) (Nat.le_refl _) (.slice (some ⟨wo.heap.size, 0, none⟩) n n)
      have hB7 := hB6.setCell (p := ⟨w2.heap.size, 2, none⟩) (by simp; omega) (.slice (some ⟨wo.heap.size, 0, none⟩) n n)
      have hQ7 := hQ6.elder (A' := some ⟨w2.heap.size, 2, none⟩) (set_grown w6 w2.heap.size 2 (.slice (some ⟨wo.heap.size, 0, none⟩) n n)) (fun ad ha => by injection ha with ha; subst ha; simpa using hsz)
      clear hown6 hgrow6 Y4 hE4 hB4 X4 Y6 hE6 X6 hB6 hQ6 y0 y1 y2 f0 f1 f2 z0 z1 z2 k0 k1 k2 hb1 hi HZ2 HZ
      go_wp2_with fail
      generalize w6.setCell ⟨w2.heap.size, 2, none⟩ (.slice (some ⟨wo.heap.size, 0, none⟩) n n) = w7 at *
      generalize wo.heap.size = g at *
      have hpg : w2.heap.size < g := hsz
      clear hgs hsz
      go_loopw [6] (fun i wr => ∃ k : Nat, k ≤ X.length ∧ i = .int .i64 k ∧ Wr wr g 4 (some ⟨g, 0, none⟩) ((fillK W n X k).map .bool) ∧ RdC wr A2 X ∧ B3 wr w2.heap.size W T (.slice (some ⟨g, 0, none⟩) n n) ∧ B3 wr w.heap.size 0 0 (.slice none 0 0) ∧ Below w.heap.size w wr) (fun i _ => X.length - (intOf i).toNat)
      case atStart => exact ⟨0, Nat.zero_le _, rfl, hQ7, X7, Y7, hE7, hB7⟩
      case round =>
        clear hQ7 X7 Y7 hE7 hB7
        obtain ⟨k, hk, rfl, Q8, X8, Y8, hE8, hB8⟩ := hrel
        by_cases hlt : k < X.length
        · have hXne : X ≠ [] := by rintro rfl; simp at hlt
          obtain ⟨b, off, rfl, c0, c1⟩ := RdC.at_ X8 hlt
          have HS1 := Lib.hid (HS.out k hlt)
          have hqm : X[k] ∈ X := List.getElem_mem hlt
          have hqB := HU.out _ hqm
          have hqL := HLT.out _ hqm
          obtain ⟨q, hq⟩ : ∃ q, X[k] = q := ⟨_, rfl⟩
          have HQ := Lib.hid hq
          rw [hq] at c0 c1 hqB hqL
          clear hq hqm
          obtain ⟨x, y⟩ := q
          unfold upBd at hqB
          simp only at c0 c1 hqB hqL
          obtain ⟨p1, p2, p3, p4⟩ := hqB
          obtain ⟨q1, q2⟩ := hqL
          obtain ⟨m0, m1⟩ := cell_lt p1 q1 p3 q2
          obtain ⟨j, hj⟩ := Int.eq_ofNat_of_zero_le (show 0 ≤ y * W + x by omega)
          have hjn : j < n := by have := HN.out; omega
          have m400 : y * W ≤ 400 := by have := HN.out; omega
          have hlen := HL.out k hk
          have hne : (fillK W n X k).map Value.bool ≠ [] := by intro e; have := congrArg List.length e; rw [List.length_map, hlen] at this; simp at this; omega
          obtain ⟨g', hg', hlo, hgs, hfr⟩ := Q8.form hne
          obtain rfl : g = g' := by injection hg' with hg'; injection hg'
          have hf := hfr j
          have hc2 := Q8.rd.cellEM (k := j) (by rw [hlen]; exact hjn)
          rw [Nat.zero_add] at hc2
          obtain ⟨ov, hc3⟩ : ∃ ov, wr.cell? ⟨g, j, none⟩ = some ov := ⟨_, hc2⟩
          have hbb := hA2 hXne _ rfl
          simp only at hbb
          obtain ⟨y0, y1, y2, -, -, -⟩ := blk3 Y8
          have hjI : (j : Int) < (n : Int) := by omega
          have hkI : (k : Int) < (X.length : Int) := by omega
          have HJ := Lib.hid (show (y * W + x).toNat = j by rw [hj]; rfl)
          clear hfr hne hlen hc2 m1 hg'
          go_wp2_with fail
          go_region
          go_wp2_with fail
          go_roundw
          case rel =>
            refine ⟨k + 1, by omega, by go_num, ?_, ?_, ?_, ?_, ?_⟩
            · rw [HS1.out, HQ.out, HJ.out, List.map_set]
              exact Q8.store j _
            · exact rdc_set X8 hA2 (by simp; omega) _
            · exact Y8.other (by simp; omega) _
            · exact hE8.other (by simp; omega) _
            · exact (hB8.setCell (by simp; omega) _).drew
          case measure => simp [intOf]; omega
        · obtain rfl : k = X.length := by omega
          obtain ⟨g0, g1, g2, f0, f1, f2⟩ := blk3 hE8
          obtain ⟨y0, y1, y2, -, -, -⟩ := blk3 Y8
          have HLN := Lib.hid (HL.out _ (Nat.le_refl X.length))
          go_wp2_with fail
          refine bodyPost_ret (v := .agg #[.int .i64 W, .int .i64 T, .slice (some ⟨g, 0, none⟩) n n]) (by simp [results, Try.results7, go_sem, g0, g1, g2]) rfl ⟨some ⟨g, 0, none⟩, n, by rw [HFX.out, HLN.out], ?_, ?_⟩
          · rw [HFX.out]
            refine (Q8.lower (lo' := w.heap.size) (by omega)).keep fun g' hg hg2 => ?_
            have hlo := Q8.1 _ hg
            simp only at hlo
            rw [Below.heap_setCell _ _ _ _ (by simp; omega), Below.heap_setCell _ _ _ _ (by simp; omega), Below.heap_setCell _ _ _ _ (by simp; omega)]
          · exact ((hB8.setCell (Nat.le_refl _) _).setCell (Nat.le_refl _) _).setCell (Nat.le_refl _) _
end Go.Proofs.Ytohbnogmeldmpaa
