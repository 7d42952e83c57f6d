
/- Contract: the program's PieceRegion. -/
import Derived.Test.YtohbnogmeldmpaaRegN
import Derived.Test.YtohbnogmeldmpaaMoveI
import Derived.Test.YtohbnogmeldmpaaAlive
import Derived.Test.YtohbnogmeldmpaaMemE
namespace Go.Proofs.Ytohbnogmeldmpaa
open Go.RowKit

theorem rd_setO {w : World} {A : Option Addr} {xs : List Value} (h : Rd w A xs) {p : Addr} (hp : ∀ ad, A = some ad → ad.block ≠ p.block) (u : Value) : Rd (w.setCell p u) A xs := fun hn => by
  obtain ⟨ad, rfl, hc⟩ := h hn
  exact ⟨ad, rfl, fun k v hv => (World.cell?_setCell_other _ _ _ _ (fun e => hp ad rfl (by have := congrArg Addr.block e; rw [blk_add] at this; exact this.symm))).trans (hc k v hv)⟩
theorem rdc_set {w : World} {A : Option Addr} {X : List Ce} (h : RdC w A X) {B : Nat} (hA : X ≠ [] → ∀ ad, A = some ad → ad.block < B) {p : Addr} (hp : B ≤ p.block) (u : Value) : RdC (w.setCell p u) A X := by
  by_cases hX : X = []
  · subst hX; exact Rd.nil _ _
  · exact rd_setO h (fun ad ha => by have := hA hX ad ha; omega) u
theorem stay_map (ps : List Ce) : ps.map stayC = ps := by rw [show stayC = id from rfl, List.map_id]
theorem stay_bd (c : Ce) (h : inBd 9 c) : inBd 9 (stayC c) := h
theorem field_len (X : List Ce) : (fieldP X).length = ((hiP X).1 * (hiP X).2).toNat := fillK_len _ _ _ (Nat.le_refl _)
theorem fieldV_len (ps : List Ce) : (fieldP (mvdV stayC ps)).length ≤ 361 := by
  rw [field_len]
  have := field_bd (b := 18) (by omega) (mvdV_bd (f := stayC) (ps := ps) stay_bd)
  omega
theorem lo_ad {w : World} {lo : Nat} {e : TypeId} {A : Option Addr} {xs : List Value} (h : Wr w lo e A xs) (hne : xs ≠ []) : ∀ ad, A = some ad → lo ≤ ad.block ∧ ad.block < w.heap.size := by
  obtain ⟨g, rfl, h1, h2, -⟩ := h.form hne
  rintro ad e
  injection e with e
  subst e
  exact ⟨h1, h2⟩
set_option maxRecDepth 100000 in
set_option maxHeartbeats 4000000 in
theorem iPieceRegion_any (A : Option Addr) (c : Nat) (ps : List Ce) (w : World) (hr : RdC w A ps) (hn : ps.length ≤ maxLen) (hcap : ps.length ≤ c) :
    Calls Try.prog 5 #[.slice A ps.length c] w (NewRW (hiP (mvdV stayC ps)).1 (hiP (mvdV stayC ps)).2 (fieldP (mvdV stayC ps)) w) := by
  cases hp : pieceB ps with
  | false =>
    rw [show mvdV stayC ps = [] by unfold mvdV; rw [hp]; rfl, hiP_nil, fieldP_nil]
    obtain ⟨g0, g1, g2, f0, f1, f2⟩ := blk3 (heap_alloc_new w (.cells #[.int .i64 0, .int .i64 0, .slice none 0 0] 27))
    have CV := Lib.hid (fun (z : World) (R : RdC z A ps) => by have := iPieceValid_any A c ps z R hn hcap; rw [hp] at this; exact this)
    clear hp
    have R0 := hr.alloc (.cells #[.int .i64 0, .int .i64 0, .slice none 0 0] 27)
    have Z0 := bl_alloc (Below.refl w.heap.size w) (.cells #[.int .i64 0, .int .i64 0, .slice none 0 0] 27)
    go_enter Try.func5, Try.ntmps5
    go_wp2_with fail
    refine (CV.out _ R0).mono ?_
    rintro e w1 ⟨rfl, b1⟩
    obtain ⟨h0, h1, h2, k0, k1, k2⟩ := blk3 ((b1.block w.heap.size (by simp)).trans (heap_alloc_new w (.cells #[.int .i64 0, .int .i64 0, .slice none 0 0] 27)))
    have hB := Z0.trans (b1.mono Z0.size)
    clear g0 g1 g2 f0 f1 f2 CV R0 Z0
    go_wp2_with fail
    refine bodyPost_ret (v := .agg #[.int .i64 0, .int .i64 0, .slice none 0 0]) (by simp [results, Try.results5, go_sem, h0, h1, h2]) rfl ⟨none, 0, rfl, Wr.none_ _ _ _, ?_⟩
    exact ((hB.setCell (Nat.le_refl _) _).setCell (Nat.le_refl _) _).setCell (Nat.le_refl _) _
  | true =>
    obtain ⟨⟨l1, l5⟩, hb, -⟩ := ok_of_pieceB hp
    have hU := mvdV_bd (f := stayC) (ps := ps) stay_bd
    have hXl : (mvdV stayC ps).length ≤ 5 := mvdV_len _ _
    have CV := Lib.hid (fun (z : World) (R : RdC z A ps) => by have := iPieceValid_any A c ps z R hn hcap; rw [hp] at this; exact this)
    have CM := Lib.hid (fun (z : World) (R : RdC z A ps) => moved_stay A c ps z R l1 l5 hb)
    rw [show mvd (ps.map stayC) = mvdV stayC ps by unfold mvdV; rw [if_pos hp]] at CM
    generalize mvdV stayC ps = X at *
    have HU := Lib.hid hU
    have HFB := Lib.hid (field_bd (b := 18) (by omega) hU)
    clear hp hb hU l1 l5
    have R0 := hr.alloc (.cells #[.int .i64 0, .int .i64 0, .slice none 0 0] 27)
    have Z0 := bl_alloc (Below.refl w.heap.size w) (.cells #[.int .i64 0, .int .i64 0, .slice none 0 0] 27)
    go_enter Try.func5, Try.ntmps5
    go_wp2_with fail
    refine (CV.out _ R0).mono ?_
    rintro e w1 ⟨rfl, b1⟩
    have R1 : RdC w1 A ps := Rd.belo R0 b1
    have hblk1 := (b1.block w.heap.size (by simp)).trans (heap_alloc_new w (.cells #[.int .i64 0, .int .i64 0, .slice none 0 0] 27))
    have hB1 := Z0.trans (b1.mono Z0.size)
    have hs1 : w.heap.size < w1.heap.size := by have := b1.size; simp at this; omega
    clear R0 Z0 b1
    go_wp2_with fail
    refine (CM.out _ R1).mono ?_
    rintro e w2 ⟨A2, rfl, o2, b2⟩
    have X2 : RdC w2 A2 X := OwnC.rd o2
    have hblk2 := (b2.block w.heap.size hs1).trans hblk1
    have hB2 := bl_go hB1 b2
    have hs2 : w.heap.size < w2.heap.size := Nat.lt_of_lt_of_le hs1 b2.size
    clear o2 b2 R1 hblk1 hB1 CV CM hr hn hcap
    go_wp2_with fail
    go_loopw [4, 5, 19] (fun wi ta i wr => ∃ k : Nat, k ≤ X.length ∧ i = .int .i64 k ∧ wi = .int .i64 (hiK X k).1 ∧ ta = .int .i64 (hiK X k).2 ∧ Below w2.heap.size w2 wr) (fun _ _ i _ => X.length - (intOf i).toNat)
    case atStart => exact ⟨0, Nat.zero_le _, rfl, rfl, rfl, Below.refl _ _⟩
    case round =>
      obtain ⟨k, hk, rfl, rfl, rfl, hbel⟩ := hrel
      by_cases hlt : k < X.length
      · obtain ⟨b, off, rfl, c0, c1⟩ := RdC.at_ (w := wr) (show RdC wr A2 X from Rd.belo X2 hbel) hlt
        have HS := Lib.hid (hiK_step X k hlt)
        have hkb := hiK_bd (b := 18) (by omega) HU.out hk
        obtain ⟨q, hq⟩ : ∃ q, X[k] = q := ⟨_, rfl⟩
        have HQ := Lib.hid hq
        have hqB := HU.out q (by rw [← hq]; exact List.getElem_mem hlt)
        rw [hq] at c0 c1
        clear hq
        obtain ⟨x, y⟩ := q
        unfold upBd at hqB hkb
        simp only at c0 c1 hqB
        obtain ⟨p1, p2, p3, p4⟩ := hqB
        obtain ⟨r1, r2, r3, r4⟩ := hkb
        have hkI : (k : Int) < (X.length : Int) := by omega
        have bel2 := bl_alloc hbel (.cells #[.int .i64 x, .int .i64 y] 42)
        go_wp2_with fail
        go_quiet (fail)
        go_wp2_with fail
        go_roundw
        case rel =>
          refine ⟨k + 1, by omega, by go_num, ?_, ?_, below_drewN' bel2 _⟩
          · rw [HS.out, HQ.out]
          · rw [HS.out, HQ.out]
        case measure => simp [intOf]; omega
      · obtain rfl : k = X.length := by omega
        obtain ⟨H0, n0, n1⟩ := HFB.out
        have hWd : (hiK X X.length).1 = (hiP X).1 := rfl
        have hTd : (hiK X X.length).2 = (hiP X).2 := rfl
        rw [hWd, hTd]
        unfold upBd at H0
        obtain ⟨u1, u2, u3, u4⟩ := H0
        obtain ⟨n, hn⟩ := Int.eq_ofNat_of_zero_le n0
        have hF : fieldP X = fillK (hiP X).1 n X X.length := by unfold fieldP; rw [hn]; rfl
        have HFX := Lib.hid hF
        have HL := Lib.hid (fun k hk => fillK_len (hiP X).1 n X (k := k) hk)
        have HS := Lib.hid (fun k hk => fillK_step (hiP X).1 n X k hk)
        have HZ := Lib.hid (fillK_zero (hiP X).1 n X)
        have HLT := Lib.hid (hiP_lt X)
        generalize (hiP X).1 = W at *
        generalize (hiP X).2 = T at *
        have HN := Lib.hid hn
        have hn400 : n ≤ 400 := by omega
        have CF := Lib.hid (fun z => field_big W T n z u1 (by omega) u3 (by omega) hn)
        have X3 : RdC wr A2 X := Rd.belo X2 hbel
        have hB3 := bl_go hB2 hbel
        have hblk3 := (hbel.block w.heap.size hs2).trans hblk2
        have hs3 : w.heap.size < wr.heap.size := Nat.lt_of_lt_of_le hs2 hbel.size
        have hA2 : X ≠ [] → ∀ ad, A2 = some ad → ad.block < wr.heap.size := fun hne ad ha => X3.lt ha (by intro e; have := congrArg List.length e; rw [cellsV_len] at this; simp at this; exact hne (List.eq_nil_of_length_eq_zero (by omega)))
        clear hlt hk hWd hTd hF n0 n1 hbel hB2 hblk2 X2 HFB hs2
        obtain ⟨wo, hwo⟩ : ∃ wo : World, wo = wr := ⟨_, rfl⟩
        subst hwo
        clear hn
        go_wp2_with fail
        refine (CF.out _).mono ?_
        rintro e w4 ⟨B, cB, rfl, hw, b4⟩
        simp only [List.length_replicate]
        have X4 := X3.belo b4
        have hB4 := bl_go hB3 b4
        have hblk4 := (b4.block w.heap.size hs3).trans hblk3
        have Q4 := hw.belo (bl_alloc (Below.refl _ _) (.cells #[.int .i64 W, .int .i64 T, .slice B n cB] 27))
        have Y4 := C3.new w4 (.int .i64 W) (.int .i64 T) (.slice B n cB) 27
        have X5 := X4.alloc (.cells #[.int .i64 W, .int .i64 T, .slice B n cB] 27)
        have hB5 := bl_alloc hB4 (.cells #[.int .i64 W, .int .i64 T, .slice B n cB] 27)
        have hs4 : w.heap.size < w4.heap.size := Nat.lt_of_lt_of_le hs3 b4.size
        have hblk5 := ((bl_alloc (Below.refl w4.heap.size w4) (.cells #[.int .i64 W, .int .i64 T, .slice B n cB] 27)).block w.heap.size hs4).trans hblk4
        have hBl : ∀ ad, B = some ad → 0 < n → wo.heap.size ≤ ad.block ∧ ad.block < w4.heap.size := fun ad ha h0 => lo_ad hw (by simp; omega) ad ha
        rw [← HZ.out] at Q4
        clear hw X4 hB4 hblk4 b4 X3 hB3 hblk3
        go_wp2_with fail
        generalize w4.alloc (.cells #[.int .i64 W, .int .i64 T, .slice B n cB] 27) = w5 at *
        go_loopw [39] (fun i wr => ∃ k : Nat, k ≤ X.length ∧ i = .int .i64 k ∧ Wr wr wo.heap.size 4 B ((fillK W n X k).map .bool) ∧ RdC wr A2 X ∧ C3 wr w4.heap.size (.int .i64 W) (.int .i64 T) (.slice B n cB) ∧ wr.heap[w.heap.size]? = some (.cells #[.int .i64 0, .int .i64 0, .slice none 0 0] 27 (0, 0)) ∧ Below w.heap.size w wr) (fun i _ => X.length - (intOf i).toNat)
        case atStart => exact ⟨0, Nat.zero_le _, rfl, Q4, X5, Y4, hblk5, hB5⟩
        case round =>
          clear Q4 X5 Y4 hblk5 hB5
          obtain ⟨k, hk, rfl, Q6, X6, Y6, hblk6, hB6⟩ := hrel
          by_cases hlt : k < X.length
          · have hXne : X ≠ [] := by rintro rfl; simp at hlt
            obtain ⟨b, off, rfl, c0, c1⟩ := RdC.at_ X6 hlt
            have HS1 := Lib.hid (HS.out k hlt)
            have hqm : X[k] ∈ X := List.getElem_mem hlt
            have hqB := HU.out _ hqm
            have hqL := HLT.out _ hqm
            obtain ⟨q, hq⟩ : ∃ q, X[k] = q := ⟨_, rfl⟩
            have HQ := Lib.hid hq
            rw [hq] at c0 c1 hqB hqL
            clear hq hqm
            obtain ⟨x, y⟩ := q
            unfold upBd at hqB
            simp only at c0 c1 hqB hqL
            obtain ⟨p1, p2, p3, p4⟩ := hqB
            obtain ⟨q1, q2⟩ := hqL
            obtain ⟨m0, m1⟩ := cell_lt p1 q1 p3 q2
            obtain ⟨j, hj⟩ := Int.eq_ofNat_of_zero_le (show 0 ≤ y * W + x by omega)
            have hjn : j < n := by have := HN.out; omega
            have m400 : y * W ≤ 400 := by have := HN.out; omega
            have hlen := HL.out k hk
            have hne : (fillK W n X k).map Value.bool ≠ [] := by intro e; have := congrArg List.length e; rw [List.length_map, hlen] at this; simp at this; omega
            obtain ⟨g, rfl, hlo, hgs, hfr⟩ := Q6.form hne
            have hf := hfr j
            have hc2 := Q6.rd.cellEM (k := j) (by rw [hlen]; exact hjn)
            rw [Nat.zero_add] at hc2
            obtain ⟨ov, hc3⟩ : ∃ ov, wr.cell? ⟨g, j, none⟩ = some ov := ⟨_, hc2⟩
            have hgb := hBl _ rfl (by omega)
            have hbb := hA2 hXne _ rfl
            simp only at hgb hbb
            obtain ⟨y0, y1, y2⟩ := id Y6
            have hw4r := Y6.lt
            have hjI : (j : Int) < (n : Int) := by omega
            have hkI : (k : Int) < (X.length : Int) := by omega
            have HJ := Lib.hid (show (y * W + x).toNat = j by rw [hj]; rfl)
            clear hfr hne hlen hc2 m1
            go_wp2_with fail
            go_roundw
            case rel =>
              refine ⟨k + 1, by omega, by go_num, ?_, ?_, ?_, ?_, ?_⟩
              · rw [HS1.out, HQ.out, HJ.out, List.map_set]
                exact (Q6.store j _).belo (bl_alloc (Below.refl _ _) _)
              · exact (rd_setO X6 (fun ad ha => by injection ha with ha; subst ha; show b ≠ g; omega) _).alloc _
              · exact (Y6.set (p := ⟨g, j, none⟩) (by show g ≠ _; omega) _).alloc _
              · exact ((bl_alloc (Below.refl (wr.setCell ⟨g, j, none⟩ (.bool true)).heap.size (wr.setCell ⟨g, j, none⟩ (.bool true))) _).block _ (by simp; omega)).trans ((Below.heap_setCell _ _ _ _ (by show w.heap.size ≠ g; omega)).trans hblk6)
              · exact bl_alloc (hB6.setCell (p := ⟨g, j, none⟩) (by show w.heap.size ≤ g; omega) _) _
            case measure => simp [intOf]; omega
          · obtain rfl : k = X.length := by omega
            obtain ⟨g0, g1, g2, f0, f1, f2⟩ := blk3 hblk6
            obtain ⟨y0, y1, y2⟩ := id Y6
            have hlen := HL.out _ (Nat.le_refl X.length)
            have HLN := Lib.hid hlen
            clear hlen
            go_wp2_with fail
            refine bodyPost_ret (v := .agg #[.int .i64 W, .int .i64 T, .slice B n cB]) (by simp [results, Try.results5, go_sem, g0, g1, g2]) rfl ⟨B, cB, by rw [HFX.out, HLN.out], ?_, ?_⟩
            · rw [HFX.out]
              refine (Q6.lower (lo' := w.heap.size) (by omega)).keep fun g hg hg2 => ?_
              have hlo := Q6.1 _ hg
              simp only at hlo
              rw [Below.heap_setCell _ _ _ _ (by simp; omega), Below.heap_setCell _ _ _ _ (by simp; omega), Below.heap_setCell _ _ _ _ (by simp; omega)]
            · exact ((hB6.setCell (Nat.le_refl _) _).setCell (Nat.le_refl _) _).setCell (Nat.le_refl _) _
end Go.Proofs.Ytohbnogmeldmpaa
