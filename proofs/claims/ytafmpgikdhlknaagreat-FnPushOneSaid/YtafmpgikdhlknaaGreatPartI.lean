
/- Contracts: impl's (Region).parts, partsMany, PartsMany. -/
import Derived.Test.YtafmpgikdhlknaaGreatPrsN
import Derived.Test.YtafmpgikdhlknaaGreatFldB
import Derived.Test.YtafmpgikdhlknaaGreatCell
import Derived.Lib.MinMax
import Derived.Test.YtafmpgikdhlknaaGreatStep
import Derived.Test.YtafmpgikdhlknaaGreatAlive
namespace Go.Proofs.YtafmpgikdhlknaaGreat
open Go.RowKit

def LpLab (w : World) (W T : Int) (A : Option Addr) (c n g : Nat) (M : List Int) (wr : World) : Prop :=
  M.length = n ∧ Wr wr (w.heap.size + 1) 3 (some ⟨g, 0, none⟩) (M.map (.int .i64)) ∧ C3 wr w.heap.size (.int .i64 W) (.int .i64 T) (.slice A n c) ∧ Below w.heap.size w wr
theorem LpLab.cell {w : World} {W T : Int} {A : Option Addr} {c n g : Nat} {M : List Int} {wr : World} (h : LpLab w W T A c n g M wr) {k : Nat} (hk : k < n) :
    wr.cell? ⟨g, k, none⟩ = some (.int .i64 (M.getD k (-1))) ∧ wr.frozen? ⟨g, k, none⟩ = false ∧ w.heap.size < g ∧ g < wr.heap.size := by
  obtain ⟨h1, h2, -, -⟩ := h
  have hm : k < M.length := by omega
  have hne : M.map (Value.int .i64) ≠ [] := by intro e; have := congrArg List.length e; simp at this; rw [this] at hm; simp at hm
  obtain ⟨g2, e2, hlo, hlt, hfr⟩ := h2.form hne
  injection e2 with e2; injection e2 with e2
  subst e2
  obtain ⟨ad, ea, hc⟩ := h2.rd hne
  have cm := hc k (.int .i64 M[k]) (by rw [List.getElem?_map, List.getElem?_eq_getElem hm]; rfl)
  injection ea with ea
  subst ea
  rw [add_off, Nat.zero_add] at cm
  rw [List.getD_eq_getElem?_getD, List.getElem?_eq_getElem hm]
  exact ⟨cm, hfr k, by omega, hlt⟩
theorem LpLab.set {w : World} {W T : Int} {A : Option Addr} {c n g : Nat} {M : List Int} {wr : World} (h : LpLab w W T A c n g M wr) (k : Nat) (v : Int) (hg : w.heap.size < g) :
    LpLab w W T A c n g (M.set k v) (wr.setCell ⟨g, k, none⟩ (.int .i64 v)) := by
  obtain ⟨h1, h2, h3, h4⟩ := h
  exact ⟨by rw [List.length_set]; exact h1, by rw [List.map_set]; exact h2.store k _, h3.set (by simp; omega) _, h4.setCell (by simp; omega) _⟩
theorem LpLab.belo {w : World} {W T : Int} {A : Option Addr} {c n g : Nat} {M : List Int} {wr w' : World} (h : LpLab w W T A c n g M wr) (hb : Below wr.heap.size wr w') : LpLab w W T A c n g M w' :=
  ⟨h.1, h.2.1.belo hb, h.2.2.1.belo hb, bl_go h.2.2.2 hb⟩
set_option maxRecDepth 100000 in
set_option maxHeartbeats 2000000 in
theorem parts_any (W T : Int) (A : Option Addr) (c n : Nat) (bs : List Bool) (w : World) (hr : Rd w A (bs.map .bool)) (hf : FldF W T n) (hn : bs.length = n) :
    Calls Tryz.prog 140 #[.agg #[.int .i64 W, .int .i64 T, .slice A n c]] w fun e w' => ∃ g : Nat, e = .returned (.slice (some ⟨g, 0, none⟩) n n) ∧ Wr w' w.heap.size 3 (some ⟨g, 0, none⟩) ((lbE W T bs).map (.int .i64)) ∧ Below w.heap.size w w' := by
  have X0 := C3.new w (.int .i64 W) (.int .i64 T) (.slice A n c) 25
  have B0 := bl_alloc (Below.refl w.heap.size w) (.cells #[.int .i64 W, .int .i64 T, .slice A n c] 25)
  have n36 : n ≤ 36 := hf.bd
  obtain ⟨w1, w6, t1, t6, hlen⟩ := id hf
  obtain ⟨i0, hi, hz0, hz1, hz2⟩ := info_parts Tryz.infoI
  have hb1 : i0.bytes * n ≤ 281474976710656 := by rw [hz2]; omega
  have HZ := Lib.hid (And.intro hz0 (And.intro hz1 hz2))
  have HLEN := Lib.hid hlen
  have HN := Lib.hid hn
  clear hz0 hz1 hz2 hlen hf hn
  obtain ⟨x0, x1, x2⟩ := id X0
  go_enter Tryz.func140, Tryz.ntmps140
  go_wp2_with (at_make; refine wpList_make_full _ rfl _ _ 29 rfl (w.heap.size + 1) 3 i0 (.int .i64 0) 1 Tryz.underlying29 hi HZ.out.1 HZ.out.2.1 .i64 .i64 _ _ n rfl rfl rfl rfl hb1 (by unfold maxLen; omega) (by simp) ?_; intro v1 hown1 hgrow1; have X1 := (C3.new w (.int .i64 W) (.int .i64 T) (.slice A n c) 25).belo ((Below.refl _ _).grown hgrow1 (Nat.le_refl _) (fun k hk => by cases hk)); obtain ⟨k0, k1, k2⟩ := id X1)
  have L1 : LpLab w W T A c n (w.heap.size + 1) (List.replicate n 0) v1 := by
    have h0 := Wr.of_own hown1
    rw [show (Value.int .i64 0).cells = #[.int .i64 0] from rfl, toList_madeCells_one] at h0
    exact ⟨List.length_replicate, by simpa using h0, X1, (B0.grown hgrow1 B0.size (fun k hk => by cases hk))⟩
  obtain ⟨g, hg⟩ : ∃ g, w.heap.size + 1 = g := ⟨_, rfl⟩
  have hg1 : w.heap.size < g := by omega
  rw [hg] at L1
  simp only [hg]
  clear hown1 hgrow1 X1 X0 B0 x0 x1 x2 HZ hb1 hi hg
  go_loopw [16] (fun i wr => ∃ (k : Nat) (M : List Int), k ≤ n ∧ i = .int .i64 k ∧ Hid (∀ j, j < k → M.getD j (-1) = (lb0 bs).getD j (-1)) ∧ LpLab w W T A c n g M wr) (fun i _ => n - (intOf i).toNat)
  case atStart => exact ⟨0, _, Nat.zero_le _, rfl, Lib.hid (fun j h => absurd h (Nat.not_lt_zero j)), L1⟩
  case round =>
    clear L1 k0 k1 k2
    obtain ⟨k, M, hk, rfl, HM, H1⟩ := hrel
    obtain ⟨x0, x1, x2⟩ := id H1.2.2.1
    by_cases hlt : k < n
    · obtain ⟨ad, rfl, hc⟩ := (hr.below H1.2.2.2 (Nat.le_refl _)).atM (k := k) (by rw [HN.out]; exact hlt)
      obtain ⟨y1, y2, y3, y4⟩ := H1.cell hlt
      have HG := Lib.hid (lb0_get (bs := bs) (k := k) (by rw [HN.out]; exact hlt))
      have HB := Lib.hid (show bs.getD k false = bs[k]'(by rw [HN.out]; exact hlt) by rw [List.getD_eq_getElem?_getD, List.getElem?_eq_getElem (by rw [HN.out]; exact hlt)]; rfl)
      generalize bs[k]'(by rw [HN.out]; exact hlt) = bv at hc HB
      have H2 := H1.set k (-1) hg1
      obtain ⟨z1, z2, z3, z4⟩ := H2.cell hlt
      cases bv with
      | false =>
        go_wp2_with fail
        go_roundw
        case rel => exact ⟨k + 1, _, by omega, by go_num, Lib.hid (fun j hj => by
          rw [getD_set1]
          split
          · rename_i h; obtain ⟨rfl, -⟩ := h; rw [HG.out, HB.out]; rfl
          · rename_i h
            exact HM.out j (by have := H1.1; omega)), H2⟩
        case measure => simp [intOf]; omega
      | true =>
        have H3 := H2.set k (k : Int) hg1
        go_wp2_with fail
        go_roundw
        case rel => exact ⟨k + 1, _, by omega, by go_num, Lib.hid (fun j hj => by
          rw [getD_set1, getD_set1]
          split
          · rename_i h; obtain ⟨rfl, -⟩ := h; rw [HG.out, HB.out]; rfl
          · rename_i h
            have h9 := H1.1
            rw [if_neg (by rw [List.length_set] at h; exact h)]
            rw [List.length_set] at h
            exact HM.out j (by omega)), H3⟩
        case measure => simp [intOf]; omega
    · obtain rfl : k = n := by omega
      obtain rfl : M = lb0 bs := List.ext_getElem? fun j => by
        have h1 := HM.out j
        rcases Nat.lt_or_ge j k with h | h
        · have h2 := h1 h
          rw [List.getD_eq_getElem?_getD, List.getD_eq_getElem?_getD] at h2
          have l1 := H1.1
          have l2 : (lb0 bs).length = k := by unfold lb0; simp [HN.out]
          rw [List.getElem?_eq_getElem (by omega), List.getElem?_eq_getElem (by omega)] at h2 ⊢
          simpa using h2
        · rw [List.getElem?_eq_none (by have := H1.1; omega), List.getElem?_eq_none (by unfold lb0; simp [HN.out]; omega)]
      clear HM hlt
      have hfg : FldG W T k := ⟨w1, t1, HLEN.out⟩
      have HFG := Lib.hid hfg
      clear hfg
      go_wp2_with fail
      go_loopw [33] (fun i wr => ∃ r : Nat, r ≤ k ∧ i = .int .i64 r ∧ LpLab w W T A c k g (lbN W T bs r) wr) (fun i _ => k - (intOf i).toNat)
      case atStart => exact ⟨0, Nat.zero_le _, rfl, H1⟩
      case round =>
        clear H1 x0 x1 x2
        obtain ⟨r, hrk, rfl, H2⟩ := hrel
        obtain ⟨x0, x1, x2⟩ := id H2.2.2.1
        by_cases hlt : r < k
        · go_wp2_with fail
          obtain ⟨wo, hwo⟩ : ∃ wo : World, wo = wr := ⟨_, rfl⟩
          subst hwo
          go_loopw [38] (fun i wr => ∃ q : Nat, q ≤ k ∧ i = .int .i64 q ∧ LpLab w W T A c k g (lbR W T (lbN W T bs r) q) wr) (fun i _ => k - (intOf i).toNat)
          case atStart => exact ⟨0, Nat.zero_le _, rfl, H2⟩
          case round =>
            clear H2 x0 x1 x2
            obtain ⟨q, hqk, rfl, H3⟩ := hrel
            by_cases hlq : q < k
            · go_wp2_with fail
              obtain ⟨wo2, hwo⟩ : ∃ wo2 : World, wo2 = wr := ⟨_, rfl⟩
              subst hwo
              go_loopw [7] (fun i wr => ∃ d : Nat, d ≤ 4 ∧ i = .int .i64 ((d : Int) + 1) ∧ LpLab w W T A c k g (lbD W T (lbR W T (lbN W T bs r) q) q d) wr) (fun i _ => 5 - (intOf i).toNat)
              case atStart => exact ⟨0, Nat.zero_le _, rfl, H3⟩
              case round =>
                clear H3
                obtain ⟨d, hd4, rfl, H4⟩ := hrel
                obtain ⟨x0, x1, x2⟩ := id H4.2.2.1
                by_cases hld : d < 4
                · have HS := Lib.hid (show lbD W T (lbR W T (lbN W T bs r) q) q (d + 1) = lb1 W T (lbD W T (lbR W T (lbN W T bs r) q) q d) q ((d : Int) + 1) from rfl)
                  obtain ⟨M2, hM2⟩ : ∃ M2, lbD W T (lbR W T (lbN W T bs r) q) q (d + 1) = M2 := ⟨_, rfl⟩
                  rw [hM2] at HS
                  have HSD := Lib.hid hM2
                  clear hM2
                  generalize lbD W T (lbR W T (lbN W T bs r) q) q d = M at HS H4
                  have hqW : (q : Int) < W * T := by have := HLEN.out; omega
                  have hd5 : (d : Int) + 1 ≤ 4 := by omega
                  go_wp2_with fail
                  refine (step_any W T _ (q : Int) ((d : Int) + 1) _ w1 w6 t1 t6 (by omega) hqW).mono ?_
                  rintro e w5 ⟨rfl, b5⟩
                  have H5 := H4.belo b5
                  obtain ⟨y1, y2, y3, y4⟩ := H5.cell hlq
                  clear H4 x0 x1 x2 b5
                  obtain ⟨dx, dy, hdir⟩ := isDir_of (show 1 ≤ (d : Int) + 1 ∧ (d : Int) + 1 ≤ 4 by omega)
                  rcases HFG.out.step hlq hdir with ⟨s, e', hs, -⟩ | ⟨e', -⟩
                  · obtain ⟨v1, v2, -, -⟩ := H5.cell hs
                    have HS2 := Lib.hid (show M2 = if 0 ≤ M.getD q (-1) ∧ 0 ≤ M.getD s (-1) then M.set q (min (M.getD q (-1)) (M.getD s (-1))) else M by
                      rw [HS.out]
                      unfold lb1
                      rw [e', Int.toNat_natCast]
                      simp)
                    rw [e']
                    have hs36 : s ≤ 36 := by omega
                    clear e' hdir HS
                    have H6 := H5.set q (min (M.getD q (-1)) (M.getD s (-1))) hg1
                    generalize M.getD q (-1) = a at *
                    generalize M.getD s (-1) = b at *
                    by_cases ha : 0 ≤ a
                    · by_cases hb : 0 ≤ b
                      · go_wp2_with fail
                        go_region
                        go_wp2_with fail
                        go_roundw
                        case rel => exact ⟨d + 1, by omega, by go_num, by rw [HSD.out, HS2.out, if_pos ⟨ha, hb⟩]; exact H6.belo (Below.refl _ _).drew⟩
                        case measure => simp [intOf]; omega
                      · have hb' : decide (0 ≤ b) = false := decide_eq_false hb
                        go_wp2_with fail
                        go_roundw
                        case rel => exact ⟨d + 1, by omega, by go_num, by rw [HSD.out, HS2.out, if_neg (fun x => by have := x.2; omega)]; exact H5⟩
                        case measure => simp [intOf]; omega
                    · have ha' : decide (0 ≤ a) = false := decide_eq_false ha
                      go_wp2_with fail
                      go_roundw
                      case rel => exact ⟨d + 1, by omega, by go_num, by rw [HSD.out, HS2.out, if_neg (fun x => by have := x.1; omega)]; exact H5⟩
                      case measure => simp [intOf]; omega
                  · have HS2 := Lib.hid (show M2 = M by
                      rw [HS.out]
                      unfold lb1
                      rw [e', if_neg (fun x => by have := x.1; omega)])
                    rw [e']
                    clear e' hdir HS
                    go_wp2_with fail
                    go_roundw
                    case rel => exact ⟨d + 1, by omega, by go_num, by rw [HSD.out, HS2.out]; exact H5⟩
                    case measure => simp [intOf]; omega
                · obtain rfl : d = 4 := by omega
                  go_wp2_with fail
                  go_roundw
                  case rel => exact ⟨q + 1, by omega, by go_num, H4⟩
                  case measure => simp [intOf]; omega
            · obtain rfl : q = k := by omega
              go_wp2_with fail
              go_roundw
              case rel => exact ⟨r + 1, by omega, by go_num, by have e : lbN W T bs (r + 1) = lbR W T (lbN W T bs r) bs.length := rfl; rw [e, HN.out]; exact H3⟩
              case measure => simp [intOf]; omega
        · obtain rfl : r = k := by omega
          go_wp2_with fail
          go_ret
          exact ⟨g, rfl, by unfold lbE; rw [HN.out]; exact H2.2.1.lower (Nat.le_succ _), H2.2.2.2⟩
set_option maxRecDepth 100000 in
set_option maxHeartbeats 2000000 in
theorem parts_many (W T : Int) (A : Option Addr) (c n : Nat) (bs : List Bool) (w : World) (hr : Rd w A (bs.map .bool)) (hf : FldF W T n) (hn : bs.length = n) :
    Calls Tryz.prog 118 #[.agg #[.int .i64 W, .int .i64 T, .slice A n c]] w fun e w' => e = .returned (.int .i64 (prtN W T bs : Nat)) ∧ Below w.heap.size w w' := by
  have X0 := C3.new w (.int .i64 W) (.int .i64 T) (.slice A n c) 25
  have B0 := bl_alloc (Below.refl w.heap.size w) (.cells #[.int .i64 W, .int .i64 T, .slice A n c] 25)
  have n36 : n ≤ 36 := hf.bd
  have HE := Lib.hid (show (List.range n).countP (fun c => (lbE W T bs).getD c (-1) == (c : Int)) = prtN W T bs by
    have := lbE_parts (W := W) (T := T) (bs := bs)
    rw [hn] at this
    exact this)
  have HLN := Lib.hid (show (lbE W T bs).length = n by have := (lbN_ok (W := W) (T := T) (bs := bs) bs.length).len; rw [hn] at this; unfold lbE; rw [hn]; exact this)
  have CP := Lib.hid (parts_any W T A c n bs _ (hr.belo B0) hf hn)
  obtain ⟨x0, x1, x2⟩ := id X0
  clear hf hn hr
  generalize lbE W T bs = M at HE HLN CP
  go_enter Tryz.func118, Tryz.ntmps118
  go_wp2_with fail
  refine CP.out.mono ?_
  rintro e w1 ⟨g, rfl, W1, b1⟩
  have B1 := bl_go B0 b1
  have R1 := W1.rd
  clear X0 B0 b1 W1 x0 x1 x2 CP
  go_wp2_with fail
  go_loopw [3, 9] (fun s i wr => ∃ k : Nat, k ≤ n ∧ i = .int .i64 k ∧ s = .int .i64 ((List.range k).countP (fun c => M.getD c (-1) == (c : Int)) : Nat) ∧ wr = w1) (fun _ i _ => n - (intOf i).toNat)
  case atStart => exact ⟨0, Nat.zero_le _, rfl, rfl, rfl⟩
  case round =>
    obtain ⟨k, hk, rfl, rfl, rfl⟩ := hrel
    by_cases hlt : k < n
    · have hkM : k < M.length := by rw [HLN.out]; exact hlt
      obtain ⟨ad, e, hc⟩ := R1.atM hkM
      have HK := Lib.hid (show M.getD k (-1) = M[k] by rw [List.getD_eq_getElem?_getD, List.getElem?_eq_getElem hkM]; rfl)
      have HSU := Lib.hid (show (List.range (k + 1)).countP (fun c => M.getD c (-1) == (c : Int)) = (List.range k).countP (fun c => M.getD c (-1) == (c : Int)) + (if M[k] == (k : Int) then 1 else 0) by
        rw [List.range_succ, List.countP_append, List.countP_singleton, HK.out])
      have hcl : (List.range k).countP (fun c => M.getD c (-1) == (c : Int)) ≤ k := by
        have := List.countP_le_length (p := fun c => M.getD c (-1) == (c : Int)) (l := List.range k)
        rw [List.length_range] at this
        exact this
      generalize (List.range k).countP (fun c => M.getD c (-1) == (c : Int)) = cn at HSU hcl ⊢
      generalize M[k] = v at hc HSU
      injection e with e
      subst e
      rw [add_off, Nat.zero_add] at hc
      clear HK hkM
      cases h1 : (v == (k : Int)) with
      | true =>
        have h2 : ((k : Int) == v) = true := by have := eq_of_beq h1; rw [this]; simp
        rw [h1] at HSU
        go_wp2_with fail
        go_roundw
        case rel => exact ⟨k + 1, by omega, by go_num, by rw [HSU.out]; rfl, trivial⟩
        case measure => simp [intOf]; omega
      | false =>
        have h2 : ((k : Int) == v) = false := by have := ne_of_beq_false h1; rw [beq_eq_false_iff_ne]; omega
        rw [h1] at HSU
        go_wp2_with fail
        go_roundw
        case rel => exact ⟨k + 1, by omega, by go_num, by rw [HSU.out]; rfl, trivial⟩
        case measure => simp [intOf]; omega
    · obtain rfl : k = n := by omega
      rw [HE.out]
      go_wp2_with fail
      go_ret
      exact ⟨rfl, B1⟩
end Go.Proofs.YtafmpgikdhlknaaGreat
