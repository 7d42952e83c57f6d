/- Contracts: the program's sets of dark cells. -/
import Derived.Test.YtadejjpcdpmpkaaLackN
import Derived.Test.YtadejjpcdpmpkaaOnes
import Derived.Test.YtadejjpcdpmpkaaBesideI
import Derived.Test.YtadejjpcdpmpkaaCellMark
namespace Go.Proofs.Ytadejjpcdpmpkaa
open Go.RowKit

theorem Try.infoU : (Try.prog.info? 71).map (fun i => (i.zero, i.size, i.bytes)) = some (some (.int .u64 0), 1, 8) := by kernel_rfl
theorem dark_lt {W : Int} {bs : List Bool} {x : Int} (h : x ∈ darkL W bs true) : 0 ≤ x ∧ x < bs.length := by
  obtain ⟨i, hi, -, rfl⟩ := mem_pick.1 h
  exact ⟨by omega, by omega⟩
theorem bes_lt {W T : Int} {bs : List Bool} {l : List Int} {x : Int} (h : x ∈ besL W T bs l) : 0 ≤ x ∧ x < bs.length := by
  obtain ⟨i, hi, -, rfl⟩ := mem_pick.1 h
  exact ⟨by omega, by omega⟩
def uV (ms : List Nat) : List Value := ms.map fun x : Nat => .int .u64 (x : Int)
theorem uV_at (ms : List Nat) (k : Nat) (h : k < ms.length) : (uV ms)[k]? = some (.int .u64 (ms[k] : Int)) := by unfold uV; rw [List.getElem?_map, List.getElem?_eq_getElem h]; rfl
theorem uV_set (ms : List Nat) (k x : Nat) : (uV ms).set k (.int .u64 (x : Int)) = uV (ms.set k x) := by unfold uV; rw [List.map_set]
theorem set_same0 {ms : List Nat} {k : Nat} (h : ms.getD k 0 = 0) : ms.set k 0 = ms := by
  apply List.ext_getElem?
  intro j
  rw [List.getElem?_set]
  by_cases e : k = j
  · subst e
    rw [if_pos rfl]
    by_cases hk : k < ms.length
    · rw [if_pos hk, List.getElem?_eq_getElem hk]
      rw [List.getD_eq_getElem?_getD, List.getElem?_eq_getElem hk] at h
      simp at h; rw [h]
    · rw [if_neg hk, List.getElem?_eq_none (by omega)]
  · rw [if_neg e]
/-- the bits of the first k cells' neighbours -/
def MskTo (W T : Int) (bs : List Bool) (D : List Int) (ms : List Nat) (k : Nat) : Prop := ms.length = D.length ∧ ∀ j, j < D.length → if j < k then Msk (ms.getD j 0) (besL W T bs [D.getD j 0]) else ms.getD j 0 = 0
theorem MskTo.next {W T : Int} {bs : List Bool} {D : List Int} {ms : List Nat} {k x : Nat} (h : MskTo W T bs D ms k) (hk : k < D.length) (hx : Msk x (besL W T bs [D.getD k 0])) : MskTo W T bs D (ms.set k x) (k + 1) := by
  refine ⟨by rw [List.length_set]; exact h.1, fun j hj => ?_⟩
  have h2 := h.2 j hj
  rw [List.getD_eq_getElem?_getD, List.getElem?_set]
  by_cases e : k = j
  · subst e
    rw [if_pos (by omega), if_pos rfl, if_pos (by rw [h.1]; exact hk)]
    exact hx
  · rw [if_neg e, ← List.getD_eq_getElem?_getD]
    by_cases hjk : j < k
    · rw [if_pos hjk] at h2; rw [if_pos (by omega)]; exact h2
    · rw [if_neg hjk] at h2; rw [if_neg (by omega)]; exact h2
theorem or_nat (a b : Nat) (ha : a < 18446744073709551616) (hb : b < 18446744073709551616) : bits .or .u64 (a : Int) (b : Int) = ((a ||| b : Nat) : Int) := by
  have hx : a ||| b < 2 ^ 64 := Nat.or_lt_two_pow (by omega) (by omega)
  show IntKind.u64.wrap ((BitVec.ofInt 64 (a : Int) ||| BitVec.ofInt 64 (b : Int)).toNat : Int) = _
  rw [BitVec.toNat_or, ofInt_n64 a ha, ofInt_n64 b hb]
  exact u64_wrap _ (by omega)
theorem two_pow64 {y : Nat} (h : y < 64) : 2 ^ y < 18446744073709551616 := by have := Nat.pow_lt_pow_right (a := 2) (by omega) h; omega
theorem shl_u64 {y : Nat} (h : y < 64) : IntKind.u64.wrap ((2 : Int) ^ y) = ((2 ^ y : Nat) : Int) := by
  rw [show ((2 : Int) ^ y) = ((2 ^ y : Nat) : Int) by rw [Int.natCast_pow]; rfl]
  exact u64_wrap _ (two_pow64 h)
theorem shr_nat (s k : Nat) : (s : Int) / 2 ^ k = ((s / 2 ^ k : Nat) : Int) := by rw [Int.natCast_ediv, Int.natCast_pow]; rfl
theorem bit_test (s k : Nat) (hs : s < 9223372036854775808) : (bits .and .i64 ((s : Int) / 2 ^ k) 1 == 1) = s.testBit k := by
  rw [shr_nat]
  have h1 : s / 2 ^ k < 9223372036854775808 := Nat.lt_of_le_of_lt (Nat.div_le_self _ _) hs
  have h := i64_and_nat (s / 2 ^ k) 1 h1 (by omega)
  rw [show bits .and .i64 ((s / 2 ^ k : Nat) : Int) 1 = ((s / 2 ^ k &&& 1 : Nat) : Int) from h, Nat.and_one_is_mod, Nat.testBit_eq_decide_div_mod_eq]
  rcases Nat.mod_two_eq_zero_or_one (s / 2 ^ k) with e | e <;> rw [e] <;> rfl
set_option maxRecDepth 100000 in
set_option maxHeartbeats 4000000 in
theorem lack_any (W T : Int) (A : Option Addr) (c : Nat) (bs : List Bool) (w : World) (hr : Rd w A (bs.map .bool)) (h1 : 1 ≤ W) (h2 : W ≤ 6) (h3 : 1 ≤ T) (h4 : T ≤ 6) (hl : (bs.length : Int) = W * T) (hn : bs.length ≤ 36) (hd : (darkL W bs true).length ≤ 12) :
    Calls Try.prog 42 #[.agg #[.int .i64 W, .int .i64 T, .slice A bs.length c]] w fun e w' => ∃ (A' : Option Addr) (L : List Int), e = .returned (.tuple #[.slice A' L.length L.length, .int .i64 (bestTo W T bs (darkL W bs true) (2 ^ (darkL W bs true).length)).2]) ∧ L = selTo (darkL W bs true) (bestTo W T bs (darkL W bs true) (2 ^ (darkL W bs true).length)).1 (darkL W bs true).length ∧ Wr w' w.heap.size 3 A' (L.map (.int .i64)) ∧ Below w.heap.size w w' := by
  obtain ⟨i0, hi, hz0, hz1, hz2⟩ := info_parts Try.infoU
  have HZ := Lib.hid (And.intro hz0 (And.intro hz1 hz2))
  have HL := Lib.hid hl
  have HDL := Lib.hid (fun x (hx : x ∈ darkL W bs true) => dark_lt hx)
  have CO := Lib.hid (fun (z : World) (R : Rd z A (bs.map .bool)) => coloured_any W T true A c bs z R h1 h2 hn)
  generalize darkL W bs true = D at hd HDL CO ⊢
  clear hl
  have hb1 : i0.bytes * D.length ≤ 281474976710656 := by rw [hz2]; omega
  have X0 := C3.new w (.int .i64 W) (.int .i64 T) (.slice A bs.length c) 25
  have B0 := bl_alloc (Below.refl w.heap.size w) (.cells #[.int .i64 W, .int .i64 T, .slice A bs.length c] 25)
  have R0 := hr.alloc (.cells #[.int .i64 W, .int .i64 T, .slice A bs.length c] 25)
  go_enter Try.func42, Try.ntmps42
  go_wp2_with fail
  refine (CO.out _ R0).mono ?_
  rintro e w1 ⟨A1, rfl, G1, b1⟩
  have D1 := G1.rd
  have hD0 : D.map (Value.int .i64) ≠ [] → ∀ ad', A1 = some ad' → ad'.block < w1.heap.size := fun hne ad' ha => D1.lt ha hne
  have R1 := R0.belo b1
  have B1 := bl_go B0 b1
  have X1 := X0.belo b1
  have s1 : w.heap.size + 1 ≤ w1.heap.size := by have := b1.size; simpa using this
  clear G1 R0 B0 X0 b1
  go_wp2_with (at_make; refine wpList_make_full _ rfl _ _ 70 rfl w1.heap.size 71 i0 (.int .u64 0) 1 Try.underlying70 hi HZ.out.1 HZ.out.2.1 .i64 .i64 _ _ D.length rfl rfl rfl rfl hb1 (by unfold maxLen; omega) (Nat.le_refl _) ?_; intro w2 hown2 hgrow2)
  have R2 := R1.grown hgrow2 (fun g h => by cases h)
  have D2 := D1.grown hgrow2 (fun g h => by cases h)
  have B2 := B1.grown hgrow2 B1.size (fun g h => by cases h)
  have X2 := X1.below ((Below.refl (w.heap.size + 1) w1).grown hgrow2 (by omega) (fun g h => by cases h)) (by omega)
  have s2 := hgrow2.size
  rw [show (Value.int .u64 0).cells = #[.int .u64 0] from rfl, toList_madeCells_one] at hown2
  clear hgrow2 R1 D1 B1 X1
  generalize w1.heap.size = g at *
  go_loopw [26] (fun i wr => ∃ (k : Nat) (ms : List Nat), k ≤ D.length ∧ i = .int .i64 k ∧ Hid (MskTo W T bs D ms k) ∧ wr.ownsRow g 71 1 (.slice (some ⟨g, 0, none⟩) D.length D.length) D.length (uV ms) ∧ Rd wr A1 (D.map (.int .i64)) ∧ Rd wr A (bs.map .bool) ∧ Below w.heap.size w wr ∧ C3 wr w.heap.size (.int .i64 W) (.int .i64 T) (.slice A bs.length c)) (fun i _ => D.length - (intOf i).toNat)
  case atStart =>
    refine ⟨0, List.replicate D.length 0, Nat.zero_le _, rfl, ⟨by simp, fun j hj => ?_⟩, ?_, D2, R2, B2, X2⟩
    · rw [if_neg (by omega)]; simp [List.getD_eq_getElem?_getD, hj]
    · unfold uV; simpa using hown2
  case round =>
    clear hown2 D2 R2 B2 X2
    obtain ⟨k, ms, hk, rfl, HM, OW, D2, R2, B2, X2⟩ := hrel
    obtain ⟨x0, x1, x2⟩ := id X2
    by_cases hlt : k < D.length
    · obtain ⟨ad, rfl, hc0⟩ := D2.atM hlt
      obtain ⟨q, hq⟩ : ∃ q, D[k] = q := ⟨_, rfl⟩
      have HQ := Lib.hid hq
      rw [hq] at hc0
      clear hq
      have R3 := R2.alloc (.cells #[.int .i64 q] 3)
      have X3 := X2.alloc (.cells #[.int .i64 q] 3)
      have B3 := bl_alloc B2 (.cells #[.int .i64 q] 3)
      have OW3 := OW.alloc (.cells #[.int .i64 q] 3)
      have D3 := D2.alloc (.cells #[.int .i64 q] 3)
      have Q3 : Rd (wr.alloc (.cells #[.int .i64 q] 3)) (some ⟨wr.heap.size, 0, none⟩) ([q].map (.int .i64)) := fun _ => ⟨_, rfl, fun j u hu => by
        match j, hu with
        | 0, hu => simp at hu; subst hu; rw [add_zero']; exact cell_of_row _ _ _ _ _ _ (heap_alloc_new wr _)⟩
      have CB := Lib.hid (beside_any W T A (some ⟨wr.heap.size, 0, none⟩) c 1 bs [q] _ R3 Q3 h1 h2 h3 h4 HL.out hn (by simp))
      go_wp2_with fail
      refine CB.out.mono ?_
      rintro e w4 ⟨A4, rfl, G4, b4⟩
      have OW4 := own_below OW3 b4 (Nat.le_refl _)
      have D4 := D3.belo b4
      have R4 := R3.belo b4
      have B4 := bl_go B3 b4
      have X4 := X3.belo b4
      have L4 := G4.rd
      have hL0 : ∀ ad', A4 = some ad' → g < ad'.block := fun ad' ha => by have := G4.1 ad' ha; have hh := (OW.lt g rfl).2; have : (wr.alloc (.cells #[.int .i64 q] 3)).heap.size = wr.heap.size + 1 := (by simp); omega
      have hkD : D.getD k 0 = q := by rw [List.getD_eq_getElem?_getD, List.getElem?_eq_getElem hlt, HQ.out]; rfl
      have hm0 := HM.out.2 k hlt
      rw [if_neg (by omega)] at hm0
      have HMS := Lib.hid (set_same0 hm0)
      have HML := Lib.hid HM.out.1
      have HBL := Lib.hid (fun x (h : x ∈ besL W T bs [q]) => bes_lt h)
      have HLn : (besL W T bs [q]).length ≤ 36 := Nat.le_trans (besL_len _ _ _ _) hn
      have HNX := Lib.hid (fun x (hx : Msk x (besL W T bs [q])) => HM.out.next hlt (by rw [hkD]; exact hx))
      clear OW3 D3 R3 B3 X3 G4 Q3 b4 OW D2 R2 B2 X2 x0 x1 x2 hm0 hkD
      generalize besL W T bs [q] = L at *
      obtain ⟨wo, hwo⟩ : ∃ wo : World, wo = w4 := ⟨_, rfl⟩
      subst hwo
      go_wp2_with fail
      go_loopw [36] (fun i wr => ∃ (t x : Nat), t ≤ L.length ∧ i = .int .i64 t ∧ Hid (Msk x (L.take t)) ∧ wr.ownsRow g 71 1 (.slice (some ⟨g, 0, none⟩) D.length D.length) D.length (uV (ms.set k x)) ∧ Rd wr (some ad) (D.map (.int .i64)) ∧ Rd wr A (bs.map .bool) ∧ Below w.heap.size w wr ∧ C3 wr w.heap.size (.int .i64 W) (.int .i64 T) (.slice A bs.length c) ∧ Rd wr A4 (L.map (.int .i64))) (fun i _ => L.length - (intOf i).toNat)
      case atStart => exact ⟨0, 0, Nat.zero_le _, rfl, Msk.nil, by rw [HMS.out]; exact OW4, D4, R4, B4, X4, L4⟩
      case round =>
        clear OW4 D4 R4 B4 X4 L4
        obtain ⟨t, x, ht, rfl, HX, OW, D4, R4, B4, X4, L4⟩ := hrel
        by_cases htl : t < L.length
        · obtain ⟨adl, rfl, hcl⟩ := L4.atM htl
          obtain ⟨y0, y1⟩ := HBL.out _ (List.getElem_mem htl)
          obtain ⟨y, hy⟩ : ∃ y, L[t] = y := ⟨_, rfl⟩
          have HY := Lib.hid hy
          rw [hy] at hcl y0 y1
          clear hy
          obtain ⟨yn, rfl⟩ := Int.eq_ofNat_of_zero_le y0
          have hy36 : yn < 36 := by omega
          have hks : k < (ms.set k x).length := by rw [List.length_set, HML.out]; exact hlt
          have hge : (ms.set k x)[k] = x := by simp
          have hc1 := (OW.cellAt k (by omega)).trans (uV_at _ k hks)
          rw [hge] at hc1
          have hf1 := OW.frozenAt k
          have hkI : (k : Int) < (D.length : Int) := by omega
          clear hge hks y0 y1
          go_wp2_with fail
          go_region
          have hor : bits .or .u64 (x : Int) (IntKind.u64.wrap (2 ^ yn)) = ((x ||| 2 ^ yn : Nat) : Int) := by rw [shl_u64 (by omega)]; exact or_nat _ _ HX.out.1 (two_pow64 (by omega))
          rw [hor]
          go_wp2_with fail
          go_roundw
          case rel =>
            have hset := (OW.stored k (.int .u64 ((x ||| 2 ^ yn : Nat) : Int))).1
            rw [uV_set, List.set_set] at hset
            have far := (Below.refl g wr).setCell (p := ⟨g, k, none⟩) (Nat.le_refl _) (.int .u64 ((x ||| 2 ^ yn : Nat) : Int))
            refine ⟨t + 1, x ||| 2 ^ yn, by omega, by go_num, ?_, hset, ?_, ?_, (B4.setCell (by simp; omega) _).drew, X4.below far.drew (by omega), ?_⟩
            · have h := HX.out.add (y := yn) (by omega)
              show Msk _ _
              rw [take_one_more L t htl, HY.out]
              exact h
            · exact (D4.grownBelow (set_grown wr g k (.int .u64 ((x ||| 2 ^ yn : Nat) : Int))) (fun hne ad' ha e => by have := hD0 hne ad' ha; have e' : ad'.block = g := (by simpa using e); omega)).drew
            · exact (R4.grownBelow (set_grown wr g k (.int .u64 ((x ||| 2 ^ yn : Nat) : Int))) (fun hne ad' ha e => by have := hr.lt ha hne; have e' : ad'.block = g := (by simpa using e); omega)).drew
            · exact (L4.grownBelow (set_grown wr g k (.int .u64 ((x ||| 2 ^ yn : Nat) : Int))) (fun _ ad' ha e => by have := hL0 ad' ha; have e' : ad'.block = g := (by simpa using e); omega)).drew
          case measure => simp [intOf]; omega
        · obtain rfl : t = L.length := by omega
          have HXA : Hid (Msk x L) := by have h := HX.out; rw [List.take_length] at h; exact h
          go_wp2_with fail
          go_roundw
          case rel => exact ⟨k + 1, ms.set k x, by omega, by go_num, HNX.out x HXA.out, OW, D4, R4, B4, X4⟩
          case measure => simp [intOf]; omega
    · obtain rfl : k = D.length := by omega
      have hpw : 1 ≤ 2 ^ D.length ∧ 2 ^ D.length ≤ 4096 := by
        have h1 := Nat.pow_le_pow_right (n := 2) (by omega) hd
        have h2 := Nat.pow_pos (n := D.length) (show 0 < 2 by omega)
        omega
      have hshl : IntKind.i64.wrap (2 ^ D.length) = ((2 ^ D.length : Nat) : Int) := by
        rw [show ((2 : Int) ^ D.length) = ((2 ^ D.length : Nat) : Int) by rw [Int.natCast_pow]; rfl]
        exact IntWalk.i64_in _ (by omega)
      have HLO := Lib.hid (fun s (hs : s < 2 ^ D.length) => (bits_low (m := D.length) (s := s) (by omega) hs).trans (sel_len D s D.length).symm)
      generalize hN : 2 ^ D.length = N at hpw hshl HLO ⊢
      have hwN : IntKind.i64.wrap (N : Int) = (N : Int) := IntWalk.i64_in _ (by omega)
      obtain ⟨wo, hwo⟩ : ∃ wo : World, wo = wr := ⟨_, rfl⟩
      subst hwo
      have HN := Lib.hid hN
      clear hN hk hlt
      go_wp2_with fail
      go_loopw [10, 11, 53] (fun be mo i wz => ∃ s : Nat, s ≤ N ∧ i = .int .i64 s ∧ be = .int .i64 ((bestTo W T bs D s).1 : Nat) ∧ mo = .int .i64 (bestTo W T bs D s).2 ∧ wz = wo) (fun _ _ i _ => N - (intOf i).toNat)
      case atStart => exact ⟨0, Nat.zero_le _, rfl, rfl, rfl, rfl⟩
      case round =>
        obtain ⟨s, hs, rfl, rfl, rfl, rfl⟩ := hrel
        have hbd := best_bd W T bs D s hn
        have hlb := lack_bd W T bs D s hn
        by_cases hsl : s < N
        · have hsI : (s : Int) < (N : Int) := by omega
          go_wp2_with fail
          go_loopw [13, 58] (fun al i wz => ∃ (k x : Nat), k ≤ D.length ∧ i = .int .i64 k ∧ al = .int .u64 (x : Int) ∧ Hid (Msk x (besL W T bs (selTo D s k))) ∧ wz = wr) (fun _ i _ => D.length - (intOf i).toNat)
          case atStart => exact ⟨0, 0, Nat.zero_le _, rfl, rfl, by show Msk _ _; rw [show selTo D s 0 = [] from rfl, bes_nil]; exact Msk.nil, rfl⟩
          case round =>
            obtain ⟨k, x, hk, rfl, rfl, HX, rfl⟩ := hrel
            by_cases hlt : k < D.length
            · have HBT := bit_test s k (by omega)
              have hkI : (k : Int) < (D.length : Int) := by omega
              have hks : k < ms.length := by rw [HM.out.1]; exact hlt
              have hc1 := (OW.cellAt k (by omega)).trans (uV_at _ k hks)
              cases hb : s.testBit k with
              | true =>
                rw [hb] at HBT
                have hmk := HM.out.2 k hlt
                rw [if_pos hlt] at hmk
                have hgd : ms.getD k 0 = ms[k] := by rw [List.getD_eq_getElem?_getD, List.getElem?_eq_getElem hks]; rfl
                rw [hgd] at hmk
                obtain ⟨y, hy⟩ : ∃ y, ms[k] = y := ⟨_, rfl⟩
                rw [hy] at hc1 hmk
                have hor := or_nat x y HX.out.1 hmk.1
                have HNX : Hid (Msk (x ||| y) (besL W T bs (selTo D s (k + 1)))) := by
                  show Msk _ _
                  rw [sel_t hb]
                  exact HX.out.or hmk (fun z => bes_more W T bs _ _ _)
                clear hmk hgd hy hks hb
                go_wp2_with fail
                go_roundw
                case rel => exact ⟨k + 1, x ||| y, by omega, by go_num, rfl, HNX.out, trivial⟩
                case measure => simp [intOf]; omega
              | false =>
                rw [hb] at HBT
                have HNX : Hid (Msk x (besL W T bs (selTo D s (k + 1)))) := by show Msk _ _; rw [sel_f hb]; exact HX.out
                clear hc1 hks hb
                go_wp2_with fail
                go_roundw
                case rel => exact ⟨k + 1, x, by omega, by go_num, rfl, HNX.out, trivial⟩
                case measure => simp [intOf]; omega
            · obtain rfl : k = D.length := by omega
              have e1 := HLO.out s hsl
              have e2 : bitsCnt 64 x = (besL W T bs (selTo D s D.length)).length := HX.out.cnt (by omega)
              have C1 := Lib.hid (fun z => ones_any s (by omega) z)
              have C2 := Lib.hid (fun z => ones64_any x HX.out.1 z)
              have huw : IntKind.u64.wrap (s : Int) = s := u64_wrap s (by omega)
              have hlz : ((bitsCnt 64 s : Nat) : Int) - ((bitsCnt 64 x : Nat) : Int) = lackZ W T bs D s := by rw [e1, e2]; rfl
              have hb1 := bits_bd 64 s
              have hb2 := bits_bd 64 x
              have hw1 : IntKind.i64.wrap (((bitsCnt 64 s : Nat) : Int) - ((bitsCnt 64 x : Nat) : Int)) = lackZ W T bs D s := by rw [hlz]; exact IntWalk.i64_in _ (by omega)
              generalize bitsCnt 64 s = u at *
              generalize bitsCnt 64 x = v at *
              have HLZ := Lib.hid hlz
              clear e1 e2 hlz hb1 hb2
              cases hgt : decide ((bestTo W T bs D s).2 < lackZ W T bs D s) with
              | true =>
                have HB := Lib.hid (best_t (of_decide_eq_true hgt))
                go_wp2_with (first
                  | (go_at_call 73; refine (C1.out _).mono ?_; rintro e w' ⟨rfl, rfl⟩)
                  | (go_at_call 74; refine (C2.out _).mono ?_; rintro e w' ⟨rfl, rfl⟩))
                go_roundw
                case rel => exact ⟨s + 1, by omega, by go_num, by rw [HB.out], by rw [HB.out], trivial⟩
                case measure => simp [intOf]; omega
              | false =>
                have HB := Lib.hid (best_f (of_decide_eq_false hgt))
                go_wp2_with (first
                  | (go_at_call 73; refine (C1.out _).mono ?_; rintro e w' ⟨rfl, rfl⟩)
                  | (go_at_call 74; refine (C2.out _).mono ?_; rintro e w' ⟨rfl, rfl⟩))
                go_roundw
                case rel => exact ⟨s + 1, by omega, by go_num, by rw [HB.out], by rw [HB.out], trivial⟩
                case measure => simp [intOf]; omega
        · obtain rfl : s = N := by omega
          obtain ⟨bt, hbt⟩ : ∃ bt, (bestTo W T bs D s).1 = bt := ⟨_, rfl⟩
          rw [hbt]
          have HB1 := Lib.hid hbt
          have hbt2 : bt ≤ 4096 := by omega
          obtain ⟨most, hmo⟩ : ∃ most, (bestTo W T bs D s).2 = most := ⟨_, rfl⟩
          rw [hmo] at hbd ⊢
          have HMO := Lib.hid hmo
          clear hmo
          clear hlb hbt hsl
          have hD9 : wr.heap.size ≤ wr.heap.size := Nat.le_refl _
          obtain ⟨wp, hwp⟩ : ∃ wp : World, wp = wr := ⟨_, rfl⟩
          go_wp2_with fail
          go_loopw [16, 87] (fun v i wz => ∃ (k : Nat) (L : List Int), Hid (L = selTo D bt k) ∧ k ≤ D.length ∧ i = .int .i64 k ∧ OwnI wz wp.heap.size v L ∧ Below wp.heap.size wp wz) (fun _ i _ => D.length - (intOf i).toNat)
          case atStart => exact ⟨0, [], rfl, Nat.zero_le _, rfl, OwnI.nil _ _, by rw [hwp]; exact Below.refl _ _⟩
          case round =>
            obtain ⟨k, L, HA, hk, rfl, hown, BZ⟩ := hrel
            obtain ⟨A3, c3, rfl, hw3⟩ := id hown
            have hLk : L.length ≤ D.length := by rw [HA.out, sel_len]; have := bits_bd k bt; omega
            have DZ := (hwp ▸ D2 : Rd wp _ _).belo BZ
            have hszz := BZ.size
            by_cases hlt : k < D.length
            · obtain ⟨ad, rfl, hc0⟩ := DZ.atM hlt
              have HBT := bit_test bt k (by omega)
              obtain ⟨q, hq⟩ : ∃ q, D[k] = q := ⟨_, rfl⟩
              have hgd : D.getD k 0 = q := by rw [List.getD_eq_getElem?_getD, List.getElem?_eq_getElem hlt, hq]; rfl
              rw [hq] at hc0
              clear hq hw3
              cases hb : bt.testBit k with
              | true =>
                rw [hb] at HBT
                have HS := Lib.hid (sel_t (D := D) hb)
                have HG := Lib.hid hgd
                clear hb hgd
                go_wp2_with (at_builtin; refine app_int _ rfl _ _ rfl wp.heap.size _ _ rfl hown _ rfl (by omega) (by omega) ?_; intro A' c' w4 hown4 hg4)
                have b4 := app_below BZ (Nat.le_refl _) hszz hown hg4
                go_roundw
                case rel => exact ⟨k + 1, L ++ [q], by show _ = _; rw [HS.out, HA.out, HG.out], by omega, by go_num, by simpa using hown4, b4⟩
                case measure => simp [intOf]; omega
              | false =>
                rw [hb] at HBT
                have HS := Lib.hid (sel_f (D := D) hb)
                clear hb hgd
                go_wp2_with fail
                go_roundw
                case rel => exact ⟨k + 1, L, by show _ = _; rw [HS.out, HA.out], by omega, by go_num, hown, BZ⟩
                case measure => simp [intOf]; omega
            · obtain rfl : k = D.length := by omega
              go_wp2_with (go_at_call 75; refine (clip_any _ _ _ _ hown).mono ?_; rintro e w' ⟨rfl, rfl⟩)
              go_ret2
              have hsw : w.heap.size ≤ wp.heap.size := by rw [hwp]; exact B2.size
              exact ⟨A3, L, by rw [HN.out, HMO.out]; rfl, by rw [HN.out, HB1.out]; exact HA.out, (Wr.of_own hw3).lower hsw, (hwp ▸ B2 : Below w.heap.size w wp).trans (BZ.mono hsw)⟩
end Go.Proofs.Ytadejjpcdpmpkaa
