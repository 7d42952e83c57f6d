/- Copies, comparison, sizes of lists of lists of cells, as the laws make them; such an argument opened. -/
import Derived.Test.YtnciemnlnijhfaaCellss
namespace Go.Proofs.Ytnciemnlnijhfaa
open Go.RowKit

theorem Try.infoCS : (Try.prog.info? 33).map (fun i => (i.zero, i.size, i.bytes)) = some (some (.slice none 0 0), 1, 24) := by kernel_rfl
/-- what is left of the room, or less than nothing -/
def Room (pss : List (List Ce)) (w : World) (e : Ending) (w' : World) : Prop := ∃ r : Int, e = .returned (.int .i64 r) ∧ Hid (0 ≤ r → pss.length ≤ 1048576 ∧ ∀ ps ∈ pss, ps.length ≤ 1048576) ∧ w = w'
set_option maxHeartbeats 1000000 in
theorem szCellSS_any (A : Option Addr) (c : Nat) (pss : List (List Ce)) (w : World) (hr : RdSS w A pss) (hn : pss.length ≤ maxLen) :
    Calls Try.prog 45 #[.slice A pss.length c, .int .i64 1048576] w (Room pss w) := by
  unfold maxLen at hn
  by_cases hs : pss.length ≤ 1048576
  · have hs1 : (pss.length : Int) ≤ 1048576 := by omega
    go_enter Try.func45, Try.ntmps45
    go_wp2_with fail
    go_loopw [1, 5] (fun l i wr => ∃ (k : Nat) (r : Int), k ≤ pss.length ∧ i = .int .i64 k ∧ l = .int .i64 r ∧ 0 ≤ r ∧ r ≤ 1048576 ∧ Hid (∀ j (h : j < pss.length), j < k → pss[j].length ≤ 1048576) ∧ w = wr) (fun _ i _ => pss.length - (intOf i).toNat)
    case atStart => exact ⟨0, 1048576 - pss.length, Nat.zero_le _, rfl, rfl, by omega, by omega, fun j h h2 => by omega, rfl⟩
    case round =>
      obtain ⟨k, r, hk, rfl, rfl, hr0, hr1, HK, rfl⟩ := hrel
      by_cases hlt : k < pss.length
      · obtain ⟨b, off, A', c', rfl, h1, h2, h3, h4⟩ := hr k hlt
        obtain ⟨n, hnn⟩ : ∃ n, pss[k].length = n := ⟨_, rfl⟩
        have HN := Lib.hid hnn
        rw [hnn] at h1 h2 h3
        clear hnn h4
        by_cases hf : (n : Int) ≤ r
        · go_wp2_with (go_at_call 101; refine (szCellS_t _ _ _ _ _ hr1 hf).mono ?_; rintro e w1 ⟨rfl, rfl⟩)
          go_roundw
          case rel =>
            refine ⟨k + 1, r - n, by omega, by go_num, rfl, by omega, by omega, fun j h h2 => ?_, by trivial⟩
            rcases Nat.lt_or_ge j k with h5 | h5
            · exact HK.out j h h5
            · obtain rfl : j = k := by omega
              rw [HN.out]; omega
          case measure => simp [intOf]; omega
        · have hf' : r < n := by omega
          go_wp2_with (go_at_call 101; refine (szCellS_f _ _ _ _ _ hr0 h3 hf').mono ?_; rintro e w1 ⟨rfl, rfl⟩)
          go_ret
          exact ⟨_, rfl, fun h => by omega, rfl⟩
      · go_wp2_with fail
        go_ret
        exact ⟨_, rfl, fun _ => ⟨hs, fun ps hp => by obtain ⟨j, hj, e⟩ := List.getElem_of_mem hp; rw [← e]; exact HK.out j hj (by omega)⟩, rfl⟩
  · have hs1 : (1048576 : Int) < pss.length := by omega
    go_enter Try.func45, Try.ntmps45
    go_wp2_with fail
    go_ret
    exact ⟨_, rfl, fun h => by omega, rfl⟩
set_option maxHeartbeats 2000000 in
theorem eqCellSS_t (A A' : Option Addr) (c c' : Nat) (pss : List (List Ce)) (w : World) (hr : RdSS w A pss) (hr' : RdSS w A' pss) (hn : pss.length ≤ maxLen) :
    Calls Try.prog 48 #[.slice A pss.length c, .slice A' pss.length c'] w fun e w' => e = .returned (.bool true) ∧ Below w.heap.size w w' := by
  unfold maxLen at hn
  go_enter Try.func48, Try.ntmps48
  go_wp2_with fail
  go_loopw [5] (fun i wr => ∃ k : Nat, k ≤ pss.length ∧ i = .int .i64 k ∧ Below w.heap.size w wr) (fun i _ => pss.length - (intOf i).toNat)
  case atStart => exact ⟨0, Nat.zero_le _, rfl, Below.refl _ _⟩
  case round =>
    obtain ⟨k, hk, rfl, hbel⟩ := hrel
    by_cases hlt : k < pss.length
    · obtain ⟨b, off, A1, c1, rfl, h1, -, h3, h4⟩ := (hr.belo hbel) k hlt
      obtain ⟨g, goff, A2, c2, rfl, k1, -, -, k4⟩ := (hr'.belo hbel) k hlt
      generalize pss[k] = ps at h1 h3 h4 k1 k4
      have gs := World.block_lt_of_cell? wr _ h1
      have gt := World.block_lt_of_cell? wr _ k1
      simp only at gs gt
      have L0 : ∀ z : BW wr, z.wo.cell? ⟨b, off + k, none⟩ = some (.slice A1 ps.length c1) := fun z => z.cell gs h1
      have L1 : ∀ z : BW wr, z.wo.cell? ⟨g, goff + k, none⟩ = some (.slice A2 ps.length c2) := fun z => z.cell gt k1
      go_wp2_with fail
      (refine region_bw (by kernel_rfl) (by kernel_rfl) ?_; (repeat (first | go_big_quiet_skip | (go_big_quiet_want; go_big_quiet_op; first | go_big_quiet_on | (refine ⟨.bool true, fun zz => ?_, ?_⟩; (go_at_call 105; exact zz.on (eqCellS_t _ _ _ _ ps _ (h4.belo zz.ok) (k4.belo zz.ok) h3)); go_big_quiet_on)))); refine wpQuiet_nil ?_; intro wz hw'; obtain ⟨zw, hw''⟩ := hw'; subst hw'')
      go_wp2
      go_roundw
      case rel => exact ⟨k + 1, by omega, by go_num, bl_go hbel zw.ok⟩
      case measure => simp [intOf]; omega
    · go_wp2_with fail
      go_ret
      exact ⟨rfl, hbel⟩
set_option maxRecDepth 100000 in
set_option maxHeartbeats 2000000 in
theorem toCellSS_any (A : Option Addr) (c : Nat) (pss : List (List Ce)) (w : World) (hr : RdSS w A pss) (hn : pss.length ≤ 1048576) (hall : ∀ ps ∈ pss, ps.length ≤ 1048576) :
    Calls Try.prog 47 #[.slice A pss.length c] w fun e w' => ∃ A' : Option Addr, e = .returned (.slice A' pss.length pss.length) ∧ RdSS w' A' pss ∧ Below w.heap.size w w' := by
  obtain ⟨i0, hi, hz0, hz1, hz2⟩ := info_parts Try.infoCS
  have hb1 : i0.bytes * pss.length ≤ 281474976710656 := by rw [hz2]; omega
  have HZ := Lib.hid (And.intro hz0 (And.intro hz1 hz2))
  have HALL := Lib.hid hall
  clear hall
  go_enter Try.func47, Try.ntmps47
  go_wp2_with (at_make; refine wpList_make_full _ rfl _ _ 47 rfl w.heap.size 33 i0 (.slice none 0 0) 1 Try.underlying47 hi HZ.out.1 HZ.out.2.1 .i64 .i64 _ _ pss.length rfl rfl rfl rfl hb1 (by unfold maxLen; omega) (Nat.le_refl _) ?_; intro w1 hown1 hgrow1)
  go_loopw [4] (fun i wr => ∃ (k : Nat) (L : List Value), k ≤ pss.length ∧ i = .int .i64 k ∧ wr.ownsRow w.heap.size 33 1 (.slice (some ⟨w.heap.size, 0, none⟩) pss.length pss.length) pss.length L ∧ Hid (L.length = pss.length ∧ ∀ j (h : j < pss.length), j < k → ∃ A', L[j]? = some (.slice A' pss[j].length pss[j].length) ∧ OwnC wr (w.heap.size + 1) (.slice A' pss[j].length pss[j].length) pss[j]) ∧ Below w.heap.size w wr) (fun i _ => pss.length - (intOf i).toNat)
  case atStart =>
    refine ⟨0, _, Nat.zero_le _, rfl, hown1, ⟨?_, fun j h h2 => by omega⟩, (Below.refl _ _).grown hgrow1 (Nat.le_refl _) (fun k hk => by cases hk)⟩
    rw [show (Value.slice none 0 0).cells = #[.slice none 0 0] from rfl, toList_madeCells_one]; simp
  case round =>
    clear hgrow1 hown1
    obtain ⟨k, L, hk, rfl, hown, HL, hbel⟩ := hrel
    by_cases hlt : k < pss.length
    · obtain ⟨b, off, A1, c1, rfl, h1, h2, h3, h4⟩ := (hr.belo hbel) k hlt
      have hLk : k < L.length := by rw [HL.out.1]; exact hlt
      have hc0 := (hown.cellAt k (by omega)).trans (List.getElem?_eq_getElem hLk)
      have hsz := World.block_lt_of_cell? wr _ hc0
      simp only at hsz
      obtain ⟨ps, hps⟩ : ∃ ps, pss[k] = ps := ⟨_, rfl⟩
      have HPS := Lib.hid hps
      have hpl := HALL.out _ (List.getElem_mem hlt)
      rw [hps] at h1 h2 h3 h4 hpl
      clear hps
      have CC := Lib.hid (toCellS_any A1 c1 ps wr h4 (by omega))
      clear h2 h3 h4
      go_wp2_with (go_at_call 104; refine CC.out.mono ?_; rintro e w3 ⟨A3, rfl, o3, b3⟩; have own3 := own_below hown b3 (Nat.le_refl _); have hf1 := own3.frozenAt k; have hc1 := (own3.cellAt k (by omega)).trans (List.getElem?_eq_getElem hLk))
      go_roundw
      case rel =>
        refine ⟨k + 1, L.set k (.slice A3 ps.length ps.length), by omega, by go_num, (own3.stored k _).1, ⟨by rw [List.length_set]; exact HL.out.1, fun j h h2 => ?_⟩, (hbel.trans (b3.mono hbel.size)).setCell (Nat.le_refl _) _⟩
        have keep : ∀ {v : Value} {qs : List Ce}, OwnC w3 (w.heap.size + 1) v qs → OwnC (w3.setCell ⟨w.heap.size, k, none⟩ (.slice A3 ps.length ps.length)) (w.heap.size + 1) v qs := fun ⟨A5, c5, e5, h5⟩ => ⟨A5, c5, e5, ownsRow_setCell_below h5 (by simp) _⟩
        rcases Nat.lt_or_ge j k with h5 | h5
        · obtain ⟨A6, e6, h6⟩ := HL.out.2 j h h5
          exact ⟨A6, by rw [List.getElem?_set_ne (by omega)]; exact e6, keep (h6.belo b3)⟩
        · obtain rfl : j = k := by omega
          rw [HPS.out]
          exact ⟨A3, by rw [List.getElem?_set_self hLk], keep (o3.base (by omega))⟩
      case measure => simp [intOf]; omega
    · go_wp2_with fail
      go_ret
      refine ⟨_, rfl, fun j hj => ?_, hbel⟩
      obtain ⟨A6, e6, h6⟩ := HL.out.2 j hj (by omega)
      exact ⟨_, 0, A6, _, rfl, by rw [Nat.zero_add]; exact (hown.cellAt j (by omega)).trans e6, Nat.le_refl _, by have := HALL.out _ (List.getElem_mem hj); unfold maxLen; omega, OwnC.rd h6⟩
section
open Go.ChangeShapes Go.WideShapes Go.ChangeAt Go.RowKit Go.Deep
variable {H : Type} {enc : TypeId × Value → H} {w : World} {r : Reach} {b0 base : Nat} {v : Value} {d : DataW H} {p : List MemPlace} {held : Bool} {fuel : Nat} {cs : List Value} {x : DataW H × List MemPlace}
set_option maxRecDepth 100000 in
theorem rd_cellss (h : DataW.trod enc Try.prog w 0 (fun _ => true) held fuel 61 cs = some x) :
    ∃ (A : Option Addr) (c : Nat) (pss : List (List Ce)), cs = [.slice A pss.length c] ∧ pss.length ≤ maxLen ∧ RdSS w A pss := by
  rcases open_slice Try.underlying61 h with ⟨hcs, _⟩ | ⟨a, len, cap, m, n, D, Pl, rfl, hb, hl, hm, hmm, -, hx⟩
  · exact ⟨none, 0, [], by simpa using hcs, by simp, fun k hk => by simp at hk⟩
  · have hmm' : m = cap := by simpa using hmm
    have hc1 : Try.prog.cellsOf 107 = 1 := by kernel_rfl
    have hv : ∀ i, ∃ q : List Ce, i < len → ∃ (A' : Option Addr) (c' : Nat), w.cell? (a.add i) = some (.slice A' q.length c') ∧ q.length ≤ c' ∧ q.length ≤ maxLen ∧ RdC w A' q := fun i => by
      by_cases hi : i < len
      · obtain ⟨cs', h1, h2⟩ := hx i (by omega)
        rw [hc1, Nat.mul_one] at h1
        obtain ⟨A', c', q, rfl, e1, e2, e3⟩ := rd_cells h2
        obtain ⟨_, -, hcell⟩ := World.cells?_some h1
        have h0 := (hcell 0 (by omega)).trans (List.getElem?_cons_zero)
        rw [add_zero'] at h0
        exact ⟨q, fun _ => ⟨A', c', h0, e2, e1, e3⟩⟩
      · exact ⟨[], fun h => absurd h hi⟩
    obtain ⟨f, hf⟩ := Classical.axiomOfChoice hv
    have hlen : ((List.range len).map f).length = len := by simp
    refine ⟨some a, cap, (List.range len).map f, by rw [hlen], by rw [hlen]; omega, fun k hk => ?_⟩
    rw [hlen] at hk
    obtain ⟨A', c', g1, g2, g3, g4⟩ := hf k hk
    obtain ⟨A0, c0, z1, -, -, -⟩ := hf 0 (by omega)
    rw [add_zero'] at z1
    have hs := World.cell?_spot z1
    obtain ⟨b, off, spot⟩ := a
    simp only at hs
    subst hs
    rw [add_off] at g1
    have hg : ((List.range len).map f)[k]'(by rw [hlen]; exact hk) = f k := by rw [List.getElem_map, List.getElem_range]
    rw [hg]
    exact ⟨b, off, A', c', rfl, g1, g2, g3, g4⟩
set_option maxRecDepth 100000 in
/-- a slice of slices of cells that came in -/
theorem open_cellss (hv : Value.okWide Try.prog w r b0 61 v) (h : DataW.Trod enc Try.prog w 0 (fun _ => true) held 61 v d p) :
    ∃ (A : Option Addr) (c : Nat) (pss : List (List Ce)), v = .slice A pss.length c ∧ pss.length ≤ maxLen ∧ RdSS w A pss := by
  obtain ⟨a0, len0, cap0, rfl⟩ := okWide_slice Try.underlying61 hv
  obtain ⟨fuel, hf⟩ := h
  obtain ⟨A, c, zs, hcs, h1, h2⟩ := rd_cellss hf
  simp only [Value.cells, List.cons.injEq, Value.slice.injEq, and_true] at hcs
  obtain ⟨rfl, rfl, rfl⟩ := hcs
  exact ⟨_, _, zs, rfl, h1, h2⟩
end
end Go.Proofs.Ytnciemnlnijhfaa
