
/- Contracts: the program's moved pieces. -/
import Derived.Test.YtohbnogmeldmpaaMoveC
namespace Go.Proofs.Ytohbnogmeldmpaa
open Go.RowKit Go.Sort

/-- the first k cells shifted -/
def shifted (m : Ce) (qs : List Ce) (k : Nat) : List Ce := (qs.take k).map (subC m) ++ qs.drop k
theorem shifted_zero (m : Ce) (qs : List Ce) : shifted m qs 0 = qs := by simp [shifted]
theorem shifted_all (m : Ce) (qs : List Ce) : shifted m qs qs.length = qs.map (subC m) := by simp [shifted]
theorem shifted_len (m : Ce) (qs : List Ce) {k : Nat} (h : k ≤ qs.length) : (shifted m qs k).length = qs.length := by simp [shifted]; omega
theorem shifted_cells (m : Ce) (qs : List Ce) {k : Nat} (h : k < qs.length) :
    (cellsV (shifted m qs k))[k * 2]? = some (.int .i64 qs[k].1) ∧ (cellsV (shifted m qs k))[k * 2 + 1]? = some (.int .i64 qs[k].2) := by
  have hl := shifted_len m qs (show k ≤ qs.length by omega)
  have hg := cellsV_get (shifted m qs k) k (by omega)
  have e : (shifted m qs k)[k]'(by omega) = qs[k] := by
    unfold shifted
    rw [List.getElem_append_right (by simp; omega)]
    simp [show min k qs.length = k by omega]
  rw [e] at hg
  exact hg
theorem shifted_set (m : Ce) (qs : List Ce) {k : Nat} (h : k < qs.length) :
    ((cellsV (shifted m qs k)).set (k * 2) (.int .i64 (qs[k].1 - m.1))).set (k * 2 + 1) (.int .i64 (qs[k].2 - m.2)) = cellsV (shifted m qs (k + 1)) := by
  unfold shifted
  have h1 : (cellsV ((qs.take k).map (subC m))).length = k * 2 := by rw [cellsV_len, List.length_map, List.length_take]; omega
  rw [take_one_more qs k h, List.map_append, cellsV_append, cellsV_append, cellsV_append, List.drop_eq_getElem_cons h, List.set_append_right _ _ (by omega), h1, Nat.sub_self,
    List.set_append_right _ _ (by omega), h1, show k * 2 + 1 - k * 2 = 1 by omega, List.append_assoc]
  rfl
/-- a new slice of cells of the call's own -/
def NewOC (L : List Ce) (w : World) (e : Ending) (w' : World) : Prop :=
  ∃ A : Option Addr, e = .returned (.slice A L.length L.length) ∧ OwnC w' w.heap.size (.slice A L.length L.length) L ∧ Below w.heap.size w w'
theorem NewOC.newC {L : List Ce} {w w' : World} {e : Ending} (h : NewOC L w e w') : NewC L w e w' := by
  obtain ⟨A, rfl, ⟨A', c', e', o⟩, b⟩ := h
  exact ⟨A, rfl, Wr.of_ownC o, b⟩

set_option maxRecDepth 100000 in
set_option maxHeartbeats 4000000 in
theorem moved_stay (A : Option Addr) (c : Nat) (ps : List Ce) (w : World) (hr : RdC w A ps) (h1 : 1 ≤ ps.length) (h5 : ps.length ≤ 5) (hb : ∀ q ∈ ps, inBd 9 q) :
    Calls Try.prog 19 #[.slice A ps.length c, .func (.func 20) #[] #[]] w (NewOC (mvd (ps.map stayC)) w) := by
  obtain ⟨i0, hi, hz0, hz1, hz2⟩ := info_parts Try.infoC
  have hb1 : i0.bytes * ps.length ≤ 281474976710656 := by rw [hz2]; omega
  have HZ := Lib.hid (And.intro hz0 (And.intro hz1 hz2))
  have hqb : ∀ q ∈ ps.map stayC, inBd 9 q := fun q hq => by
    obtain ⟨d, hd, rfl⟩ := List.mem_map.1 hq
    have := hb d hd
    unfold stayC inBd at *
    try simp only
    omega
  have hql : (ps.map stayC).length = ps.length := List.length_map _
  have hqk : ∀ k (h : k < ps.length) (h2 : k < (ps.map stayC).length), (ps.map stayC)[k] = stayC ps[k] := fun k h h2 => by simp
  generalize ps.map stayC = qs at hqb hql hqk ⊢
  have HQL := Lib.hid hql
  have HQK := Lib.hid hqk
  have HQB := Lib.hid hqb
  have HB := Lib.hid hb
  clear hqb hql hqk hb
  go_enter Try.func19, Try.ntmps19
  go_wp2_with (at_make; refine wpList_make_full _ rfl _ _ 23 rfl w.heap.size 42 i0 (.agg #[.int .i64 0, .int .i64 0]) 2 Try.underlying23 hi HZ.out.1 HZ.out.2.1 .i64 .i64 _ _ ps.length rfl rfl rfl rfl hb1 (by unfold maxLen; omega) (Nat.le_refl _) ?_; intro w1 hown1 hgrow1)
  go_loopw [18] (fun i wr => ∃ k : Nat, k ≤ ps.length ∧ i = .int .i64 k ∧ wr.ownsRow w.heap.size 42 2 (.slice (some ⟨w.heap.size, 0, none⟩) ps.length ps.length) ps.length (cellsV (qs.take k) ++ List.replicate ((qs.length - k) * 2) (.int .i64 0)) ∧ Below w.heap.size w wr) (fun i _ => ps.length - (intOf i).toNat)
  case atStart =>
    refine ⟨0, Nat.zero_le _, rfl, ?_, (Below.refl _ _).grown hgrow1 (Nat.le_refl _) (fun k hk => by cases hk)⟩
    rw [show (Value.agg #[.int .i64 0, .int .i64 0]).cells = #[.int .i64 0, .int .i64 0] from rfl, made2] at hown1
    rw [HQL.out]
    exact hown1
  case round =>
    clear hgrow1 hown1
    obtain ⟨k, hk, rfl, hown, hbel⟩ := hrel
    by_cases hlt : k < ps.length
    · obtain ⟨b, off, rfl, c0, c1⟩ := RdC.at_ (w := wr) (show RdC wr A ps from hr.belo hbel) hlt
      obtain ⟨q, hq⟩ : ∃ q, ps[k] = q := ⟨_, rfl⟩
      have HQ := Lib.hid hq
      have hqB := HB.out q (by rw [← hq]; exact List.getElem_mem hlt)
      rw [hq] at c0 c1
      clear hq
      obtain ⟨x, y⟩ := q
      unfold inBd at hqB
      simp only at c0 c1 hqB
      obtain ⟨p1, p2, p3, p4⟩ := hqB
      have HQk := Lib.hid (HQK.out k hlt (by rw [HQL.out]; exact hlt))
      have HT := Lib.hid (set2_take qs k (by rw [HQL.out]; exact hlt))
      have HZA := Lib.hid (zero_at qs k (by rw [HQL.out]; exact hlt))
      have own2 := hown.alloc (.cells #[.int .i64 x, .int .i64 y] 42)
      have bel2 := bl_alloc hbel (.cells #[.int .i64 x, .int .i64 y] 42)
      go_wp2_with (go_at_call 20; refine (stay_any x y _).mono ?_; rintro e w3 ⟨rfl, b3⟩; have own3 := own_below own2 b3 (Nat.le_refl _); have hf1 := own3.frozenAt (k * 2); have hf2 := own3.frozenAt (k * 2 + 1); have hc1 := (own3.cellAt (k * 2) (by omega)).trans HZA.out.1; have hc2 := (own3.cellAt (k * 2 + 1) (by omega)).trans HZA.out.2)
      go_roundw
      case rel =>
        refine ⟨k + 1, by omega, by go_num, ?_, ((bl_go bel2 b3).setCell (Nat.le_refl _) _).setCell (Nat.le_refl _) _⟩
        have h1 := ((own3.stored (k * 2) (.int .i64 (x))).1.stored (k * 2 + 1) (.int .i64 (y))).1
        have h2 := HT.out
        rw [HQk.out, HQ.out] at h2
        have h3 : ((cellsV (qs.take k) ++ List.replicate ((qs.length - k) * 2) (Value.int .i64 0)).set (k * 2) (.int .i64 (x))).set (k * 2 + 1) (.int .i64 (y)) = cellsV (qs.take (k + 1)) ++ List.replicate ((qs.length - (k + 1)) * 2) (Value.int .i64 0) := h2
        rw [h3] at h1
        exact h1
      case measure => simp [intOf]; omega
    · obtain rfl : k = ps.length := by omega
      have own1 : wr.ownsRow w.heap.size 42 2 (.slice (some ⟨w.heap.size, 0, none⟩) ps.length ps.length) ps.length (cellsV qs) := by
        have h := hown
        rw [HQL.out, Nat.sub_self, Nat.zero_mul, ← HQL.out, List.take_length] at h
        rw [HQL.out] at h
        simpa using h
      clear hown hlt hk
      have hq0 : 0 < qs.length := by rw [HQL.out]; omega
      obtain ⟨g0, g1⟩ := cellsV_get qs 0 hq0
      have hd0 : qs[0] = loK qs 0 := by rw [loK_zero]; cases qs with | nil => simp at hq0 | cons a l => rfl
      rw [hd0] at g0 g1
      have hc1 := (own1.cellAt 0 (by omega)).trans g0
      have hc2 := (own1.cellAt 1 (by omega)).trans g1
      have hi0 : (0 : Int) < (ps.length : Int) := by omega
      clear g0 g1 hd0 hq0
      go_wp2_with fail
      go_quiet (fail)
      clear hc1 hc2
      have bel1 := hbel
      have own0 := own1
      clear hbel own1
      obtain ⟨wo, hwo⟩ : ∃ wo : World, wo = wr := ⟨_, rfl⟩
      subst hwo
      go_wp2_with fail
      go_loopw [8, 9, 40] (fun l r i wr => ∃ k : Nat, k ≤ ps.length ∧ i = .int .i64 k ∧ l = .int .i64 (loK qs k).1 ∧ r = .int .i64 (loK qs k).2 ∧ wr.ownsRow w.heap.size 42 2 (.slice (some ⟨w.heap.size, 0, none⟩) ps.length ps.length) ps.length (cellsV qs) ∧ Below w.heap.size w wr) (fun _ _ i _ => ps.length - (intOf i).toNat)
      case atStart => exact ⟨0, Nat.zero_le _, rfl, rfl, rfl, own0, below_drewN bel1 _⟩
      case round =>
        clear own0 bel1
        obtain ⟨k, hk, rfl, rfl, rfl, hown, hbel⟩ := hrel
        by_cases hlt : k < ps.length
        · have hqlt : k < qs.length := by rw [HQL.out]; exact hlt
          obtain ⟨g0, g1⟩ := cellsV_get qs k hqlt
          have hc1 := (hown.cellAt (k * 2) (by omega)).trans g0
          have hc2 := (hown.cellAt (k * 2 + 1) (by omega)).trans g1
          have HS := Lib.hid (loK_step qs k hqlt)
          obtain ⟨q, hq⟩ : ∃ q, qs[k] = q := ⟨_, rfl⟩
          have HQ := Lib.hid hq
          rw [hq] at hc1 hc2
          clear hq g0 g1
          obtain ⟨x, y⟩ := q
          simp only at hc1 hc2
          have own2 := hown.alloc (.cells #[.int .i64 x, .int .i64 y] 42)
          have bel2 := bl_alloc hbel (.cells #[.int .i64 x, .int .i64 y] 42)
          go_wp2_with fail
          go_quiet (fail)
          go_wp2_with fail
          go_roundw
          case rel =>
            refine ⟨k + 1, by omega, by go_num, ?_, ?_, own2, below_drewN' bel2 _⟩
            · rw [HS.out, HQ.out]
            · rw [HS.out, HQ.out]
          case measure => simp [intOf]; omega
        · obtain rfl : k = ps.length := by omega
          have own0 := hown
          have bel1 := hbel
          clear hown hbel hlt hk
          obtain ⟨m, hm⟩ : ∃ m, loK qs ps.length = m := ⟨_, rfl⟩
          have HM := Lib.hid hm
          have hmB : inBd 9 m := by rw [← hm]; exact loK_bd HQB.out (by omega) _
          rw [hm]
          clear hm
          obtain ⟨mx, my⟩ := m
          unfold inBd at hmB
          simp only at hmB ⊢
          obtain ⟨m1, m2, m3, m4⟩ := hmB
          obtain ⟨wo, hwo⟩ : ∃ wo : World, wo = wr := ⟨_, rfl⟩
          subst hwo
          go_wp2_with fail
          go_loopw [55] (fun i wr => ∃ k : Nat, k ≤ ps.length ∧ i = .int .i64 k ∧ wr.ownsRow w.heap.size 42 2 (.slice (some ⟨w.heap.size, 0, none⟩) ps.length ps.length) ps.length (cellsV (shifted (mx, my) qs k)) ∧ Below w.heap.size w wr) (fun i _ => ps.length - (intOf i).toNat)
          case atStart => exact ⟨0, Nat.zero_le _, rfl, by rw [shifted_zero]; exact own0, bel1⟩
          case round =>
            clear own0 bel1
            obtain ⟨k, hk, rfl, hown, hbel⟩ := hrel
            by_cases hlt : k < ps.length
            · have hqlt : k < qs.length := by rw [HQL.out]; exact hlt
              obtain ⟨g0, g1⟩ := shifted_cells (mx, my) qs hqlt
              have hc1 := (hown.cellAt (k * 2) (by omega)).trans g0
              have hc2 := (hown.cellAt (k * 2 + 1) (by omega)).trans g1
              have hf1 := hown.frozenAt (k * 2)
              have hf2 := hown.frozenAt (k * 2 + 1)
              have HS := Lib.hid (shifted_set (mx, my) qs hqlt)
              obtain ⟨q, hq⟩ : ∃ q, qs[k] = q := ⟨_, rfl⟩
              have HQ := Lib.hid hq
              have hqB := HQB.out q (by rw [← hq]; exact List.getElem_mem hqlt)
              rw [hq] at hc1 hc2
              clear hq g0 g1
              obtain ⟨x, y⟩ := q
              unfold inBd at hqB
              simp only at hc1 hc2 hqB
              obtain ⟨p1, p2, p3, p4⟩ := hqB
              go_wp2_with fail
              go_roundw
              case rel =>
                refine ⟨k + 1, by omega, by go_num, ?_, (hbel.setCell (Nat.le_refl _) _).setCell (Nat.le_refl _) _⟩
                have h1 := ((hown.stored (k * 2) (.int .i64 (x - mx))).1.stored (k * 2 + 1) (.int .i64 (y - my))).1
                have h2 := HS.out
                rw [HQ.out] at h2
                have h3 : ((cellsV (shifted (mx, my) qs k)).set (k * 2) (.int .i64 (x - mx))).set (k * 2 + 1) (.int .i64 (y - my)) = cellsV (shifted (mx, my) qs (k + 1)) := h2
                rw [h3] at h1
                exact h1
              case measure => simp [intOf]; omega
            · obtain rfl : k = ps.length := by omega
              have HE : Hid (sortC (qs.map (subC (mx, my))) = mvd qs) := by
                show _ = _
                unfold mvd loP
                rw [HQL.out, HM.out]
              have own1 : wr.ownsRow w.heap.size 42 2 (.slice (some ⟨w.heap.size, 0, none⟩) (qs.map (subC (mx, my))).length ps.length) (qs.map (subC (mx, my))).length (cellsV (qs.map (subC (mx, my)))) := by
                have h := hown
                rw [show shifted (mx, my) qs ps.length = qs.map (subC (mx, my)) by rw [← HQL.out, shifted_all]] at h
                rw [List.length_map, HQL.out]
                exact h
              have hL : (qs.map (subC (mx, my))).length = ps.length := by rw [List.length_map, HQL.out]
              have HML : Hid ((mvd qs).length = ps.length) := by show _ = _; rw [mvd_len, HQL.out]
              have hcon := sortCells_any w.heap.size ps.length w.heap.size _ wr own1 (by omega)
              rw [hL, HE.out] at hcon
              have hsz := hbel.size
              have HC := Lib.hid hcon
              clear hcon hL own1 hown
              go_wp2_with fail
              refine HC.out.mono ?_
              rintro e w2 ⟨rfl, o2, B2⟩
              have b2 := B2 w.heap.size w (Nat.le_refl _) hsz hbel
              go_wp2
              go_ret
              refine ⟨some ⟨w.heap.size, 0, none⟩, by rw [HML.out]; rfl, ⟨_, _, rfl, ?_⟩, b2⟩
              rw [HML.out]
              exact o2

set_option maxHeartbeats 1000000 in
theorem movedValid_stay (A : Option Addr) (c : Nat) (ps : List Ce) (w : World) (hr : RdC w A ps) (hn : ps.length ≤ maxLen) (hcap : ps.length ≤ c) :
    Calls Try.prog 33 #[.slice A ps.length c, .func (.func 20) #[] #[]] w (NewOC (mvdV stayC ps) w) := by
  cases hp : pieceB ps with
  | true =>
    obtain ⟨⟨h1, h5⟩, hb, -⟩ := ok_of_pieceB hp
    rw [show mvdV stayC ps = mvd (ps.map stayC) by unfold mvdV; rw [if_pos hp]]
    have HP := Lib.hid hp
    have HB := Lib.hid (show ∀ q ∈ ps, inBd 9 q from hb)
    clear hp hb
    go_enter Try.func33, Try.ntmps33
    go_wp2_with fail
    refine (iPieceValid_any _ _ _ _ hr hn hcap).mono ?_
    rintro e w1 ⟨rfl, b1⟩
    rw [HP.out]
    go_wp2_with fail
    refine (moved_stay _ _ _ _ (hr.belo b1) h1 h5 HB.out).mono ?_
    rintro e w2 ⟨A2, rfl, o2, b2⟩
    go_wp2
    go_ret
    exact ⟨A2, rfl, o2.base b1.size, bl_go b1 b2⟩
  | false =>
    rw [show mvdV stayC ps = [] by unfold mvdV; rw [hp]; rfl]
    have HP := Lib.hid hp
    clear hp
    go_enter Try.func33, Try.ntmps33
    go_wp2_with fail
    refine (iPieceValid_any _ _ _ _ hr hn hcap).mono ?_
    rintro e w1 ⟨rfl, b1⟩
    rw [HP.out]
    go_wp2
    go_ret
    exact ⟨none, rfl, ⟨none, 0, rfl, World.ownsRow_nil _ _ _ _⟩, b1⟩

set_option maxRecDepth 100000 in
set_option maxHeartbeats 4000000 in
theorem moved_turn (A : Option Addr) (c : Nat) (ps : List Ce) (w : World) (hr : RdC w A ps) (h1 : 1 ≤ ps.length) (h5 : ps.length ≤ 5) (hb : ∀ q ∈ ps, inBd 9 q) :
    Calls Try.prog 19 #[.slice A ps.length c, .func (.func 34) #[] #[]] w (NewOC (mvd (ps.map turnC)) w) := by
  obtain ⟨i0, hi, hz0, hz1, hz2⟩ := info_parts Try.infoC
  have hb1 : i0.bytes * ps.length ≤ 281474976710656 := by rw [hz2]; omega
  have HZ := Lib.hid (And.intro hz0 (And.intro hz1 hz2))
  have hqb : ∀ q ∈ ps.map turnC, inBd 9 q := fun q hq => by
    obtain ⟨d, hd, rfl⟩ := List.mem_map.1 hq
    have := hb d hd
    unfold turnC inBd at *
    try simp only
    omega
  have hql : (ps.map turnC).length = ps.length := List.length_map _
  have hqk : ∀ k (h : k < ps.length) (h2 : k < (ps.map turnC).length), (ps.map turnC)[k] = turnC ps[k] := fun k h h2 => by simp
  generalize ps.map turnC = qs at hqb hql hqk ⊢
  have HQL := Lib.hid hql
  have HQK := Lib.hid hqk
  have HQB := Lib.hid hqb
  have HB := Lib.hid hb
  clear hqb hql hqk hb
  go_enter Try.func19, Try.ntmps19
  go_wp2_with (at_make; refine wpList_make_full _ rfl _ _ 23 rfl w.heap.size 42 i0 (.agg #[.int .i64 0, .int .i64 0]) 2 Try.underlying23 hi HZ.out.1 HZ.out.2.1 .i64 .i64 _ _ ps.length rfl rfl rfl rfl hb1 (by unfold maxLen; omega) (Nat.le_refl _) ?_; intro w1 hown1 hgrow1)
  go_loopw [18] (fun i wr => ∃ k : Nat, k ≤ ps.length ∧ i = .int .i64 k ∧ wr.ownsRow w.heap.size 42 2 (.slice (some ⟨w.heap.size, 0, none⟩) ps.length ps.length) ps.length (cellsV (qs.take k) ++ List.replicate ((qs.length - k) * 2) (.int .i64 0)) ∧ Below w.heap.size w wr) (fun i _ => ps.length - (intOf i).toNat)
  case atStart =>
    refine ⟨0, Nat.zero_le _, rfl, ?_, (Below.refl _ _).grown hgrow1 (Nat.le_refl _) (fun k hk => by cases hk)⟩
    rw [show (Value.agg #[.int .i64 0, .int .i64 0]).cells = #[.int .i64 0, .int .i64 0] from rfl, made2] at hown1
    rw [HQL.out]
    exact hown1
  case round =>
    clear hgrow1 hown1
    obtain ⟨k, hk, rfl, hown, hbel⟩ := hrel
    by_cases hlt : k < ps.length
    · obtain ⟨b, off, rfl, c0, c1⟩ := RdC.at_ (w := wr) (show RdC wr A ps from hr.belo hbel) hlt
      obtain ⟨q, hq⟩ : ∃ q, ps[k] = q := ⟨_, rfl⟩
      have HQ := Lib.hid hq
      have hqB := HB.out q (by rw [← hq]; exact List.getElem_mem hlt)
      rw [hq] at c0 c1
      clear hq
      obtain ⟨x, y⟩ := q
      unfold inBd at hqB
      simp only at c0 c1 hqB
      obtain ⟨p1, p2, p3, p4⟩ := hqB
      have HQk := Lib.hid (HQK.out k hlt (by rw [HQL.out]; exact hlt))
      have HT := Lib.hid (set2_take qs k (by rw [HQL.out]; exact hlt))
      have HZA := Lib.hid (zero_at qs k (by rw [HQL.out]; exact hlt))
      have own2 := hown.alloc (.cells #[.int .i64 x, .int .i64 y] 42)
      have bel2 := bl_alloc hbel (.cells #[.int .i64 x, .int .i64 y] 42)
      go_wp2_with (go_at_call 34; refine (turn_any x y _ p3 p4).mono ?_; rintro e w3 ⟨rfl, b3⟩; have own3 := own_below own2 b3 (Nat.le_refl _); have hf1 := own3.frozenAt (k * 2); have hf2 := own3.frozenAt (k * 2 + 1); have hc1 := (own3.cellAt (k * 2) (by omega)).trans HZA.out.1; have hc2 := (own3.cellAt (k * 2 + 1) (by omega)).trans HZA.out.2)
      go_roundw
      case rel =>
        refine ⟨k + 1, by omega, by go_num, ?_, ((bl_go bel2 b3).setCell (Nat.le_refl _) _).setCell (Nat.le_refl _) _⟩
        have h1 := ((own3.stored (k * 2) (.int .i64 (-y))).1.stored (k * 2 + 1) (.int .i64 (x))).1
        have h2 := HT.out
        rw [HQk.out, HQ.out] at h2
        have h3 : ((cellsV (qs.take k) ++ List.replicate ((qs.length - k) * 2) (Value.int .i64 0)).set (k * 2) (.int .i64 (-y))).set (k * 2 + 1) (.int .i64 (x)) = cellsV (qs.take (k + 1)) ++ List.replicate ((qs.length - (k + 1)) * 2) (Value.int .i64 0) := h2
        rw [h3] at h1
        exact h1
      case measure => simp [intOf]; omega
    · obtain rfl : k = ps.length := by omega
      have own1 : wr.ownsRow w.heap.size 42 2 (.slice (some ⟨w.heap.size, 0, none⟩) ps.length ps.length) ps.length (cellsV qs) := by
        have h := hown
        rw [HQL.out, Nat.sub_self, Nat.zero_mul, ← HQL.out, List.take_length] at h
        rw [HQL.out] at h
        simpa using h
      clear hown hlt hk
      have hq0 : 0 < qs.length := by rw [HQL.out]; omega
      obtain ⟨g0, g1⟩ := cellsV_get qs 0 hq0
      have hd0 : qs[0] = loK qs 0 := by rw [loK_zero]; cases qs with | nil => simp at hq0 | cons a l => rfl
      rw [hd0] at g0 g1
      have hc1 := (own1.cellAt 0 (by omega)).trans g0
      have hc2 := (own1.cellAt 1 (by omega)).trans g1
      have hi0 : (0 : Int) < (ps.length : Int) := by omega
      clear g0 g1 hd0 hq0
      go_wp2_with fail
      go_quiet (fail)
      clear hc1 hc2
      have bel1 := hbel
      have own0 := own1
      clear hbel own1
      obtain ⟨wo, hwo⟩ : ∃ wo : World, wo = wr := ⟨_, rfl⟩
      subst hwo
      go_wp2_with fail
      go_loopw [8, 9, 40] (fun l r i wr => ∃ k : Nat, k ≤ ps.length ∧ i = .int .i64 k ∧ l = .int .i64 (loK qs k).1 ∧ r = .int .i64 (loK qs k).2 ∧ wr.ownsRow w.heap.size 42 2 (.slice (some ⟨w.heap.size, 0, none⟩) ps.length ps.length) ps.length (cellsV qs) ∧ Below w.heap.size w wr) (fun _ _ i _ => ps.length - (intOf i).toNat)
      case atStart => exact ⟨0, Nat.zero_le _, rfl, rfl, rfl, own0, below_drewN bel1 _⟩
      case round =>
        clear own0 bel1
        obtain ⟨k, hk, rfl, rfl, rfl, hown, hbel⟩ := hrel
        by_cases hlt : k < ps.length
        · have hqlt : k < qs.length := by rw [HQL.out]; exact hlt
          obtain ⟨g0, g1⟩ := cellsV_get qs k hqlt
          have hc1 := (hown.cellAt (k * 2) (by omega)).trans g0
          have hc2 := (hown.cellAt (k * 2 + 1) (by omega)).trans g1
          have HS := Lib.hid (loK_step qs k hqlt)
          obtain ⟨q, hq⟩ : ∃ q, qs[k] = q := ⟨_, rfl⟩
          have HQ := Lib.hid hq
          rw [hq] at hc1 hc2
          clear hq g0 g1
          obtain ⟨x, y⟩ := q
          simp only at hc1 hc2
          have own2 := hown.alloc (.cells #[.int .i64 x, .int .i64 y] 42)
          have bel2 := bl_alloc hbel (.cells #[.int .i64 x, .int .i64 y] 42)
          go_wp2_with fail
          go_quiet (fail)
          go_wp2_with fail
          go_roundw
          case rel =>
            refine ⟨k + 1, by omega, by go_num, ?_, ?_, own2, below_drewN' bel2 _⟩
            · rw [HS.out, HQ.out]
            · rw [HS.out, HQ.out]
          case measure => simp [intOf]; omega
        · obtain rfl : k = ps.length := by omega
          have own0 := hown
          have bel1 := hbel
          clear hown hbel hlt hk
          obtain ⟨m, hm⟩ : ∃ m, loK qs ps.length = m := ⟨_, rfl⟩
          have HM := Lib.hid hm
          have hmB : inBd 9 m := by rw [← hm]; exact loK_bd HQB.out (by omega) _
          rw [hm]
          clear hm
          obtain ⟨mx, my⟩ := m
          unfold inBd at hmB
          simp only at hmB ⊢
          obtain ⟨m1, m2, m3, m4⟩ := hmB
          obtain ⟨wo, hwo⟩ : ∃ wo : World, wo = wr := ⟨_, rfl⟩
          subst hwo
          go_wp2_with fail
          go_loopw [55] (fun i wr => ∃ k : Nat, k ≤ ps.length ∧ i = .int .i64 k ∧ wr.ownsRow w.heap.size 42 2 (.slice (some ⟨w.heap.size, 0, none⟩) ps.length ps.length) ps.length (cellsV (shifted (mx, my) qs k)) ∧ Below w.heap.size w wr) (fun i _ => ps.length - (intOf i).toNat)
          case atStart => exact ⟨0, Nat.zero_le _, rfl, by rw [shifted_zero]; exact own0, bel1⟩
          case round =>
            clear own0 bel1
            obtain ⟨k, hk, rfl, hown, hbel⟩ := hrel
            by_cases hlt : k < ps.length
            · have hqlt : k < qs.length := by rw [HQL.out]; exact hlt
              obtain ⟨g0, g1⟩ := shifted_cells (mx, my) qs hqlt
              have hc1 := (hown.cellAt (k * 2) (by omega)).trans g0
              have hc2 := (hown.cellAt (k * 2 + 1) (by omega)).trans g1
              have hf1 := hown.frozenAt (k * 2)
              have hf2 := hown.frozenAt (k * 2 + 1)
              have HS := Lib.hid (shifted_set (mx, my) qs hqlt)
              obtain ⟨q, hq⟩ : ∃ q, qs[k] = q := ⟨_, rfl⟩
              have HQ := Lib.hid hq
              have hqB := HQB.out q (by rw [← hq]; exact List.getElem_mem hqlt)
              rw [hq] at hc1 hc2
              clear hq g0 g1
              obtain ⟨x, y⟩ := q
              unfold inBd at hqB
              simp only at hc1 hc2 hqB
              obtain ⟨p1, p2, p3, p4⟩ := hqB
              go_wp2_with fail
              go_roundw
              case rel =>
                refine ⟨k + 1, by omega, by go_num, ?_, (hbel.setCell (Nat.le_refl _) _).setCell (Nat.le_refl _) _⟩
                have h1 := ((hown.stored (k * 2) (.int .i64 (x - mx))).1.stored (k * 2 + 1) (.int .i64 (y - my))).1
                have h2 := HS.out
                rw [HQ.out] at h2
                have h3 : ((cellsV (shifted (mx, my) qs k)).set (k * 2) (.int .i64 (x - mx))).set (k * 2 + 1) (.int .i64 (y - my)) = cellsV (shifted (mx, my) qs (k + 1)) := h2
                rw [h3] at h1
                exact h1
              case measure => simp [intOf]; omega
            · obtain rfl : k = ps.length := by omega
              have HE : Hid (sortC (qs.map (subC (mx, my))) = mvd qs) := by
                show _ = _
                unfold mvd loP
                rw [HQL.out, HM.out]
              have own1 : wr.ownsRow w.heap.size 42 2 (.slice (some ⟨w.heap.size, 0, none⟩) (qs.map (subC (mx, my))).length ps.length) (qs.map (subC (mx, my))).length (cellsV (qs.map (subC (mx, my)))) := by
                have h := hown
                rw [show shifted (mx, my) qs ps.length = qs.map (subC (mx, my)) by rw [← HQL.out, shifted_all]] at h
                rw [List.length_map, HQL.out]
                exact h
              have hL : (qs.map (subC (mx, my))).length = ps.length := by rw [List.length_map, HQL.out]
              have HML : Hid ((mvd qs).length = ps.length) := by show _ = _; rw [mvd_len, HQL.out]
              have hcon := sortCells_any w.heap.size ps.length w.heap.size _ wr own1 (by omega)
              rw [hL, HE.out] at hcon
              have hsz := hbel.size
              have HC := Lib.hid hcon
              clear hcon hL own1 hown
              go_wp2_with fail
              refine HC.out.mono ?_
              rintro e w2 ⟨rfl, o2, B2⟩
              have b2 := B2 w.heap.size w (Nat.le_refl _) hsz hbel
              go_wp2
              go_ret
              refine ⟨some ⟨w.heap.size, 0, none⟩, by rw [HML.out]; rfl, ⟨_, _, rfl, ?_⟩, b2⟩
              rw [HML.out]
              exact o2

set_option maxHeartbeats 1000000 in
theorem movedValid_turn (A : Option Addr) (c : Nat) (ps : List Ce) (w : World) (hr : RdC w A ps) (hn : ps.length ≤ maxLen) (hcap : ps.length ≤ c) :
    Calls Try.prog 33 #[.slice A ps.length c, .func (.func 34) #[] #[]] w (NewOC (mvdV turnC ps) w) := by
  cases hp : pieceB ps with
  | true =>
    obtain ⟨⟨h1, h5⟩, hb, -⟩ := ok_of_pieceB hp
    rw [show mvdV turnC ps = mvd (ps.map turnC) by unfold mvdV; rw [if_pos hp]]
    have HP := Lib.hid hp
    have HB := Lib.hid (show ∀ q ∈ ps, inBd 9 q from hb)
    clear hp hb
    go_enter Try.func33, Try.ntmps33
    go_wp2_with fail
    refine (iPieceValid_any _ _ _ _ hr hn hcap).mono ?_
    rintro e w1 ⟨rfl, b1⟩
    rw [HP.out]
    go_wp2_with fail
    refine (moved_turn _ _ _ _ (hr.belo b1) h1 h5 HB.out).mono ?_
    rintro e w2 ⟨A2, rfl, o2, b2⟩
    go_wp2
    go_ret
    exact ⟨A2, rfl, o2.base b1.size, bl_go b1 b2⟩
  | false =>
    rw [show mvdV turnC ps = [] by unfold mvdV; rw [hp]; rfl]
    have HP := Lib.hid hp
    clear hp
    go_enter Try.func33, Try.ntmps33
    go_wp2_with fail
    refine (iPieceValid_any _ _ _ _ hr hn hcap).mono ?_
    rintro e w1 ⟨rfl, b1⟩
    rw [HP.out]
    go_wp2
    go_ret
    exact ⟨none, rfl, ⟨none, 0, rfl, World.ownsRow_nil _ _ _ _⟩, b1⟩
set_option maxHeartbeats 400000 in
theorem iPieceTurn_any (A : Option Addr) (c : Nat) (ps : List Ce) (w : World) (hr : RdC w A ps) (hn : ps.length ≤ maxLen) (hcap : ps.length ≤ c) :
    Calls Try.prog 13 #[.slice A ps.length c] w (NewOC (mvdV turnC ps) w) := by
  go_enter Try.func13, Try.ntmps13
  go_wp2_with fail
  refine (movedValid_turn _ _ _ _ hr hn hcap).mono ?_
  rintro e w2 ⟨A2, rfl, o2, b2⟩
  go_wp2
  go_ret
  exact ⟨A2, rfl, o2, b2⟩

set_option maxRecDepth 100000 in
set_option maxHeartbeats 4000000 in
theorem moved_mirror (A : Option Addr) (c : Nat) (ps : List Ce) (w : World) (hr : RdC w A ps) (h1 : 1 ≤ ps.length) (h5 : ps.length ≤ 5) (hb : ∀ q ∈ ps, inBd 9 q) :
    Calls Try.prog 19 #[.slice A ps.length c, .func (.func 36) #[] #[]] w (NewOC (mvd (ps.map flipC)) w) := by
  obtain ⟨i0, hi, hz0, hz1, hz2⟩ := info_parts Try.infoC
  have hb1 : i0.bytes * ps.length ≤ 281474976710656 := by rw [hz2]; omega
  have HZ := Lib.hid (And.intro hz0 (And.intro hz1 hz2))
  have hqb : ∀ q ∈ ps.map flipC, inBd 9 q := fun q hq => by
    obtain ⟨d, hd, rfl⟩ := List.mem_map.1 hq
    have := hb d hd
    unfold flipC inBd at *
    try simp only
    omega
  have hql : (ps.map flipC).length = ps.length := List.length_map _
  have hqk : ∀ k (h : k < ps.length) (h2 : k < (ps.map flipC).length), (ps.map flipC)[k] = flipC ps[k] := fun k h h2 => by simp
  generalize ps.map flipC = qs at hqb hql hqk ⊢
  have HQL := Lib.hid hql
  have HQK := Lib.hid hqk
  have HQB := Lib.hid hqb
  have HB := Lib.hid hb
  clear hqb hql hqk hb
  go_enter Try.func19, Try.ntmps19
  go_wp2_with (at_make; refine wpList_make_full _ rfl _ _ 23 rfl w.heap.size 42 i0 (.agg #[.int .i64 0, .int .i64 0]) 2 Try.underlying23 hi HZ.out.1 HZ.out.2.1 .i64 .i64 _ _ ps.length rfl rfl rfl rfl hb1 (by unfold maxLen; omega) (Nat.le_refl _) ?_; intro w1 hown1 hgrow1)
  go_loopw [18] (fun i wr => ∃ k : Nat, k ≤ ps.length ∧ i = .int .i64 k ∧ wr.ownsRow w.heap.size 42 2 (.slice (some ⟨w.heap.size, 0, none⟩) ps.length ps.length) ps.length (cellsV (qs.take k) ++ List.replicate ((qs.length - k) * 2) (.int .i64 0)) ∧ Below w.heap.size w wr) (fun i _ => ps.length - (intOf i).toNat)
  case atStart =>
    refine ⟨0, Nat.zero_le _, rfl, ?_, (Below.refl _ _).grown hgrow1 (Nat.le_refl _) (fun k hk => by cases hk)⟩
    rw [show (Value.agg #[.int .i64 0, .int .i64 0]).cells = #[.int .i64 0, .int .i64 0] from rfl, made2] at hown1
    rw [HQL.out]
    exact hown1
  case round =>
    clear hgrow1 hown1
    obtain ⟨k, hk, rfl, hown, hbel⟩ := hrel
    by_cases hlt : k < ps.length
    · obtain ⟨b, off, rfl, c0, c1⟩ := RdC.at_ (w := wr) (show RdC wr A ps from hr.belo hbel) hlt
      obtain ⟨q, hq⟩ : ∃ q, ps[k] = q := ⟨_, rfl⟩
      have HQ := Lib.hid hq
      have hqB := HB.out q (by rw [← hq]; exact List.getElem_mem hlt)
      rw [hq] at c0 c1
      clear hq
      obtain ⟨x, y⟩ := q
      unfold inBd at hqB
      simp only at c0 c1 hqB
      obtain ⟨p1, p2, p3, p4⟩ := hqB
      have HQk := Lib.hid (HQK.out k hlt (by rw [HQL.out]; exact hlt))
      have HT := Lib.hid (set2_take qs k (by rw [HQL.out]; exact hlt))
      have HZA := Lib.hid (zero_at qs k (by rw [HQL.out]; exact hlt))
      have own2 := hown.alloc (.cells #[.int .i64 x, .int .i64 y] 42)
      have bel2 := bl_alloc hbel (.cells #[.int .i64 x, .int .i64 y] 42)
      go_wp2_with (go_at_call 36; refine (mirror_any x y _ p1 p2).mono ?_; rintro e w3 ⟨rfl, b3⟩; have own3 := own_below own2 b3 (Nat.le_refl _); have hf1 := own3.frozenAt (k * 2); have hf2 := own3.frozenAt (k * 2 + 1); have hc1 := (own3.cellAt (k * 2) (by omega)).trans HZA.out.1; have hc2 := (own3.cellAt (k * 2 + 1) (by omega)).trans HZA.out.2)
      go_roundw
      case rel =>
        refine ⟨k + 1, by omega, by go_num, ?_, ((bl_go bel2 b3).setCell (Nat.le_refl _) _).setCell (Nat.le_refl _) _⟩
        have h1 := ((own3.stored (k * 2) (.int .i64 (-x))).1.stored (k * 2 + 1) (.int .i64 (y))).1
        have h2 := HT.out
        rw [HQk.out, HQ.out] at h2
        have h3 : ((cellsV (qs.take k) ++ List.replicate ((qs.length - k) * 2) (Value.int .i64 0)).set (k * 2) (.int .i64 (-x))).set (k * 2 + 1) (.int .i64 (y)) = cellsV (qs.take (k + 1)) ++ List.replicate ((qs.length - (k + 1)) * 2) (Value.int .i64 0) := h2
        rw [h3] at h1
        exact h1
      case measure => simp [intOf]; omega
    · obtain rfl : k = ps.length := by omega
      have own1 : wr.ownsRow w.heap.size 42 2 (.slice (some ⟨w.heap.size, 0, none⟩) ps.length ps.length) ps.length (cellsV qs) := by
        have h := hown
        rw [HQL.out, Nat.sub_self, Nat.zero_mul, ← HQL.out, List.take_length] at h
        rw [HQL.out] at h
        simpa using h
      clear hown hlt hk
      have hq0 : 0 < qs.length := by rw [HQL.out]; omega
      obtain ⟨g0, g1⟩ := cellsV_get qs 0 hq0
      have hd0 : qs[0] = loK qs 0 := by rw [loK_zero]; cases qs with | nil => simp at hq0 | cons a l => rfl
      rw [hd0] at g0 g1
      have hc1 := (own1.cellAt 0 (by omega)).trans g0
      have hc2 := (own1.cellAt 1 (by omega)).trans g1
      have hi0 : (0 : Int) < (ps.length : Int) := by omega
      clear g0 g1 hd0 hq0
      go_wp2_with fail
      go_quiet (fail)
      clear hc1 hc2
      have bel1 := hbel
      have own0 := own1
      clear hbel own1
      obtain ⟨wo, hwo⟩ : ∃ wo : World, wo = wr := ⟨_, rfl⟩
      subst hwo
      go_wp2_with fail
      go_loopw [8, 9, 40] (fun l r i wr => ∃ k : Nat, k ≤ ps.length ∧ i = .int .i64 k ∧ l = .int .i64 (loK qs k).1 ∧ r = .int .i64 (loK qs k).2 ∧ wr.ownsRow w.heap.size 42 2 (.slice (some ⟨w.heap.size, 0, none⟩) ps.length ps.length) ps.length (cellsV qs) ∧ Below w.heap.size w wr) (fun _ _ i _ => ps.length - (intOf i).toNat)
      case atStart => exact ⟨0, Nat.zero_le _, rfl, rfl, rfl, own0, below_drewN bel1 _⟩
      case round =>
        clear own0 bel1
        obtain ⟨k, hk, rfl, rfl, rfl, hown, hbel⟩ := hrel
        by_cases hlt : k < ps.length
        · have hqlt : k < qs.length := by rw [HQL.out]; exact hlt
          obtain ⟨g0, g1⟩ := cellsV_get qs k hqlt
          have hc1 := (hown.cellAt (k * 2) (by omega)).trans g0
          have hc2 := (hown.cellAt (k * 2 + 1) (by omega)).trans g1
          have HS := Lib.hid (loK_step qs k hqlt)
          obtain ⟨q, hq⟩ : ∃ q, qs[k] = q := ⟨_, rfl⟩
          have HQ := Lib.hid hq
          rw [hq] at hc1 hc2
          clear hq g0 g1
          obtain ⟨x, y⟩ := q
          simp only at hc1 hc2
          have own2 := hown.alloc (.cells #[.int .i64 x, .int .i64 y] 42)
          have bel2 := bl_alloc hbel (.cells #[.int .i64 x, .int .i64 y] 42)
          go_wp2_with fail
          go_quiet (fail)
          go_wp2_with fail
          go_roundw
          case rel =>
            refine ⟨k + 1, by omega, by go_num, ?_, ?_, own2, below_drewN' bel2 _⟩
            · rw [HS.out, HQ.out]
            · rw [HS.out, HQ.out]
          case measure => simp [intOf]; omega
        · obtain rfl : k = ps.length := by omega
          have own0 := hown
          have bel1 := hbel
          clear hown hbel hlt hk
          obtain ⟨m, hm⟩ : ∃ m, loK qs ps.length = m := ⟨_, rfl⟩
          have HM := Lib.hid hm
          have hmB : inBd 9 m := by rw [← hm]; exact loK_bd HQB.out (by omega) _
          rw [hm]
          clear hm
          obtain ⟨mx, my⟩ := m
          unfold inBd at hmB
          simp only at hmB ⊢
          obtain ⟨m1, m2, m3, m4⟩ := hmB
          obtain ⟨wo, hwo⟩ : ∃ wo : World, wo = wr := ⟨_, rfl⟩
          subst hwo
          go_wp2_with fail
          go_loopw [55] (fun i wr => ∃ k : Nat, k ≤ ps.length ∧ i = .int .i64 k ∧ wr.ownsRow w.heap.size 42 2 (.slice (some ⟨w.heap.size, 0, none⟩) ps.length ps.length) ps.length (cellsV (shifted (mx, my) qs k)) ∧ Below w.heap.size w wr) (fun i _ => ps.length - (intOf i).toNat)
          case atStart => exact ⟨0, Nat.zero_le _, rfl, by rw [shifted_zero]; exact own0, bel1⟩
          case round =>
            clear own0 bel1
            obtain ⟨k, hk, rfl, hown, hbel⟩ := hrel
            by_cases hlt : k < ps.length
            · have hqlt : k < qs.length := by rw [HQL.out]; exact hlt
              obtain ⟨g0, g1⟩ := shifted_cells (mx, my) qs hqlt
              have hc1 := (hown.cellAt (k * 2) (by omega)).trans g0
              have hc2 := (hown.cellAt (k * 2 + 1) (by omega)).trans g1
              have hf1 := hown.frozenAt (k * 2)
              have hf2 := hown.frozenAt (k * 2 + 1)
              have HS := Lib.hid (shifted_set (mx, my) qs hqlt)
              obtain ⟨q, hq⟩ : ∃ q, qs[k] = q := ⟨_, rfl⟩
              have HQ := Lib.hid hq
              have hqB := HQB.out q (by rw [← hq]; exact List.getElem_mem hqlt)
              rw [hq] at hc1 hc2
              clear hq g0 g1
              obtain ⟨x, y⟩ := q
              unfold inBd at hqB
              simp only at hc1 hc2 hqB
              obtain ⟨p1, p2, p3, p4⟩ := hqB
              go_wp2_with fail
              go_roundw
              case rel =>
                refine ⟨k + 1, by omega, by go_num, ?_, (hbel.setCell (Nat.le_refl _) _).setCell (Nat.le_refl _) _⟩
                have h1 := ((hown.stored (k * 2) (.int .i64 (x - mx))).1.stored (k * 2 + 1) (.int .i64 (y - my))).1
                have h2 := HS.out
                rw [HQ.out] at h2
                have h3 : ((cellsV (shifted (mx, my) qs k)).set (k * 2) (.int .i64 (x - mx))).set (k * 2 + 1) (.int .i64 (y - my)) = cellsV (shifted (mx, my) qs (k + 1)) := h2
                rw [h3] at h1
                exact h1
              case measure => simp [intOf]; omega
            · obtain rfl : k = ps.length := by omega
              have HE : Hid (sortC (qs.map (subC (mx, my))) = mvd qs) := by
                show _ = _
                unfold mvd loP
                rw [HQL.out, HM.out]
              have own1 : wr.ownsRow w.heap.size 42 2 (.slice (some ⟨w.heap.size, 0, none⟩) (qs.map (subC (mx, my))).length ps.length) (qs.map (subC (mx, my))).length (cellsV (qs.map (subC (mx, my)))) := by
                have h := hown
                rw [show shifted (mx, my) qs ps.length = qs.map (subC (mx, my)) by rw [← HQL.out, shifted_all]] at h
                rw [List.length_map, HQL.out]
                exact h
              have hL : (qs.map (subC (mx, my))).length = ps.length := by rw [List.length_map, HQL.out]
              have HML : Hid ((mvd qs).length = ps.length) := by show _ = _; rw [mvd_len, HQL.out]
              have hcon := sortCells_any w.heap.size ps.length w.heap.size _ wr own1 (by omega)
              rw [hL, HE.out] at hcon
              have hsz := hbel.size
              have HC := Lib.hid hcon
              clear hcon hL own1 hown
              go_wp2_with fail
              refine HC.out.mono ?_
              rintro e w2 ⟨rfl, o2, B2⟩
              have b2 := B2 w.heap.size w (Nat.le_refl _) hsz hbel
              go_wp2
              go_ret
              refine ⟨some ⟨w.heap.size, 0, none⟩, by rw [HML.out]; rfl, ⟨_, _, rfl, ?_⟩, b2⟩
              rw [HML.out]
              exact o2

set_option maxHeartbeats 1000000 in
theorem movedValid_mirror (A : Option Addr) (c : Nat) (ps : List Ce) (w : World) (hr : RdC w A ps) (hn : ps.length ≤ maxLen) (hcap : ps.length ≤ c) :
    Calls Try.prog 33 #[.slice A ps.length c, .func (.func 36) #[] #[]] w (NewOC (mvdV flipC ps) w) := by
  cases hp : pieceB ps with
  | true =>
    obtain ⟨⟨h1, h5⟩, hb, -⟩ := ok_of_pieceB hp
    rw [show mvdV flipC ps = mvd (ps.map flipC) by unfold mvdV; rw [if_pos hp]]
    have HP := Lib.hid hp
    have HB := Lib.hid (show ∀ q ∈ ps, inBd 9 q from hb)
    clear hp hb
    go_enter Try.func33, Try.ntmps33
    go_wp2_with fail
    refine (iPieceValid_any _ _ _ _ hr hn hcap).mono ?_
    rintro e w1 ⟨rfl, b1⟩
    rw [HP.out]
    go_wp2_with fail
    refine (moved_mirror _ _ _ _ (hr.belo b1) h1 h5 HB.out).mono ?_
    rintro e w2 ⟨A2, rfl, o2, b2⟩
    go_wp2
    go_ret
    exact ⟨A2, rfl, o2.base b1.size, bl_go b1 b2⟩
  | false =>
    rw [show mvdV flipC ps = [] by unfold mvdV; rw [hp]; rfl]
    have HP := Lib.hid hp
    clear hp
    go_enter Try.func33, Try.ntmps33
    go_wp2_with fail
    refine (iPieceValid_any _ _ _ _ hr hn hcap).mono ?_
    rintro e w1 ⟨rfl, b1⟩
    rw [HP.out]
    go_wp2
    go_ret
    exact ⟨none, rfl, ⟨none, 0, rfl, World.ownsRow_nil _ _ _ _⟩, b1⟩
set_option maxHeartbeats 400000 in
theorem iPieceFlip_any (A : Option Addr) (c : Nat) (ps : List Ce) (w : World) (hr : RdC w A ps) (hn : ps.length ≤ maxLen) (hcap : ps.length ≤ c) :
    Calls Try.prog 15 #[.slice A ps.length c] w (NewOC (mvdV flipC ps) w) := by
  go_enter Try.func15, Try.ntmps15
  go_wp2_with fail
  refine (movedValid_mirror _ _ _ _ hr hn hcap).mono ?_
  rintro e w2 ⟨A2, rfl, o2, b2⟩
  go_wp2
  go_ret
  exact ⟨A2, rfl, o2, b2⟩
end Go.Proofs.Ytohbnogmeldmpaa
