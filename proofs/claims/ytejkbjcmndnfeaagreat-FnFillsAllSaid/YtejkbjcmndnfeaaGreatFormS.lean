
/- Contracts: the reference's forms of a piece. -/
import Derived.Test.YtejkbjcmndnfeaaGreatMoveT
import Derived.Test.YtejkbjcmndnfeaaGreatFormL
import Derived.Test.YtejkbjcmndnfeaaGreatDrawPieces
import Derived.Deep.RegionLaw
namespace Go.Proofs.YtejkbjcmndnfeaaGreat
open Go.RowKit Go.Sort

section
variable {ops : Array Oper} {o : Oper} {a : Act} {Q : Exit → Act → World → Prop}
/-- a part of a list of heads appended to a list of heads of its own, an empty one too -/
theorem step_headsA {K : Act → World → Prop} {E : Prop} (W : World) (hgd : o.guard = none) (s x : Operand) (ho : o.op = .call { callee := .builtin .append, args := #[s, x], argTypes := #[26, 26] })
    (base : Nat) (v : Value) (xs : List Value) (hs : a.eval s = v) (hown : OwnH W base v xs) (ad : Addr) (n c : Nat) (ys : List Value) (hx : a.eval x = .slice (some ad) n c) (hl : ys.length = n) (hq : ∀ j u, ys[j]? = some u → W.cell? (ad.add j) = some u) (h1 : ∀ u ∈ ys, u.oneCell' = true) (hm : xs.length + n ≤ 1000000000) (hbase : base ≤ W.heap.size)
    (h : ∀ v' w', OwnH w' base v' (xs ++ ys) → W.grownBy w' v.ownBlock → K (a.put o.dst v') w') :
    if Region.wanted o (yielded ops a.tmps) = true then Oper.wp Tryz.prog o a W K Q else E := by
  obtain ⟨i0, hi, hz0, hz1, hz2⟩ := info_parts Tryz.infoSC
  obtain ⟨A, c', e, hown⟩ := hown
  have hw : Region.wanted o (yielded ops a.tmps) = true := by simp [Region.wanted, hgd]
  rw [if_pos hw]
  obtain ⟨v', w', hr, h2, h3, _, _⟩ := run_append_own_at (P := Tryz.prog) W base 26 o.type 32 i0 _ 1 24 Tryz.underlying26 hi hz0 hz1 hz2 rfl (by decide) v xs.length xs hown ad n c ys (by omega) hq h1 (by unfold maxLen; omega) (by omega) hbase
  unfold Oper.wp execOp
  simp only [ho, resolve, invoke, builtin, Sem.run_bind, Sem.run_pure, Result.andThen_ok, List.map_toArray, List.map_cons, List.map_nil, hs, hx, hr]
  refine h v' w' ?_ h3
  have hlen : (xs ++ ys).length = xs.length + n := by rw [List.length_append, hl]
  rcases h2.2 with ⟨e1, e2⟩ | ⟨g, cap, cur, e1, _⟩
  · subst e1
    have hnil : xs ++ ys = [] := List.eq_nil_of_length_eq_zero (by omega)
    rw [hnil]
    exact ⟨none, 0, rfl, World.ownsRow_nil _ _ _ _⟩
  · subst e1
    exact ⟨_, cap, by rw [hlen], by rw [hlen]; exact h2⟩
end
set_option maxHeartbeats 400000 in
theorem l8LessC_any (x y : Ce) (w : World) :
    Calls Tryz.prog 235 #[.agg #[.int .i64 x.1, .int .i64 x.2], .agg #[.int .i64 y.1, .int .i64 y.2]] w fun e w' => e = .returned (.bool (ltC x y)) ∧ Below w.heap.size w w' := l8Less_any x.1 x.2 y.1 y.2 w
theorem ltL_at : ∀ (k : Nat) (ps qs : List Ce), ps.length = qs.length → (∀ j (h : j < ps.length) (h2 : j < qs.length), j < k → ps[j] = qs[j]) → ∀ (h : k < ps.length) (h2 : k < qs.length), ps[k] ≠ qs[k] → ltL ps qs = ltC ps[k] qs[k]
  | k, [], qs, _, _, h, _, _ => by simp at h
  | k, a :: l, [], _, _, _, h2, _ => by simp at h2
  | 0, a :: l, b :: m, _, _, _, _, hne => by
    simp only [List.getElem_cons_zero] at hne ⊢
    unfold ltL
    rw [decide_eq_false hne]; simp
  | k + 1, a :: l, b :: m, hl, hs, h, h2, hne => by
    have h0 := hs 0 (by simp) (by simp) (by omega)
    simp only [List.getElem_cons_zero] at h0
    subst h0
    simp only [List.getElem_cons_succ] at hne ⊢
    unfold ltL
    rw [show ltC a a = false by rw [← ltC_eq]; exact swoC.irrefl a, ltL_at k l m (by simpa using hl) (fun j hj hj2 hjk => by have := hs (j + 1) (by simpa using hj) (by simpa using hj2) (by omega); simpa using this) (by simpa using h) (by simpa using h2) hne]
    simp
theorem eq_upto {α : Type} {n : Nat} {ps qs : List α} (h1 : ps.length = n) (h2 : qs.length = n) (h : ∀ j (h : j < ps.length) (h2 : j < qs.length), j < n → ps[j] = qs[j]) : ps = qs :=
  List.ext_getElem (by omega) (fun j hj hj2 => h j hj hj2 (by omega))
set_option maxHeartbeats 2000000 in
theorem l8Before_any (A A' : Option Addr) (n c c' : Nat) (ps qs : List Ce) (w : World) (hr : RdC w A ps) (hr' : RdC w A' qs) (hp : ps.length = n) (hq : qs.length = n) (hn : n ≤ 1000000) :
    Calls Tryz.prog 207 #[.slice A n c, .slice A' n c'] w fun e w' => e = .returned (.bool (ltL ps qs)) ∧ Below w.heap.size w w' := by
  have HP := Lib.hid hp
  have HQ := Lib.hid hq
  clear hp hq
  have hneq := fun W a b x y => neq_cell W a b x y
  go_enter Tryz.func207, Tryz.ntmps207
  go_wp2_with fail
  go_loopw [5] (fun i wr => ∃ k : Nat, k ≤ n ∧ i = .int .i64 k ∧ Hid (∀ j (h : j < ps.length) (h2 : j < qs.length), j < k → ps[j] = qs[j]) ∧ Below w.heap.size w wr) (fun i _ => n - (intOf i).toNat)
  case atStart => exact ⟨0, Nat.zero_le _, rfl, fun j h h2 h3 => by omega, Below.refl _ _⟩
  case round =>
    obtain ⟨k, hk, rfl, HK, Z1⟩ := hrel
    by_cases hlt : k < n
    · have hkp : k < ps.length := by rw [HP.out]; exact hlt
      have hkq : k < qs.length := by rw [HQ.out]; exact hlt
      obtain ⟨b, off, rfl, c0, c1⟩ := RdC.at_ (w := wr) (Rd.belo hr Z1) hkp
      obtain ⟨b', off', rfl, d0, d1⟩ := RdC.at_ (w := wr) (Rd.belo hr' Z1) hkq
      have HL := Lib.hid (fun hne => ltL_at k ps qs (by rw [HP.out, HQ.out]) HK.out hkp hkq hne)
      by_cases hc : ps[k] = qs[k]
      · have HC := Lib.hid hc
        rw [← hc] at d0 d1
        clear hc
        generalize ps[k] = z at c0 c1 d0 d1
        obtain ⟨x, y⟩ := z
        simp only at c0 c1 d0 d1
        have hqq : (x == x && y == y) = true := by simp
        clear HL
        go_wp2_with fail
        go_quiet (fail)
        go_wp2_with fail
        go_roundw
        case rel =>
          refine ⟨k + 1, by omega, by go_num, fun j h h2 h3 => ?_, below_drewN' Z1 _⟩
          rcases Nat.lt_or_ge j k with h4 | h4
          · exact HK.out j h h2 h4
          · obtain rfl : j = k := by omega
            exact HC.out
        case measure => simp [intOf]; omega
      · have hb : (ps[k].1 == qs[k].1 && ps[k].2 == qs[k].2) = false := by
          cases h : (ps[k].1 == qs[k].1 && ps[k].2 == qs[k].2) with
          | false => rfl
          | true => simp at h; exact absurd (Prod.ext h.1 h.2) hc
        have HF := Lib.hid (HL.out hc)
        clear hc HL
        obtain ⟨z, hz⟩ : ∃ z, ps[k] = z := ⟨_, rfl⟩
        obtain ⟨z', hz'⟩ : ∃ z, qs[k] = z := ⟨_, rfl⟩
        have HZ := Lib.hid hz
        have HZ' := Lib.hid hz'
        rw [hz] at c0 c1 hb
        rw [hz'] at d0 d1 hb
        clear hz hz'
        have CL := Lib.hid (fun W => l8LessC_any z z' W)
        obtain ⟨x, y⟩ := z
        obtain ⟨x', y'⟩ := z'
        simp only at c0 c1 d0 d1 hb
        go_wp2_with fail
        go_quiet (fail)
        go_wp2_with fail
        have c0q : (wr.drewN nq).cell? ⟨b, off + k * 2, none⟩ = some (.int .i64 x) := c0
        have c1q : (wr.drewN nq).cell? ⟨b, off + k * 2 + 1, none⟩ = some (.int .i64 y) := c1
        have d0q : (wr.drewN nq).cell? ⟨b', off' + k * 2, none⟩ = some (.int .i64 x') := d0
        have d1q : (wr.drewN nq).cell? ⟨b', off' + k * 2 + 1, none⟩ = some (.int .i64 y') := d1
        have Zq := below_drewN' Z1 nq
        clear c0 c1 d0 d1 Z1
        generalize wr.drewN nq = wq at *
        have hb1 : b < wq.heap.size := by have := World.block_lt_of_cell? wq _ c0q; simpa using this
        have hb2 : b' < wq.heap.size := by have := World.block_lt_of_cell? wq _ d0q; simpa using this
        have e0 : ∀ z : BW wq, z.wo.cell? ⟨b, off + k * 2, none⟩ = some (.int .i64 x) := fun z => z.cell hb1 c0q
        have e1 : ∀ z : BW wq, z.wo.cell? ⟨b, off + k * 2 + 1, none⟩ = some (.int .i64 y) := fun z => z.cell hb1 c1q
        have f0 : ∀ z : BW wq, z.wo.cell? ⟨b', off' + k * 2, none⟩ = some (.int .i64 x') := fun z => z.cell hb2 d0q
        have f1 : ∀ z : BW wq, z.wo.cell? ⟨b', off' + k * 2 + 1, none⟩ = some (.int .i64 y') := fun z => z.cell hb2 d1q
        (refine region_bw (by kernel_rfl) (by kernel_rfl) ?_; (repeat (first | go_big_quiet_skip | (go_big_quiet_want; go_big_quiet_op; first | go_big_quiet_on | (refine ⟨.bool (ltC (x, y) (x', y')), fun zz => ?_, ?_⟩; (go_at_call 235; exact zz.on (CL.out _)); go_big_quiet_on)))); refine wpQuiet_nil ?_; intro wz hw'; obtain ⟨zw, hw''⟩ := hw'; subst hw'')
        go_wp2_with fail
        go_ret
        exact ⟨ret_b (by rw [HF.out, HZ.out, HZ'.out]), bl_go Zq zw.ok⟩
    · have HT := Lib.hid (show ltL ps qs = false by rw [eq_upto HP.out HQ.out (fun j h h2 h3 => HK.out j h h2 (by omega))]; exact ltL_irrefl _)
      go_wp2_with fail
      go_ret
      exact ⟨ret_b HT.out.symm, Z1⟩
set_option maxHeartbeats 2000000 in
theorem l8Same_any (A A' : Option Addr) (n c c' : Nat) (ps qs : List Ce) (w : World) (hr : RdC w A ps) (hr' : RdC w A' qs) (hp : ps.length = n) (hq : qs.length = n) (hn : n ≤ 1000000) :
    Calls Tryz.prog 140 #[.slice A n c, .slice A' n c'] w fun e w' => e = .returned (.bool (decide (ps = qs))) ∧ Below w.heap.size w w' := by
  have HP := Lib.hid hp
  have HQ := Lib.hid hq
  clear hp hq
  have hneq := fun W a b x y => neq_cell W a b x y
  have hnn : ((n : Int) == (n : Int)) = true := by simp
  go_enter Tryz.func140, Tryz.ntmps140
  go_wp2_with fail
  go_loopw [5] (fun i wr => ∃ k : Nat, k ≤ n ∧ i = .int .i64 k ∧ Hid (∀ j (h : j < ps.length) (h2 : j < qs.length), j < k → ps[j] = qs[j]) ∧ Below w.heap.size w wr) (fun i _ => n - (intOf i).toNat)
  case atStart => exact ⟨0, Nat.zero_le _, rfl, fun j h h2 h3 => by omega, Below.refl _ _⟩
  case round =>
    obtain ⟨k, hk, rfl, HK, Z1⟩ := hrel
    by_cases hlt : k < n
    · have hkp : k < ps.length := by rw [HP.out]; exact hlt
      have hkq : k < qs.length := by rw [HQ.out]; exact hlt
      obtain ⟨b, off, rfl, c0, c1⟩ := RdC.at_ (w := wr) (Rd.belo hr Z1) hkp
      obtain ⟨b', off', rfl, d0, d1⟩ := RdC.at_ (w := wr) (Rd.belo hr' Z1) hkq
      by_cases hc : ps[k] = qs[k]
      · have HC := Lib.hid hc
        rw [← hc] at d0 d1
        clear hc
        generalize ps[k] = z at c0 c1 d0 d1
        obtain ⟨x, y⟩ := z
        simp only at c0 c1 d0 d1
        have hqq : (x == x && y == y) = true := by simp

        go_wp2_with fail
        go_quiet (fail)
        go_wp2_with fail
        go_roundw
        case rel =>
          refine ⟨k + 1, by omega, by go_num, fun j h h2 h3 => ?_, below_drewN' Z1 _⟩
          rcases Nat.lt_or_ge j k with h4 | h4
          · exact HK.out j h h2 h4
          · obtain rfl : j = k := by omega
            exact HC.out
        case measure => simp [intOf]; omega
      · have HF := Lib.hid (show decide (ps = qs) = false from decide_eq_false (fun e => hc (by simp only [e])))
        have hb : (ps[k].1 == qs[k].1 && ps[k].2 == qs[k].2) = false := by
          cases h : (ps[k].1 == qs[k].1 && ps[k].2 == qs[k].2) with
          | false => rfl
          | true => simp at h; exact absurd (Prod.ext h.1 h.2) hc
        clear hc
        generalize ps[k] = z at c0 c1 hb
        generalize qs[k] = z' at d0 d1 hb
        obtain ⟨x, y⟩ := z
        obtain ⟨x', y'⟩ := z'
        simp only at c0 c1 d0 d1 hb

        go_wp2_with fail
        go_quiet (fail)
        go_wp2_with fail
        go_ret
        exact ⟨ret_b HF.out.symm, below_drewN' Z1 _⟩
    · have HT := Lib.hid (show decide (ps = qs) = true from decide_eq_true (eq_upto HP.out HQ.out (fun j h h2 h3 => HK.out j h h2 (by omega))))
      go_wp2_with fail
      go_ret
      exact ⟨ret_b HT.out.symm, Z1⟩
end Go.Proofs.YtejkbjcmndnfeaaGreat
