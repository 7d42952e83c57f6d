/- Contracts: the reference's LackSet. -/
import Derived.Test.YtadejjpcdpmpkaaLackE
namespace Go.Proofs.Ytadejjpcdpmpkaa
open Go.RowKit

section
variable {ops : Array Oper} {rest : List Oper} {o : Oper} {a : Act} {Q : Exit → Act → World → Prop}
theorem app_intL (w : World) (hgd : o.guard = none) (s x : Operand) (ho : o.op = .call { callee := .builtin .append, args := #[s, x], argTypes := #[27, 27] })
    (base : Nat) (v : Value) (xs : List Int) (hs : a.eval s = v) (hown : OwnI w base v xs) (u : Int) (hx : a.eval x = .slice (some ⟨w.heap.size, 0, none⟩) 1 1) (hn : xs.length ≤ 1000000000000) (hbase : base ≤ w.heap.size)
    (h : ∀ (g c' : Nat) (w' : World), OwnI w' base (.slice (some ⟨g, 0, none⟩) (xs.length + 1) c') (xs ++ [u]) → (w.alloc (.cells #[.int .i64 u] 3)).grownBy w' v.ownBlock → (v.ownBlock = some g ∨ g = w.heap.size + 1) → wpList Try.prog ops Q rest (a.put o.dst (.slice (some ⟨g, 0, none⟩) (xs.length + 1) c')) w') :
    wpList Try.prog ops Q (o :: rest) a (w.alloc (.cells #[.int .i64 u] 3)) := by
  obtain ⟨i0, hi, hz0, hz1, hz2⟩ := info_parts Try.infoI
  obtain ⟨A, c, e, hown⟩ := hown
  refine wpList_plain hgd fun _ hK => wp_append_lies _ s x 27 ho base 3 i0 (.int .i64 0) 1 8 Try.underlying27 hi hz0 hz1 hz2 rfl (by decide) v _ _ hs (hown.alloc _) ⟨w.heap.size, 0, none⟩ 1 1 [.int .i64 u] hx rfl ?_ ?_ (by decide) ?_ ?_ ?_ (w.heap.size + 1) (by simp) ?_
  · intro j y hj
    match j, hj with
    | 0, hj => simp at hj; subst hj; simp [Addr.add]
  · intro y hy; simp at hy; subst hy; rfl
  · unfold maxLen; omega
  · omega
  · simp; omega
  · intro g cap w' h1 h2 h3 _
    have e1 : xs.map (Value.int .i64) ++ [.int .i64 u] = (xs ++ [u]).map (.int .i64) := by simp
    rw [e1] at h1
    refine hK _ _ (h _ _ w' ⟨_, _, by simp; exact ⟨rfl, rfl⟩, ?_⟩ h2 h3)
    have e2 : (xs ++ [u]).length = xs.length + 1 := by simp
    rw [e2]; exact h1
end
theorem lackSetV_len (W T : Int) (bs : List Bool) : (lackSetV W T bs).length ≤ 12 := by
  unfold lackSetV
  split
  · rename_i h
    have := (lackOk_t h).2
    rw [sel_len]
    exact Nat.le_trans (bits_bd _ _) this
  · simp
set_option maxRecDepth 100000 in
set_option maxHeartbeats 4000000 in
theorem sLackSet_any (W T : Int) (A : Option Addr) (c : Nat) (bs : List Bool) (w : World) (hr : Rd w A (bs.map .bool)) (hn : bs.length ≤ maxLen) :
    Calls Try.prog 12 #[.agg #[.int .i64 W, .int .i64 T, .slice A bs.length c]] w (NewRd (lackSetV W T bs) w) := by
  have X0 := (C3.new w (.int .i64 W) (.int .i64 T) (.slice A bs.length c) 25).alloc (.cells #[] 3)
  have O0 : OwnI ((w.alloc (.cells #[.int .i64 W, .int .i64 T, .slice A bs.length c] 25)).alloc (.cells #[] 3)) (w.heap.size + 1) (.slice (some ⟨w.heap.size + 1, 0, none⟩) 0 0) [] := by
    have := OwnI.empty (w.alloc (.cells #[.int .i64 W, .int .i64 T, .slice A bs.length c] 25))
    simpa using this
  have B0 := bl_alloc (bl_alloc (Below.refl w.heap.size w) (.cells #[.int .i64 W, .int .i64 T, .slice A bs.length c] 25)) (.cells #[] 3)
  have R0 := (hr.alloc (.cells #[.int .i64 W, .int .i64 T, .slice A bs.length c] 25)).alloc (.cells #[] 3)
  have hz0 : ((w.alloc (.cells #[.int .i64 W, .int .i64 T, .slice A bs.length c] 25)).alloc (.cells #[] 3)).heap.size = w.heap.size + 2 := by simp
  have CD := Lib.hid (fun (z : World) (R : Rd z A (bs.map .bool)) => sDarkCells_any W T A c bs z R hn)
  have CM := Lib.hid (fun (z : World) (R : Rd z A (bs.map .bool)) => sLackMost_any W T A c bs z R hn)
  cases hk : lackOk W T bs with
  | true =>
    obtain ⟨hv, hd⟩ := lackOk_t hk
    obtain ⟨h1, h2, h3, h4, h5, -⟩ := valid_len hv
    rw [show darkV W T bs = darkL W bs true by unfold darkV; rw [if_pos hv]] at CD
    rw [show lackMostV W T bs = (bestTo W T bs (darkL W bs true) (2 ^ (darkL W bs true).length)).2 by unfold lackMostV; rw [if_pos hk]] at CM
    rw [show lackSetV W T bs = selTo (darkL W bs true) (bestTo W T bs (darkL W bs true) (2 ^ (darkL W bs true).length)).1 (darkL W bs true).length by unfold lackSetV; rw [if_pos hk]]
    have HV := Lib.hid hv
    clear hv hk
    generalize darkL W bs true = D at CD CM hd ⊢
    obtain ⟨hshl, hp1, hp2⟩ := shl_i64 hd
    have hbd := best_bd W T bs D (2 ^ D.length) h5
    have hat := best_at W T bs D (2 ^ D.length - 1)
    rw [Nat.sub_add_cancel hp1] at hat
    generalize 2 ^ D.length = N at hshl hp1 hp2 hbd hat CM ⊢
    obtain ⟨bt, hbt⟩ : ∃ bt, (bestTo W T bs D N).1 = bt := ⟨_, rfl⟩
    obtain ⟨most, hmo⟩ : ∃ most, (bestTo W T bs D N).2 = most := ⟨_, rfl⟩
    rw [hbt, hmo] at hat hbd
    rw [hmo] at CM
    rw [hbt]
    clear hbt hmo
    obtain ⟨hat1, hat2, hat3⟩ := hat
    obtain ⟨hm0, hm1, -⟩ := hbd
    have HA2 := Lib.hid hat2
    have HA3 := Lib.hid hat3
    have hmin : min (D.length : Int) 12 = (D.length : Int) := by omega
    have hge : decide (0 ≤ most) = true := by simp; omega
    clear hat2 hat3
    go_enter Try.func12, Try.ntmps12
    go_wp2_with fail
    generalize (w.alloc (.cells #[.int .i64 W, .int .i64 T, .slice A bs.length c] 25)).alloc (.cells #[] 3) = wa at *
    obtain ⟨x0, x1, x2⟩ := id X0
    refine (CD.out _ R0).mono ?_
    rintro e w1 ⟨A1, c1, rfl, P1, b1, f1⟩
    have R1 := R0.belo b1
    have B1 := bl_go B0 b1
    have X1 := X0.belo b1
    have O1 := O0.belo b1
    have s1 : w.heap.size + 2 ≤ w1.heap.size := by have := b1.size; omega
    have f1' : ∀ ad, A1 = some ad → w.heap.size + 2 ≤ ad.block := fun ad ha => by have := f1 ad ha; omega
    clear R0 B0 X0 O0 b1 f1 x0 x1 x2
    obtain ⟨x0, x1, x2⟩ := id X1
    go_wp2_with fail
    refine (CM.out _ R1).mono ?_
    rintro e w2 ⟨rfl, b2⟩
    have R2 := R1.belo b2
    have B2 := bl_go B1 b2
    have X2 := X1.belo b2
    have O2 := O1.belo b2
    have P2 := P1.belo b2
    have s2 : w.heap.size + 2 ≤ w2.heap.size := by have := b2.size; omega
    clear R1 B1 X1 O1 P1 b2 x0 x1 x2 s1
    go_wp2_with fail
    go_loopw [3, 6] (fun v i wr => ∃ s : Nat, s ≤ bt ∧ i = .int .i64 s ∧ v = .slice (some ⟨w.heap.size + 1, 0, none⟩) 0 0 ∧ Rd wr A (bs.map .bool) ∧ Rd wr A1 (D.map (.int .i64)) ∧ Below w.heap.size w wr ∧ C3 wr w.heap.size (.int .i64 W) (.int .i64 T) (.slice A bs.length c) ∧ OwnI wr (w.heap.size + 1) (.slice (some ⟨w.heap.size + 1, 0, none⟩) 0 0) [] ∧ w.heap.size + 2 ≤ wr.heap.size) (fun _ i _ => N - (intOf i).toNat)
    case atStart => exact ⟨0, Nat.zero_le _, rfl, rfl, R2, P2, B2, X2, O2, s2⟩
    case round =>
      clear R2 P2 B2 X2 O2 s2
      obtain ⟨s, hs, rfl, rfl, R2, P2, B2, X2, O2, s2⟩ := hrel
      obtain ⟨x0, x1, x2⟩ := id X2
      have hsI : (s : Int) < (N : Int) := by omega
      have CL := Lib.hid (l7Lack_any W T A A1 c c1 bs D s wr R2 P2 HV.out (by omega))
      cases hq : (lackZ W T bs D s == most) with
      | true =>
        have hsb : s = bt := by
          rcases Nat.lt_or_ge s bt with h | h
          · exact absurd (by simpa using hq) (HA3.out s h)
          · omega
        subst hsb
        have hb36 := lack_bd W T bs D s h5
        go_wp2_with fail
        refine CL.out.mono ?_
        rintro e w3 ⟨rfl, b3⟩
        have P3 := P2.belo b3
        have B3 := bl_go B2 b3
        have O3 := O2.belo b3
        have s3 : w.heap.size + 2 ≤ w3.heap.size := by have := b3.size; omega
        clear R2 P2 B2 X2 O2 s2 x0 x1 x2 b3
        go_wp2_with fail
        go_loopw [3, 7] (fun v i wr => ∃ (k : Nat) (L : List Int), Hid (L = selTo D s k) ∧ k ≤ D.length ∧ i = .int .i64 k ∧ OwnI wr (w.heap.size + 1) v L ∧ Rd wr A1 (D.map (.int .i64)) ∧ Below w.heap.size w wr ∧ (∀ ad, A1 = some ad → v.ownBlock ≠ some ad.block) ∧ w.heap.size + 2 ≤ wr.heap.size) (fun _ i _ => D.length - (intOf i).toNat)
        case atStart => exact ⟨0, [], rfl, Nat.zero_le _, rfl, O3, P3, B3, fun ad ha e => by have := f1' ad ha; simp [Value.ownBlock] at e; omega, s3⟩
        case round =>
          clear O3 P3 B3 s3
          obtain ⟨k, L, HA, hk, rfl, hown, P3, B3, hne, s3⟩ := hrel
          have hLk : L.length ≤ 36 := by rw [HA.out, sel_len]; have := bits_bd k s; omega
          obtain ⟨A3, c3, rfl, hw3⟩ := id hown
          clear hw3
          by_cases hlt : k < D.length
          · obtain ⟨ad, rfl, hc0⟩ := P3.atM hlt
            have hadlt : ad.block < wr.heap.size := P3.lt rfl (by intro e; have : D = [] := by simpa using e
                                                                  subst this; simp at hlt)
            have HBT := bit_rem s k
            obtain ⟨q, hqq⟩ : ∃ q, D[k] = q := ⟨_, rfl⟩
            have hgd : D.getD k 0 = q := by rw [List.getD_eq_getElem?_getD, List.getElem?_eq_getElem hlt, hqq]; rfl
            have hkI : (k : Int) < (D.length : Int) := by omega
            rw [hqq] at hc0
            clear hqq
            cases hb : s.testBit k with
            | true =>
              rw [hb] at HBT
              have HS := Lib.hid (sel_t (D := D) hb)
              have HG := Lib.hid hgd
              clear hb hgd
              go_wp2_with (at_builtin; refine app_intL _ rfl _ _ rfl (w.heap.size + 1) _ _ rfl hown _ rfl (by omega) (by omega) ?_; intro g4 c' w4 hown4 hg4 hl4)
              have hne0 := hne ad rfl
              have P4 := (P3.alloc (.cells #[.int .i64 q] 3)).grownBelow hg4 (fun _ ad' ha e => hne ad' ha e.symm)
              have B4 := (bl_alloc B3 (.cells #[.int .i64 q] 3)).grown hg4 (by simp; omega) (fun kk hkk => by obtain ⟨A', c', e, h'⟩ := hown; have := (h'.lt kk hkk).1; omega)
              go_roundw
              case rel =>
                refine ⟨k + 1, L ++ [q], by show _ = _; rw [HS.out, HA.out, HG.out], by omega, by go_num, by simpa using hown4, P4, B4, fun ad' ha e => ?_, by have := hg4.size; simp at this; omega⟩
                have ead : ad = ad' := by injection ha
                subst ead
                have e6 : g4 = ad.block := by simpa [Value.ownBlock] using e
                rcases hl4 with h | h
                · exact hne0 (e6 ▸ h)
                · omega
              case measure => simp [intOf]; omega
            | false =>
              rw [hb] at HBT
              have HS := Lib.hid (sel_f (D := D) hb)
              clear hb hgd
              go_wp2_with fail
              go_roundw
              case rel => exact ⟨k + 1, L, by show _ = _; rw [HS.out, HA.out], by omega, by go_num, hown, P3, B3, hne, s3⟩
              case measure => simp [intOf]; omega
          · obtain rfl : k = D.length := by omega
            go_wp2
            go_ret
            rw [← HA.out]
            exact hown.newRd B3 (by omega)
      | false =>
        have hsb : s ≠ bt := by
          intro e; subst e
          rw [HA2.out] at hq
          simp at hq
        go_wp2_with fail
        refine CL.out.mono ?_
        rintro e w3 ⟨rfl, b3⟩
        go_wp2_with fail
        go_roundw
        case rel => exact ⟨s + 1, by omega, by go_num, rfl, R2.belo b3, P2.belo b3, bl_go B2 b3, X2.belo b3, O2.belo b3, by have := b3.size; omega⟩
        case measure => simp [intOf]; omega
  | false =>
    rw [show lackMostV W T bs = -1 by unfold lackMostV; rw [hk]; rfl] at CM
    rw [show lackSetV W T bs = [] by unfold lackSetV; rw [hk]; rfl]
    have hsh : ∃ (m : Nat) (N : Nat), min ((darkV W T bs).length : Int) 12 = (m : Int) ∧ m ≤ 12 ∧ IntKind.i64.wrap ((2 : Int) ^ m) = (N : Int) ∧ 1 ≤ N := by
      refine ⟨min (darkV W T bs).length 12, 2 ^ min (darkV W T bs).length 12, by omega, by omega, (shl_i64 (by omega)).1, (shl_i64 (by omega)).2.1⟩
    obtain ⟨m, N, hmin, hm12, hshl, hN⟩ := hsh
    generalize darkV W T bs = D at CD hmin
    have h0N : (0 : Int) < (N : Int) := by omega
    go_enter Try.func12, Try.ntmps12
    go_wp2_with fail
    generalize (w.alloc (.cells #[.int .i64 W, .int .i64 T, .slice A bs.length c] 25)).alloc (.cells #[] 3) = wa at *
    obtain ⟨x0, x1, x2⟩ := id X0
    refine (CD.out _ R0).mono ?_
    rintro e w1 ⟨A1, c1, rfl, P1, b1, f1⟩
    have R1 := R0.belo b1
    have B1 := bl_go B0 b1
    have X1 := X0.belo b1
    have O1 := O0.belo b1
    clear R0 B0 X0 O0 b1 f1 x0 x1 x2
    obtain ⟨x0, x1, x2⟩ := id X1
    go_wp2_with fail
    refine (CM.out _ R1).mono ?_
    rintro e w2 ⟨rfl, b2⟩
    have B2 := bl_go B1 b2
    have O2 := O1.belo b2
    clear x0 x1 x2
    go_wp2_with fail
    refine wp_loop_rounds 1 ?_
    rw [rounds_succ]
    go_wp2
    go_ret
    exact O2.newRd B2 (by omega)
end Go.Proofs.Ytadejjpcdpmpkaa
