
/- FnCoupledAt: joined from TmnS. -/
import Derived.Test.YtafmpgikdhlknaaGreatPB
import Derived.Deep.Cut
import Derived.Deep.CutRange
import Derived.Deep.CutBlock
import Derived.Maps.AppendAt
/- Contract: the reference's TilingsMany ends, with some number. -/
namespace Go.Proofs.YtafmpgikdhlknaaGreat
open Go.RowKit

theorem OwnI.keepH {w w' : World} {base : Nat} {v : Value} {xs : List Int} (h : OwnI w base v xs) (hk : ∀ b, v.ownBlock = some b → w'.heap[b]? = w.heap[b]?) : OwnI w' base v xs := by
  obtain ⟨A, c, e, o⟩ := h
  refine ⟨A, c, e, o.1, ?_⟩
  rcases o.2 with h1 | ⟨g, cap, cur, hv, h1⟩
  · exact .inl h1
  · refine .inr ⟨g, cap, cur, hv, ?_⟩
    have := hk g (by rw [hv]; rfl)
    obtain ⟨a1, a2, a3⟩ := h1
    exact ⟨a1, by rw [this]; exact a2, a3⟩
theorem OwnI.ltB {w : World} {base : Nat} {v : Value} {xs : List Int} (h : OwnI w base v xs) : ∀ k, v.ownBlock = some k → base ≤ k ∧ k < w.heap.size := by
  obtain ⟨A, c, e, o⟩ := h
  exact o.lt
theorem OwnI.sl {w : World} {base : Nat} {v : Value} {xs : List Int} (h : OwnI w base v xs) : ∃ (A : Option Addr) (c : Nat), v = .slice A xs.length c ∧ Rd w A (xs.map (.int .i64)) := by
  obtain ⟨A, c, e, o⟩ := id h
  subst e
  exact ⟨A, c, rfl, h.rd.2⟩
section
variable {ops : Array Oper} {rest : List Oper} {o : Oper} {a : Act} {Q : Exit → Act → World → Prop}
/-- a number appended, and where the list lies then -/
theorem opw_int1 {K : Act → World → Prop} (W : World) (s x : Operand) (ho : o.op = .call { callee := .builtin .append, args := #[s, x], argTypes := #[29, 29] })
    (base : Nat) (v : Value) (xs : List Int) (hs : a.eval s = v) (hown : OwnI W base v xs) (u : Int) (b : Nat) (hx : a.eval x = .slice (some ⟨b, 0, none⟩) 1 1) (hc : W.cell? ⟨b, 0, none⟩ = some (.int .i64 u)) (hm : xs.length + 1 ≤ 1000000000000) (hbase : base ≤ W.heap.size)
    (h : ∀ v' w', OwnI w' base v' (xs ++ [u]) → W.grownBy w' v.ownBlock → (v'.ownBlock = v.ownBlock ∨ v'.ownBlock = some W.heap.size) → K (a.put o.dst v') w') : Oper.wp Tryz.prog o a W K Q := by
  obtain ⟨i0, hi, hz0, hz1, hz2⟩ := info_parts Tryz.infoI
  obtain ⟨A, c', e, hown⟩ := hown
  obtain ⟨v', w', hr, h2, h3, _, h5⟩ := run_append_own_at (P := Tryz.prog) W base 29 o.type 3 i0 (.int .i64 0) 1 8 Tryz.underlying29 hi hz0 hz1 hz2 rfl (by decide) v xs.length (xs.map (.int .i64)) hown ⟨b, 0, none⟩ 1 1 [.int .i64 u] rfl (fun j y hj => by
    match j, hj with
    | 0, hj => simp at hj; subst hj; simpa [Addr.add] using hc) (fun y hy => by simp at hy; subst hy; rfl) (by unfold maxLen; omega) (by omega) hbase
  unfold Oper.wp execOp
  simp only [ho, resolve, invoke, builtin, Sem.run_bind, Sem.run_pure, Result.andThen_ok, List.map_toArray, List.map_cons, List.map_nil, hs, hx, hr]
  have e1 : xs.map (Value.int .i64) ++ [.int .i64 u] = (xs ++ [u]).map (.int .i64) := by simp
  have e2 : (xs ++ [u]).length = xs.length + 1 := by simp
  rw [e1] at h2
  refine h v' w' ?_ h3 h5
  obtain ⟨g, cap, rfl, _, _⟩ := h2.form (by omega)
  exact ⟨_, cap, by rw [e2], by rw [e2]; exact h2⟩
theorem wpList_int1 (W : World) (hgd : o.guard = none) (s x : Operand) (ho : o.op = .call { callee := .builtin .append, args := #[s, x], argTypes := #[29, 29] })
    (base : Nat) (v : Value) (xs : List Int) (hs : a.eval s = v) (hown : OwnI W base v xs) (u : Int) (b : Nat) (hx : a.eval x = .slice (some ⟨b, 0, none⟩) 1 1) (hc : W.cell? ⟨b, 0, none⟩ = some (.int .i64 u)) (hm : xs.length + 1 ≤ 1000000000000) (hbase : base ≤ W.heap.size)
    (h : ∀ v' w', OwnI w' base v' (xs ++ [u]) → W.grownBy w' v.ownBlock → (v'.ownBlock = v.ownBlock ∨ v'.ownBlock = some W.heap.size) → wpList Tryz.prog ops Q rest (a.put o.dst v') w') : wpList Tryz.prog ops Q (o :: rest) a W :=
  wpList_plain hgd fun _ hK => opw_int1 W s x ho base v xs hs hown u b hx hc hm hbase fun v' w' k1 k2 k3 => hK _ _ (h v' w' k1 k2 k3)
end
theorem i_newT (w : World) (q : Int) : (w.alloc (.cells #[.int .i64 q] 3)).cell? ⟨w.heap.size, 0, none⟩ = some (.int .i64 q) := cell_of_row _ _ _ _ _ _ (heap_alloc_new w _)
structure Tm3 (w1 : World) (v6 v7 : Value) (X Y : List Int) (wr : World) : Prop where
  o6 : OwnI wr w1.heap.size v6 X
  o7 : OwnI wr w1.heap.size v7 Y
  ne : ∀ k, v6.ownBlock = some k → v7.ownBlock ≠ some k
  bel : Below w1.heap.size w1 wr
theorem Tm3.belo {w1 wr w' : World} {v6 v7 : Value} {X Y : List Int} (h : Tm3 w1 v6 v7 X Y wr) (hb : Below wr.heap.size wr w') : Tm3 w1 v6 v7 X Y w' := ⟨h.o6.belo hb, h.o7.belo hb, h.ne, bl_go h.bel hb⟩
/-- .. and the options, which are read -/
structure Tm5 (w1 : World) (v6 v7 : Value) (X Y : List Int) (A : Option Addr) (O : List Int) (wr : World) : Prop where
  t : Tm3 w1 v6 v7 X Y wr
  ro : Rd wr A (O.map (.int .i64))
  sep : ∀ ad, A = some ad → O ≠ [] → ad.block < wr.heap.size ∧ v6.ownBlock ≠ some ad.block ∧ v7.ownBlock ≠ some ad.block
theorem rd_keepB {w w' : World} {A : Option Addr} {O : List Int} (h : Rd w A (O.map (.int .i64))) (hb : ∀ ad, A = some ad → O ≠ [] → w'.heap[ad.block]? = w.heap[ad.block]?) : Rd w' A (O.map (.int .i64)) := fun hne => by
  obtain ⟨ad, e, hc⟩ := h hne
  refine ⟨ad, e, fun j u hu => ?_⟩
  have hcj := hc j u hu
  have hk := hb ad e (fun e2 => hne (by rw [e2]; rfl))
  have hz : (ad.add j).block = ad.block := blk_add ad j
  rw [World.cell?_of_block (show w'.heap[(ad.add j).block]? = w.heap[(ad.add j).block]? by rw [hz]; exact hk)]
  exact hcj
theorem Tm5.drewN {w1 wr : World} {v6 v7 : Value} {X Y O : List Int} {A : Option Addr} (h : Tm5 w1 v6 v7 X Y A O wr) (q : Nat) : Tm5 w1 v6 v7 X Y A O (wr.drewN q) :=
  ⟨⟨h.t.o6.drewN q, h.t.o7.drewN q, h.t.ne, below_drewN' h.t.bel q⟩, h.ro.drewN q, h.sep⟩
theorem Tm5.belo {w1 wr w' : World} {v6 v7 : Value} {X Y O : List Int} {A : Option Addr} (h : Tm5 w1 v6 v7 X Y A O wr) (hb : Below wr.heap.size wr w') : Tm5 w1 v6 v7 X Y A O w' :=
  ⟨h.t.belo hb, h.ro.belo hb, fun ad e n => by obtain ⟨a, b, c⟩ := h.sep ad e n; exact ⟨Nat.lt_of_lt_of_le a hb.size, b, c⟩⟩
theorem Tm5.app6 {w1 W w' : World} {v6 v7 v6' : Value} {X X' Y O : List Int} {A : Option Addr} (h : Tm5 w1 v6 v7 X Y A O W) (ho : OwnI w' w1.heap.size v6' X') (hg : W.grownBy w' v6.ownBlock) (he : v6'.ownBlock = v6.ownBlock ∨ v6'.ownBlock = some W.heap.size) : Tm5 w1 v6' v7 X' Y A O w' := by
  have hs := hg.size
  refine ⟨⟨ho, h.t.o7.keepH fun b hb => hg.block b (h.t.o7.ltB b hb).2 (fun e => h.t.ne b e.symm hb), fun k hk h7 => ?_, h.t.bel.grown hg h.t.bel.size (fun k hk => (h.t.o6.ltB k hk).1)⟩, rd_keepB h.ro fun ad e n => ?_, fun ad e n => ?_⟩
  · rcases he with e | e
    · rw [e] at hk; exact h.t.ne k hk h7
    · rw [e] at hk; injection hk with hk; have := (h.t.o7.ltB k h7).2; omega
  · obtain ⟨a, b, -⟩ := h.sep ad e n
    exact hg.block ad.block a (fun e => b e.symm)
  · obtain ⟨a, b, c⟩ := h.sep ad e n
    refine ⟨by omega, fun e2 => ?_, c⟩
    rcases he with e | e
    · rw [e] at e2; exact b e2
    · rw [e] at e2; injection e2 with e2; omega
theorem Tm5.app7 {w1 W w' : World} {v6 v7 v7' : Value} {X Y Y' O : List Int} {A : Option Addr} (h : Tm5 w1 v6 v7 X Y A O W) (ho : OwnI w' w1.heap.size v7' Y') (hg : W.grownBy w' v7.ownBlock) (he : v7'.ownBlock = v7.ownBlock ∨ v7'.ownBlock = some W.heap.size) : Tm5 w1 v6 v7' X Y' A O w' := by
  have hs := hg.size
  refine ⟨⟨h.t.o6.keepH fun b hb => hg.block b (h.t.o6.ltB b hb).2 (fun e => h.t.ne b hb e.symm), ho, fun k hk h7 => ?_, h.t.bel.grown hg h.t.bel.size (fun k hk => (h.t.o7.ltB k hk).1)⟩, rd_keepB h.ro fun ad e n => ?_, fun ad e n => ?_⟩
  · rcases he with e | e
    · rw [e] at h7; exact h.t.ne k hk h7
    · rw [e] at h7; injection h7 with h7; have := (h.t.o6.ltB k hk).2; omega
  · obtain ⟨a, -, b⟩ := h.sep ad e n
    exact hg.block ad.block a (fun e => b e.symm)
  · obtain ⟨a, b, c⟩ := h.sep ad e n
    refine ⟨by omega, b, fun e2 => ?_⟩
    rcases he with e | e
    · rw [e] at e2; exact c e2
    · rw [e] at e2; injection e2 with e2; omega
theorem Tm5.set7 {w1 W : World} {v6 : Value} {g n c : Nat} {X Y O : List Int} {A : Option Addr} (h : Tm5 w1 v6 (.slice (some ⟨g, 0, none⟩) n c) X Y A O W) (k : Nat) (z : Int) : Tm5 w1 v6 (.slice (some ⟨g, 0, none⟩) n c) X (Y.set k z) A O (W.setCell ⟨g, k, none⟩ (.int .i64 z)) := by
  obtain ⟨h1, -, h2, -⟩ := h.t.o7.stored k z
  have hg : ∀ b, b ≠ g → (W.setCell ⟨g, k, none⟩ (.int .i64 z)).heap[b]? = W.heap[b]? := fun b hb => Below.heap_setCell _ _ _ _ hb
  refine ⟨⟨h.t.o6.keepH fun b hb => hg b (fun e => h.t.ne b hb (by rw [e]; rfl)), h1, h.t.ne, h.t.bel.setCell h2 _⟩, rd_keepB h.ro fun ad e n => hg _ (fun e2 => (h.sep ad e n).2.2 (by rw [e2]; rfl)), fun ad e n => ?_⟩
  obtain ⟨a, b, c⟩ := h.sep ad e n
  exact ⟨by simpa [World.setCell] using a, b, c⟩
set_option maxRecDepth 100000 in
set_option maxHeartbeats 8000000 in
theorem tilMany_int (W T : Int) (A : Option Addr) (c n : Nat) (bs : List Bool) (w : World) (hr : Rd w A (bs.map .bool)) (hval : validB W T bs = true) (hn : bs.length = n) :
    Calls Tryz.prog 62 #[.agg #[.int .i64 W, .int .i64 T, .slice A n c]] w fun e w' => ∃ z : Int, e = .returned (.int .i64 z) ∧ Below w.heap.size w w' := by
  obtain ⟨⟨w1, w6⟩, ⟨t1, t6⟩, hlen, -⟩ := validB_iff.1 hval
  have hf : FldF W T n := ⟨w1, w6, t1, t6, by rw [← hn]; exact hlen⟩
  have n36 : n ≤ 36 := hf.bd
  have CV := Lib.hid (fun (z : World) (R : Rd z A (bs.map .bool)) => by have := sRegionValid_any W T A c bs z R (by unfold maxLen; omega); rw [hval, hn] at this; exact this)
  have CST := Lib.hid (fun (a : Nat) (ha : a < n) (q : Int) (z : World) => l2step_any W T (.slice A n c) a q z w1 w6 t1 t6 (by omega) (by have := hf.len; omega))
  have HSB := Lib.hid (fun (a : Nat) (ha : a < n) (q : Int) => show stepZ W T a q < 0 ∨ ∃ s : Nat, stepZ W T a q = s ∧ s < n from by
    have h := step_bd q w1 w6 t1 t6 (show 0 ≤ (a : Int) by omega) (by have := hf.len; omega)
    rcases Int.lt_or_le (stepZ W T a q) 0 with h1 | h1
    · exact .inl h1
    · obtain ⟨s, hs⟩ := Int.eq_ofNat_of_zero_le h1
      exact .inr ⟨s, hs, by have := hf.len; rw [hs] at h; omega⟩)
  have HBN := Lib.hid hn
  have X0 := C3.new w (.int .i64 W) (.int .i64 T) (.slice A n c) 25
  have B0 := bl_alloc (Below.refl w.heap.size w) (.cells #[.int .i64 W, .int .i64 T, .slice A n c] 25)
  have CV0 := Lib.hid (CV.out _ (hr.belo B0))
  obtain ⟨x0, x1, x2⟩ := id X0
  clear hval hlen hf hn CV
  go_enter Tryz.func62, Tryz.ntmps62
  go_wp2_with fail
  generalize w.alloc (.cells #[.int .i64 W, .int .i64 T, .slice A n c] 25) = u at *
  refine CV0.out.mono ?_
  rintro e w2 ⟨rfl, b2⟩
  have B2 := bl_go B0 b2
  have X2 := X0.belo b2
  clear x0 x1 x2 X0 B0 b2 CV0
  have O3 := OwnI.uno w2 0
  have b3 := bl_alloc (Below.refl w2.heap.size w2) (.cells #[.int .i64 0] 3)
  have O4 := OwnI.uno (w2.alloc (.cells #[.int .i64 0] 3)) 1
  have b4 := bl_alloc b3 (.cells #[.int .i64 1] 3)
  have O3' := O3.alloc (.cells #[.int .i64 1] 3)
  have hz : (w2.alloc (.cells #[.int .i64 0] 3)).heap.size = w2.heap.size + 1 := by simp
  rw [hz] at O4
  have X4 := X2.belo b4
  have B4 := bl_go B2 b4
  go_wp2_with fail
  generalize (w2.alloc (.cells #[.int .i64 0] 3)).alloc (.cells #[.int .i64 1] 3) = w4 at *
  have R3 := O3'.rd.2
  have R4 := O4.rd.2
  clear O3 O4 O3' b3 b4 hz B2 X2
  go_loopw [3, 4, 5] (fun s3 s4 i wr => ∃ (k c3 c4 : Nat) (A3 A4 : Option Addr) (S Y : List Int), k ≤ n ∧ i = .int .i64 k ∧ s3 = .slice A3 S.length c3 ∧ s4 = .slice A4 S.length c4 ∧ Rd wr A3 (S.map (.int .i64)) ∧ Rd wr A4 (Y.map (.int .i64)) ∧ Hid (Y.length = S.length ∧ S.length ≤ 2 ^ k) ∧ C3 wr w.heap.size (.int .i64 W) (.int .i64 T) (.slice A n c) ∧ Below w.heap.size w wr) (fun _ _ i _ => n - (intOf i).toNat)
  case atStart => exact ⟨0, 1, 1, _, _, [0], [1], Nat.zero_le _, rfl, rfl, rfl, R3, R4, Lib.hid ⟨rfl, by simp⟩, X4, B4⟩
  case round =>
    clear R3 R4 X4 B4
    obtain ⟨k, c3, c4, A3, A4, S, Y, hk, rfl, rfl, rfl, RS, RY, HL, XR, BR⟩ := hrel
    obtain ⟨wk, hwk⟩ : ∃ wk : World, wk = wr := ⟨_, rfl⟩
    subst hwk
    obtain ⟨x0, x1, x2⟩ := id XR
    have h2k : 2 ^ k ≤ 68719476736 := by
      have : 2 ^ k ≤ 2 ^ 36 := Nat.pow_le_pow_right (by omega) (by omega)
      omega
    have hSl : S.length ≤ 68719476736 := Nat.le_trans HL.out.2 h2k
    by_cases hlt : k < n
    · have hkI : (k : Int) < (n : Int) := by omega
      have O6 := OwnI.empty wk
      have b6 := bl_alloc (Below.refl wk.heap.size wk) (.cells #[] 3)
      have O7 := OwnI.empty (wk.alloc (.cells #[] 3))
      have O6' := O6.alloc (.cells #[] 3)
      have b7 := bl_alloc b6 (.cells #[] 3)
      have hz : (wk.alloc (.cells #[] 3)).heap.size = wk.heap.size + 1 := by simp
      rw [hz] at O7
      have T0 : Tm3 wk (.slice (some ⟨wk.heap.size, 0, none⟩) 0 0) (.slice (some ⟨wk.heap.size + 1, 0, none⟩) 0 0) [] [] ((wk.alloc (.cells #[] 3)).alloc (.cells #[] 3)) :=
        ⟨O6', O7.base (Nat.le_succ _), fun k h1 h2 => by simp [Value.ownBlock] at h1 h2; omega, b7⟩
      clear O6 O7 O6' b6 b7 hz
      go_wp2_with fail
      generalize (wk.alloc (.cells #[] 3)).alloc (.cells #[] 3) = w8 at *
      clear x0 x1 x2
      go_loopw [6, 7, 8] (fun s6 s7 i wr => ∃ (j : Nat) (v6 v7 : Value) (X Z : List Int), j ≤ S.length ∧ i = .int .i64 j ∧ v6 = s6 ∧ v7 = s7 ∧ Hid (X.length ≤ 2 * j ∧ X.length = Z.length) ∧ Tm3 wk v6 v7 X Z wr) (fun _ _ i _ => S.length - (intOf i).toNat)
      case atStart => exact ⟨0, _, _, [], [], Nat.zero_le _, rfl, rfl, rfl, Lib.hid ⟨Nat.zero_le _, rfl⟩, T0⟩
      case round =>
        clear T0
        obtain ⟨j, v6, v7, X, Z, hj, rfl, rfl, rfl, hXl, TR⟩ := hrel
        obtain ⟨wj, hwj⟩ : ∃ wj : World, wj = wr := ⟨_, rfl⟩
        subst hwj
        by_cases hjl : j < S.length
        · have hjI : (j : Int) < (S.length : Int) := by omega
          obtain ⟨ad3, rfl, cz⟩ := (RS.belo TR.bel).atM hjl
          generalize S[j] = z at *
          have X9 := XR.belo TR.bel
          obtain ⟨x0, x1, x2⟩ := id X9
          have hx9 := X9.lt
          obtain ⟨cv, hcv⟩ : ∃ cv, (z.tmod 2 == 1) = cv := ⟨_, rfl⟩
          have hkb : k < bs.length := by have := HBN.out; omega
          have OE := OwnI.empty wj
          have bo := bl_alloc (Below.refl wj.heap.size wj) (.cells #[] 3)
          have Xo := X9.belo bo
          obtain ⟨xo0, xo1, xo2⟩ := id Xo
          have hr9 := (hr.belo (bl_go BR TR.bel)).belo bo
          go_upto_block 4 with fail
          go_cut [11] from 32 to 163 (fun s11 wx => ∃ (A11 : Option Addr) (c11 : Nat) (O : List Int), s11 = .slice A11 O.length c11 ∧ O.length ≤ 2 ∧ OwnI wx wj.heap.size (.slice A11 O.length c11) O ∧ Below wj.heap.size wj wx)
          case first =>
            go_upto_region 22 with fail
            clear hcv
            generalize wj.alloc (.cells #[] 3) = wo at *
            clear x0 x1 x2 cz X9 hx9
            obtain ⟨b9, off9, rfl, ck⟩ := hr9.atEM hkb
            obtain ⟨bk, hbk⟩ : ∃ bk, bs[k] = bk := ⟨_, rfl⟩
            rw [hbk] at ck
            clear hbk
            go_cut [100] from 32 to 163 (fun s100 wx => (∃ cb : Bool, s100 = .bool cb) ∧ wx = wo)
            case first =>
              cases cv with
              | true =>
                go_wp2_with fail
                go_meet
                exact ⟨⟨_, rfl⟩, rfl⟩
              | false =>
                cases bk with
                | true =>
                  go_wp2_with fail
                  go_meet
                  exact ⟨⟨_, rfl⟩, rfl⟩
                | false =>
                  go_wp2_with fail
                  go_meet
                  exact ⟨⟨_, rfl⟩, rfl⟩
            case rest =>
              obtain ⟨⟨cb, rfl⟩, rfl⟩ := hcut
              obtain ⟨wo, hwo⟩ : ∃ wo : World, wo = wc := ⟨_, rfl⟩
              subst hwo
              clear ck
              have hsb := bo.size
              cases cb with
              | true =>
                go_wp2_with (at_builtin; refine app_int _ rfl _ _ rfl wj.heap.size _ [] rfl OE _ rfl (by simp) hsb ?_; intro A12 c12 w12 O12 g12)
                go_meet
                obtain ⟨q, hq⟩ : ∃ q, OwnI w12 wj.heap.size (.slice A12 ([q] : List Int).length c12) [q] := ⟨_, O12⟩
                exact ⟨A12, c12, [q], rfl, by simp, hq, app_below bo (Nat.le_refl _) hsb OE g12⟩
              | false =>
                go_wp2_with fail
                refine (CST.out k hlt 1 _).mono ?_
                rintro e wE ⟨rfl, bE⟩
                have XE := Xo.belo bE
                have OE1 := OE.belo bE
                have boE := bl_go bo bE
                have hrE := hr9.belo bE
                clear xo0 xo1 xo2
                obtain ⟨x0, x1, x2⟩ := id XE
                go_wp2_with fail
                refine (CST.out k hlt 2 _).mono ?_
                rintro e wF ⟨rfl, bF⟩
                have XF := XE.belo bF
                have OF := OE1.belo bF
                have boF := bl_go boE bF
                have hrF := hrE.belo bF
                have hsF := boF.size
                clear x0 x1 x2 XE OE1 boE hrE bE bF
                obtain ⟨x0, x1, x2⟩ := id XF
                have h1 := HSB.out k hlt 1
                have h2 := HSB.out k hlt 2
                generalize stepZ W T k 1 = e1 at *
                generalize stepZ W T k 2 = e2 at *
                go_upto_region 18 with fail
                go_cut [66] from 32 to 163 (fun s66 wx => (∃ qb : Bool, s66 = .bool qb) ∧ wx = wF)
                case first =>
                  rcases h1 with h1 | ⟨s, rfl, hs⟩
                  · have h1d : decide (0 ≤ e1) = false := decide_eq_false (by omega)
                    clear h1
                    go_wp2_with fail
                    go_meet
                    exact ⟨⟨_, rfl⟩, rfl⟩
                  · have hsb9 : s < bs.length := by have := HBN.out; omega
                    obtain ⟨b5, off5, e5, cs⟩ := hrF.atEM hsb9
                    injection e5 with e5; injection e5 with e5 e6
                    subst e5; subst e6
                    have hsI : (s : Int) < (n : Int) := by omega
                    have hs0 : decide (0 ≤ (s : Int)) = true := decide_eq_true (by omega)
                    generalize bs[s] = b7 at cs
                    cases b7 with
                    | true =>
                      go_wp2_with fail
                      go_meet
                      exact ⟨⟨_, rfl⟩, rfl⟩
                    | false =>
                      go_wp2_with fail
                      go_meet
                      exact ⟨⟨_, rfl⟩, rfl⟩
                case rest =>
                  obtain ⟨⟨qb, rfl⟩, rfl⟩ := hcut
                  obtain ⟨wF, hwF⟩ : ∃ wF : World, wF = wc := ⟨_, rfl⟩
                  subst hwF
                  go_upto_if 66 with fail
                  go_cut [11] from 32 to 163 (fun s11 wx => ∃ (A11 : Option Addr) (c11 : Nat) (O : List Int), s11 = .slice A11 O.length c11 ∧ O.length ≤ 1 ∧ OwnI wx wj.heap.size (.slice A11 O.length c11) O ∧ Below wj.heap.size wj wx)
                  case first =>
                    cases qb with
                    | true =>
                      go_wp2_with (at_builtin; refine app_int _ rfl _ _ rfl wj.heap.size _ [] rfl OF _ rfl (by simp) hsF ?_; intro A12 c12 w12 O12 g12)
                      go_meet
                      obtain ⟨q, hq⟩ : ∃ q, OwnI w12 wj.heap.size (.slice A12 ([q] : List Int).length c12) [q] := ⟨_, O12⟩
                      exact ⟨A12, c12, [q], rfl, by simp, hq, app_below boF (Nat.le_refl _) hsF OF g12⟩
                    | false =>
                      go_wp2_with fail
                      go_meet
                      exact ⟨_, _, [], rfl, by simp, OF, boF⟩
                  case rest =>
                    obtain ⟨A13, c13, O1, rfl, hO1, OG, boG⟩ := hcut
                    obtain ⟨wG, hwG⟩ : ∃ wG : World, wG = wc := ⟨_, rfl⟩
                    subst hwG
                    have XG := (XR.belo TR.bel).belo boG
                    have hrG := (hr.belo (bl_go BR TR.bel)).belo boG
                    have hsG := boG.size
                    clear x0 x1 x2 XF OF boF hrF hsF
                    obtain ⟨x0, x1, x2⟩ := id XG
                    go_upto_region 20 with fail
                    go_cut [89] from 32 to 163 (fun s89 wx => (∃ qb : Bool, s89 = .bool qb) ∧ wx = wG)
                    case first =>
                      rcases h2 with h2 | ⟨s, rfl, hs⟩
                      · have h2d : decide (0 ≤ e2) = false := decide_eq_false (by omega)
                        clear h2
                        go_wp2_with fail
                        go_meet
                        exact ⟨⟨_, rfl⟩, rfl⟩
                      · have hsb9 : s < bs.length := by have := HBN.out; omega
                        obtain ⟨b5, off5, e5, cs⟩ := hrG.atEM hsb9
                        injection e5 with e5; injection e5 with e5 e6
                        subst e5; subst e6
                        have hsI : (s : Int) < (n : Int) := by omega
                        have hs0 : decide (0 ≤ (s : Int)) = true := decide_eq_true (by omega)
                        generalize bs[s] = b7 at cs
                        cases b7 with
                        | true =>
                          go_wp2_with fail
                          go_meet
                          exact ⟨⟨_, rfl⟩, rfl⟩
                        | false =>
                          go_wp2_with fail
                          go_meet
                          exact ⟨⟨_, rfl⟩, rfl⟩
                    case rest =>
                      obtain ⟨⟨qb2, rfl⟩, rfl⟩ := hcut
                      obtain ⟨wG, hwG⟩ : ∃ wG : World, wG = wc := ⟨_, rfl⟩
                      subst hwG
                      cases qb2 with
                      | true =>
                        go_wp2_with (at_builtin; refine app_int _ rfl _ _ rfl wj.heap.size _ O1 rfl OG _ rfl (by omega) hsG ?_; intro A14 c14 w14 O14 g14)
                        go_meet
                        obtain ⟨q, hq⟩ : ∃ q, OwnI w14 wj.heap.size (.slice A14 (O1.length + 1) c14) (O1 ++ [q]) := ⟨_, O14⟩
                        exact ⟨A14, c14, O1 ++ [q], by simp, by simp; omega, by simpa using hq, app_below boG (Nat.le_refl _) hsG OG g14⟩
                      | false =>
                        go_wp2_with fail
                        go_meet
                        exact ⟨_, _, O1, rfl, by omega, OG, boG⟩
          case rest =>
            obtain ⟨A11, c11, O, rfl, hO2, OO, bO⟩ := hcut
            obtain ⟨wH, hwH⟩ : ∃ wH : World, wH = wc := ⟨_, rfl⟩
            subst hwH
            have TH : Tm5 wk v6 v7 X Z A11 O wH := ⟨TR.belo bO, OO.rd.2, fun ad e hne => by
              obtain ⟨h1, h2⟩ := OO.lt ad e
              exact ⟨h2, fun e2 => by have := (TR.o6.ltB _ e2).2; omega, fun e2 => by have := (TR.o7.ltB _ e2).2; omega⟩⟩
            have hXY := hXl.out
            clear x0 x1 x2 OO bO hr9 Xo bo OE TR xo0 xo1 xo2 cz X9 hx9
            go_wp2_with fail
            go_loopw [6, 7, 14] (fun s6 s7 i wr => ∃ (t : Nat) (v6 v7 : Value) (X Z : List Int), t ≤ O.length ∧ i = .int .i64 t ∧ v6 = s6 ∧ v7 = s7 ∧ Hid (X.length ≤ 2 * j + t ∧ X.length = Z.length) ∧ Tm5 wk v6 v7 X Z A11 O wr) (fun _ _ i _ => O.length - (intOf i).toNat)
            case atStart => exact ⟨0, v6, v7, X, Z, Nat.zero_le _, rfl, rfl, rfl, Lib.hid (by omega), TH⟩
            case round =>
              clear TH hXY
              obtain ⟨t, v6, v7, X, Z, ht, rfl, rfl, rfl, hXY, TT⟩ := hrel
              obtain ⟨wt, hwt⟩ : ∃ wt : World, wt = wr := ⟨_, rfl⟩
              subst hwt
              by_cases htl : t < O.length
              · have htI : (t : Int) < (O.length : Int) := by omega
                obtain ⟨ado, rfl, co⟩ := TT.ro.atM htl
                obtain ⟨ov, hov⟩ : ∃ ov, O[t] = ov := ⟨_, rfl⟩
                rw [hov] at co
                clear hov
                obtain ⟨A6, c6, rfl, R6⟩ := TT.t.o6.sl
                go_upto_block 7 with fail
                go_cut [15] from 115 to 163 (fun s15 wx => ∃ (q m : Nat), s15 = .int .i64 (q : Int) ∧ q ≤ X.length ∧ wx = wt.drewN m)
                case first =>
                  have hXb : X.length ≤ 200000000000 := by have := hXY.out; have := hj; omega
                  go_wp2_with fail
                  go_loopw [15] (fun i wr => ∃ (q m : Nat), q ≤ X.length ∧ i = .int .i64 (q : Int) ∧ wr = wt.drewN m) (fun i _ => X.length - (intOf i).toNat)
                  case atStart => exact ⟨0, 0, Nat.zero_le _, rfl, rfl⟩
                  case round =>
                    obtain ⟨q, m, hq, rfl, rfl⟩ := hrel
                    have HM := Lib.hid (fun r => show (wt.drewN m).drewN r = wt.drewN (m + r) from World.drewN_drewN _ _ _)
                    have com : (wt.drewN m).cell? (ado.add t) = some (.int .i64 ov) := co
                    by_cases hql : q < X.length
                    · obtain ⟨ad6, rfl, cx⟩ := (R6.drewN m).atM hql
                      have hqI : (q : Int) < (X.length : Int) := by omega
                      generalize X[q] = xv at *
                      generalize wt.drewN m = wm at *
                      by_cases hxo : xv = ov
                      · have hxb : (xv != ov) = false := by rw [hxo]; simp
                        clear hxo
                        go_wp2_with fail
                        go_quiet (fail)
                        go_wp2_with fail
                        go_meet
                        exact ⟨q, _, rfl, hq, HM.out _⟩
                      · have hxb : (xv != ov) = true := by rw [bne_iff_ne]; exact hxo
                        clear hxo
                        go_wp2_with fail
                        go_quiet (fail)
                        go_wp2_with fail
                        go_roundw
                        case rel => exact ⟨q + 1, _, by omega, by go_num, HM.out _⟩
                        case measure => simp [intOf]; omega
                    · have hqd : decide ((q : Int) < (X.length : Int)) = false := decide_eq_false (by omega)
                      generalize wt.drewN m = wm at *
                      go_wp2_with fail
                      go_quiet (fail)
                      go_wp2_with fail
                      go_meet
                      exact ⟨q, _, rfl, hq, HM.out _⟩
                case rest =>
                  obtain ⟨q, m, rfl, hq, rfl⟩ := hcut
                  have TZ := TT.drewN m
                  have coz : (wt.drewN m).cell? (ado.add t) = some (.int .i64 ov) := co
                  generalize wt.drewN m = wz at *
                  clear TT co R6
                  go_upto_if 141 with fail
                  go_cut [6, 7] from 115 to 163 (fun s6 s7 wx => ∃ (v6 v7 : Value) (X2 Z2 : List Int), v6 = s6 ∧ v7 = s7 ∧ Hid (q < X2.length ∧ X2.length ≤ X.length + 1 ∧ X2.length = Z2.length) ∧ Tm5 wk v6 v7 X2 Z2 (some ado) O wx)
                  case first =>
                    by_cases hqe : q = X.length
                    · have hqb : ((q : Int) == (X.length : Int)) = true := by rw [beq_iff_eq]; omega
                      have HQ := Lib.hid hqe
                      have TA := TZ.belo (bl_alloc (Below.refl wz.heap.size wz) (.cells #[.int .i64 ov] 3))
                      have hXb : X.length + 1 ≤ 1000000000000 := by have := hXY.out; omega
                      have hZb : Z.length + 1 ≤ 1000000000000 := by have := hXY.out; omega
                      clear hqe
                      go_wp2_with (at_builtin; first
                        | (refine wpList_int1 _ rfl _ _ rfl wk.heap.size _ X rfl TA.t.o6 ov wz.heap.size rfl (i_newT _ _) hXb TA.t.bel.size ?_; intro v8 w8 o8 g8 e8; have T8 := TA.app6 o8 g8 e8; have T8a := T8.belo (bl_alloc (Below.refl w8.heap.size w8) (.cells #[.int .i64 0] 3)))
                        | (refine wpList_int1 _ rfl _ _ rfl wk.heap.size _ Z rfl T8a.t.o7 0 w8.heap.size rfl (i_newT _ _) hZb T8a.t.bel.size ?_; intro v9 w9 o9 g9 e9; have T9 := T8a.app7 o9 g9 e9))
                      go_meet
                      exact ⟨_, _, X ++ [ov], Z ++ [0], rfl, rfl, Lib.hid (by rw [List.length_append, List.length_append, List.length_singleton, List.length_singleton]; have := hXY.out; have := HQ.out; omega), T9⟩
                    · have hqb : ((q : Int) == (X.length : Int)) = false := by rw [beq_eq_false_iff_ne]; omega
                      have HQ := Lib.hid (show q < X.length by omega)
                      clear hqe
                      go_wp2_with fail
                      go_meet
                      exact ⟨_, _, X, Z, rfl, rfl, Lib.hid (by have := hXY.out; have := HQ.out; omega), TZ⟩
                  case rest =>
                    obtain ⟨v6, v7, X2, Z2, rfl, rfl, HX2, TC⟩ := hcut
                    obtain ⟨wy, hwy⟩ : ∃ wy : World, wy = wc := ⟨_, rfl⟩
                    subst hwy
                    obtain ⟨A7, c7, rfl, R7⟩ := TC.t.o7.sl
                    have hq2 : q < Z2.length := by have := HX2.out; omega
                    obtain ⟨g7, rfl⟩ := TC.t.o7.head (by omega)
                    have c1 := R7.cellEM hq2
                    rw [Nat.zero_add] at c1
                    have f1 := (TC.t.o7.stored q 0).2.1
                    have hjY : j < Y.length := by have := HL.out; omega
                    obtain ⟨ad4, rfl, c2⟩ := (RY.belo TC.t.bel).atM hjY
                    have hqI : (q : Int) < (Z2.length : Int) := by omega
                    generalize Z2[q] = zv at *
                    generalize Y[j] = yv at *
                    have T9 := (TC.set7 q (wrap64 (zv + yv))).belo (Below.refl _ _).drew
                    have HXN := Lib.hid (show X2.length ≤ 2 * j + (t + 1) ∧ X2.length = (Z2.set q (wrap64 (zv + yv))).length from by
                      rw [List.length_set]; have := HX2.out; have := hXY.out; omega)
                    clear TZ coz
                    go_wp2_with fail
                    go_region
                    go_wp2_with fail
                    go_roundw
                    case rel => exact ⟨t + 1, _, _, X2, _, by omega, by go_num, rfl, rfl, HXN, T9⟩
                    case measure => simp [intOf]; omega
              · obtain rfl : t = O.length := by omega
                have HXY := Lib.hid (show X.length ≤ 2 * (j + 1) ∧ X.length = Z.length from by have := hXY.out; omega)
                have T3 := TT.t
                clear TT
                go_wp2_with fail
                go_roundw
                case rel => exact ⟨j + 1, _, _, X, Z, by omega, by go_num, rfl, rfl, HXY, T3⟩
                case measure => simp [intOf]; omega
        · obtain rfl : j = S.length := by omega
          obtain ⟨A6, c6, rfl, R6⟩ := TR.o6.sl
          obtain ⟨A7, c7, rfl, R7⟩ := TR.o7.sl
          have hXZ := hXl.out.2
          rw [← hXZ]
          have X9 := XR.belo TR.bel
          have B9 := bl_go BR TR.bel
          have HL9 := Lib.hid (show Z.length = X.length ∧ X.length ≤ 2 ^ (k + 1) from ⟨hXZ.symm, by have := HL.out.2; have := hXl.out.1; rw [Nat.pow_succ]; omega⟩)
          clear TR hXZ
          go_wp2_with fail
          go_roundw
          case rel => exact ⟨k + 1, c6, c7, A6, A7, X, Z, by omega, by go_num, rfl, rfl, R6, R7, HL9, X9, B9⟩
          case measure => simp [intOf]; omega
    · obtain rfl : k = n := by omega
      obtain ⟨w9, hw9⟩ : ∃ w9 : World, w9 = wk := ⟨_, rfl⟩
      subst hw9
      go_wp2_with fail
      clear x0 x1 x2
      go_loopw [16, 17] (fun s i wr => ∃ (q : Nat) (z : Int), q ≤ S.length ∧ s = .int .i64 z ∧ i = .int .i64 (q : Int) ∧ w9 = wr) (fun _ i _ => S.length - (intOf i).toNat)
      case atStart => exact ⟨0, 0, Nat.zero_le _, rfl, rfl, rfl⟩
      case round =>
        obtain ⟨q, z, hq, rfl, rfl, rfl⟩ := hrel
        by_cases hql : q < S.length
        · have hqI : (q : Int) < (S.length : Int) := by omega
          have hqY : q < Y.length := by have := HL.out; omega
          obtain ⟨ad3, rfl, cx⟩ := RS.atM hql
          obtain ⟨ad4, rfl, cy⟩ := RY.atM hqY
          generalize S[q] = xv at *
          generalize Y[q] = yv at *
          obtain ⟨ze, hze⟩ : ∃ ze, (xv == 0) = ze := ⟨_, rfl⟩
          cases ze with
          | true =>
            go_wp2_with fail
            go_roundw
            case rel => exact ⟨q + 1, _, by omega, rfl, by go_num, trivial⟩
            case measure => simp [intOf]; omega
          | false =>
            go_wp2_with fail
            go_roundw
            case rel => exact ⟨q + 1, _, by omega, rfl, by go_num, trivial⟩
            case measure => simp [intOf]; omega
        · obtain rfl : q = S.length := by omega
          go_wp2_with fail
          go_ret
          exact ⟨z, rfl, BR⟩
end Go.Proofs.YtafmpgikdhlknaaGreat
