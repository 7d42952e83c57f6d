
/- FnExactFromPast: joined from LstR, LayX, FlpS, FlqS, PusS, PutT, AllS, LowS, CouS. -/
import Derived.Test.YtafmpgikdhlknaaGreatListI
import Derived.Laws.OwnMore
import Derived.IntWalk
import Derived.Test.YtafmpgikdhlknaaGreatLayS
import Derived.Test.YtafmpgikdhlknaaGreatTlsN
import Derived.Test.YtafmpgikdhlknaaGreatPB
import Derived.Test.YtafmpgikdhlknaaGreatPA
/- Lists of lists that grow in the reference's search for tilings; an append of any list of lists. -/
namespace Go.Proofs.YtafmpgikdhlknaaGreat
open Go.RowKit

theorem one_atL (w : World) (x : Value) (t : TypeId) : ∀ j u, [x][j]? = some u → (w.alloc (.cells #[x] t)).cell? ((⟨w.heap.size, 0, none⟩ : Addr).add j) = some u := fun j u hu => by
  rw [offI, Nat.zero_add, cell_of_row _ _ _ _ _ _ (heap_alloc_new w _)]; simpa using hu
theorem one_oneL (B : Option Addr) (n c : Nat) : ∀ u ∈ [Value.slice B n c], u.oneCell' = true := fun u hu => by
  simp at hu; subst hu; rfl
section
variable {ops : Array Oper} {rest : List Oper} {o : Oper} {a : Act} {Q : Exit → Act → World → Prop}
/-- heads appended to a list of heads of its own; the source may be nil -/
theorem opw_headsR {K : Act → World → Prop} (W : World) (s x : Operand) (ho : o.op = .call { callee := .builtin .append, args := #[s, x], argTypes := #[71, 71] })
    (base : Nat) (v : Value) (xs : List Value) (hs : a.eval s = v) (hown : OwnL W base v xs) (A : Option Addr) (n c : Nat) (ys : List Value) (hx : a.eval x = .slice A n c) (hl : ys.length = n) (hA : A = none → c = 0) (hq : Rd W A ys) (h1 : ∀ u ∈ ys, u.oneCell' = true) (hm : xs.length + n ≤ 1000000000000) (hbase : base ≤ W.heap.size)
    (h : ∀ v' w', OwnL w' base v' (xs ++ ys) → W.grownBy w' v.ownBlock → (v'.ownBlock = v.ownBlock ∨ v'.ownBlock = some W.heap.size) → K (a.put o.dst v') w') : Oper.wp Tryz.prog o a W K Q := by
  cases A with
  | some ad =>
    refine opw_headsL W s x ho base v xs hs hown ad n c ys hx hl (fun j u hu => ?_) h1 hm hbase h
    obtain ⟨ad', e, hc⟩ := hq (by rintro rfl; simp at hu)
    injection e with e
    rw [e]; exact hc j u hu
  | none =>
    have hys : ys = [] := by
      cases ys with
      | nil => rfl
      | cons y l => obtain ⟨ad', e, -⟩ := hq (by simp); cases e
    subst hys
    have hn : n = 0 := by rw [← hl]; rfl
    subst hn
    have hc := hA rfl
    subst hc
    obtain ⟨i0, hi, hz0, hz1, hz2⟩ := info_parts Tryz.infoSI
    obtain ⟨A, c', e, hown2⟩ := id hown
    have hrun := run_append_owned_none (P := Tryz.prog) (w := W) base 71 o.type 29 i0 1 Tryz.underlying71 hi v xs.length xs hown2
    unfold Oper.wp execOp
    simp only [ho, resolve, invoke, builtin, Sem.run_bind, Sem.run_pure, Result.andThen_ok, List.map_toArray, List.map_cons, List.map_nil, hs, hx, hrun]
    exact h v W (by rw [List.append_nil]; exact hown) (World.grownBy.refl _ _) (.inl rfl)
theorem step_headsR {K : Act → World → Prop} {E : Prop} (W : World) (hgd : o.guard = none) (s x : Operand) (ho : o.op = .call { callee := .builtin .append, args := #[s, x], argTypes := #[71, 71] })
    (base : Nat) (v : Value) (xs : List Value) (hs : a.eval s = v) (hown : OwnL W base v xs) (A : Option Addr) (n c : Nat) (ys : List Value) (hx : a.eval x = .slice A n c) (hl : ys.length = n) (hA : A = none → c = 0) (hq : Rd W A ys) (h1 : ∀ u ∈ ys, u.oneCell' = true) (hm : xs.length + n ≤ 1000000000000) (hbase : base ≤ W.heap.size)
    (h : ∀ v' w', OwnL w' base v' (xs ++ ys) → W.grownBy w' v.ownBlock → (v'.ownBlock = v.ownBlock ∨ v'.ownBlock = some W.heap.size) → K (a.put o.dst v') w') :
    if Region.wanted o (yielded ops a.tmps) = true then Oper.wp Tryz.prog o a W K Q else E := by
  have hw : Region.wanted o (yielded ops a.tmps) = true := by simp [Region.wanted, hgd]
  rw [if_pos hw]
  exact opw_headsR W s x ho base v xs hs hown A n c ys hx hl hA hq h1 hm hbase h
theorem wpList_headsR (W : World) (hgd : o.guard = none) (s x : Operand) (ho : o.op = .call { callee := .builtin .append, args := #[s, x], argTypes := #[71, 71] })
    (base : Nat) (v : Value) (xs : List Value) (hs : a.eval s = v) (hown : OwnL W base v xs) (A : Option Addr) (n c : Nat) (ys : List Value) (hx : a.eval x = .slice A n c) (hl : ys.length = n) (hA : A = none → c = 0) (hq : Rd W A ys) (h1 : ∀ u ∈ ys, u.oneCell' = true) (hm : xs.length + n ≤ 1000000000000) (hbase : base ≤ W.heap.size)
    (h : ∀ v' w', OwnL w' base v' (xs ++ ys) → W.grownBy w' v.ownBlock → (v'.ownBlock = v.ownBlock ∨ v'.ownBlock = some W.heap.size) → wpList Tryz.prog ops Q rest (a.put o.dst v') w') : wpList Tryz.prog ops Q (o :: rest) a W :=
  wpList_plain hgd fun _ hK => opw_headsR W s x ho base v xs hs hown A n c ys hx hl hA hq h1 hm hbase fun v' w' k1 k2 k3 => hK _ _ (h v' w' k1 k2 k3)
end
/-- a list of lists that the search tells: each lies in a new block, or is the list that came in -/
structure OutF (w0 : World) (Af : Option Addr) (v : Value) (xs : List Value) (L : List (List Int)) (w : World) : Prop where
  gr : GrL w w0.heap.size v xs L
  fr : ∀ b, AtL xs b → (∃ ad, Af = some ad ∧ ad.block = b) ∨ w0.heap.size ≤ b
  ok : Below w0.heap.size w0 w
theorem OutF.belo {w0 w w' : World} {Af : Option Addr} {v : Value} {xs : List Value} {L : List (List Int)} (h : OutF w0 Af v xs L w) (hb : Below w.heap.size w w') : OutF w0 Af v xs L w' := ⟨h.gr.belo hb, h.fr, bl_go h.ok hb⟩
theorem OutF.app {w0 w w' : World} {Af : Option Addr} {v v' : Value} {xs ys : List Value} {L G : List (List Int)} (h : OutF w0 Af v xs L w) (hy : HeadsI w ys G) (hp : ∀ b, AtL ys b → b < w.heap.size ∧ v.ownBlock ≠ some b ∧ ((∃ ad, Af = some ad ∧ ad.block = b) ∨ w0.heap.size ≤ b))
    (ho : OwnL w' w0.heap.size v' (xs ++ ys)) (hg : w.grownBy w' v.ownBlock) (hv : v'.ownBlock = v.ownBlock ∨ v'.ownBlock = some w.heap.size) : OutF w0 Af v' (xs ++ ys) (L ++ G) w' :=
  ⟨h.gr.app hy (fun b hb => ⟨(hp b hb).1, (hp b hb).2.1⟩) ho hg hv, fun b hb => by
    rcases hb.app with e | e
    · exact h.fr b e
    · exact (hp b e).2.2, h.ok.grown hg h.ok.size (fun k hk => (h.gr.own.lt k hk).1)⟩
/-- the search's result -/
def FsR (fs : List (List Int)) (Af : Option Addr) (w : World) (e : Ending) (w' : World) : Prop :=
  ∃ (A : Option Addr) (c : Nat) (xs : List Value), e = .returned (.slice A fs.length c) ∧ fs.length ≤ c ∧ (A = none → c = 0) ∧ Rd w' A xs ∧ HeadsI w' xs fs ∧ (∀ b, AtL xs b → b < w'.heap.size ∧ ((∃ ad, Af = some ad ∧ ad.block = b) ∨ w.heap.size ≤ b)) ∧ Below w.heap.size w w'
theorem OutF.res {w0 w : World} {Af : Option Addr} {v : Value} {xs : List Value} {L : List (List Int)} (h : OutF w0 Af v xs L w) : ∃ (A : Option Addr) (c : Nat), v = .slice A L.length c ∧ FsR L Af w0 (.returned (.slice A L.length c)) w := by
  obtain ⟨A, c, e, o⟩ := id h.gr.own
  have hl := h.gr.hd.1
  rw [hl] at e
  rw [hl, e] at o
  refine ⟨A, c, e, A, c, xs, rfl, ?_, ?_, Rd.own o, h.gr.hd, fun b hb => ⟨(h.gr.pt b hb).1, h.fr b hb⟩, h.ok⟩
  · rcases o.2 with ⟨e1, e2⟩ | ⟨g, cap, cur, hv, _, _, h3, _⟩
    · rw [e2]; simp
    · injection hv with _ _ e3; omega
  · intro hA
    rcases o.2 with ⟨e1, e2⟩ | ⟨g, cap, cur, hv, _, _, h3, _⟩
    · injection e1
    · rw [hA] at hv; injection hv with e3; cases e3
theorem FsR.lower {fs : List (List Int)} {Af : Option Addr} {w0 w w' : World} {e : Ending} (h : FsR fs Af w0 e w') (hb : Below w.heap.size w w0) : FsR fs Af w e w' := by
  obtain ⟨A, c, xs, h1, h2, h3, h4, h5, h6, h7⟩ := h
  refine ⟨A, c, xs, h1, h2, h3, h4, h5, fun b hb' => ?_, bl_go hb h7⟩
  obtain ⟨a1, a2⟩ := h6 b hb'
  refine ⟨a1, ?_⟩
  rcases a2 with a2 | a2
  · exact .inl a2
  · exact .inr (Nat.le_trans hb.size a2)
end Go.Proofs.YtafmpgikdhlknaaGreat

/- Contract: a further domino on a region, in the reference, exactly. -/
namespace Go.Proofs.YtafmpgikdhlknaaGreat
open Go.RowKit

/-- a list with a further domino, if it may be laid -/
def LayX (W T : Int) (bs : List Bool) (L : List Int) (cn : Nat) (d : Int) (w : World) (e : Ending) (w' : World) : Prop :=
  ∃ (M : List Int) (A : Option Addr) (cc : Nat), e = .returned (.tuple #[.slice A L.length cc, .bool (mayL W T bs L cn d)]) ∧ M.length = L.length ∧ L.length ≤ cc ∧ Rd w' A (M.map (.int .i64)) ∧ (mayL W T bs L cn d = true → M = layL W T L cn d) ∧ Below w.heap.size w w' ∧ ∀ ad, A = some ad → w.heap.size ≤ ad.block
set_option maxRecDepth 100000 in
set_option maxHeartbeats 1000000 in
theorem sLayX_any (W T d : Int) (cl0 : Nat) (A A' : Option Addr) (c c' : Nat) (bs : List Bool) (L : List Int) (w : World) (hr : Rd w A (bs.map .bool)) (hr' : Rd w A' (L.map (.int .i64))) (hv : laidOkB W T bs L = true) (hc0 : cl0 < bs.length) (d1 : 1 ≤ d) (d2 : d ≤ 4) :
    Calls Tryz.prog 121 #[.agg #[.int .i64 W, .int .i64 T, .slice A bs.length c], .slice A' L.length c', .int .i64 (cl0 : Int), .int .i64 d] w (LayX W T bs L cl0 d w) := by
  have X0 := C3.new w (.int .i64 W) (.int .i64 T) (.slice A bs.length c) 25
  have B0 := bl_alloc (Below.refl w.heap.size w) (.cells #[.int .i64 W, .int .i64 T, .slice A bs.length c] 25)
  have hval : validB W T bs = true := by unfold laidOkB at hv; simp at hv; exact hv.1
  have hbm : bs.length ≤ maxLen := by have := (valid_len hval).2.2.2.2.1; unfold maxLen; omega
  have hnm : L.length ≤ maxLen := by
    have := (valid_len hval).2.2.2.2.1
    cases h : laysB W T bs L with
    | true => unfold laysB at h; simp at h; unfold maxLen; omega
    | false => unfold laidOkB at hv; rw [h] at hv; simp at hv
  have hlen : L.length = bs.length := by
    cases h : laysB W T bs L with
    | true => unfold laysB at h; simp at h; exact h.1
    | false => unfold laidOkB at hv; rw [h] at hv; simp at hv
  obtain ⟨h1, h2, h3, h4, hb36, hl⟩ := valid_len hval
  have hpos := mul_bd h1 h2 h3 h4
  have HLE := Lib.hid hlen
  have hL36 : L.length ≤ 36 := by omega
  have hL1 : 1 ≤ L.length := by omega
  have HLO := Lib.hid (fun z R R2 => by have := sLaidOk_any W T A A' c c' bs L z R R2 hbm hnm; rw [hv] at this; exact this)
  have HVL := Lib.hid hval
  have HBL := Lib.hid hl
  obtain ⟨i0, hi, hz0, hz1, hz2⟩ := info_parts Tryz.infoI
  have HZ := Lib.hid (And.intro hz0 (And.intro hz1 hz2))
  obtain ⟨b, off, rfl, -⟩ := hr'.atEM (k := 0) (by omega)
  obtain ⟨b', off', rfl, -⟩ := hr.atEM (k := 0) (by omega)
  clear hz0 hz1 hz2 hv hval hlen hl hpos
  go_enter Tryz.func121, Tryz.ntmps121
  go_wp2_with fail
  refine (HLO.out _ (hr.alloc _) (hr'.alloc _)).mono ?_
  rintro e w1 ⟨rfl, b1⟩
  have B1 := bl_go B0 b1
  have X1 := X0.belo b1
  have hown0 := World.ownsRow_lit (e := 3) (size := 1) w1 #[] 0 (Nat.le_refl _) (by unfold maxLen; omega) (by simp)
  have R1 := (hr'.belo B1).alloc (.cells #[] 3)
  obtain ⟨ad', e', hcell⟩ := R1 (by intro e; simp at e; subst e; simp at hL1)
  have HC := Lib.hid (show ∀ j y, (L.map (Value.int .i64))[j]? = some y → (w1.alloc (.cells #[] 3)).cell? ((⟨b, off, none⟩ : Addr).add j) = some y from fun j y hy => by injection e' with e'; rw [e']; exact hcell j y hy)
  clear hcell e' B0 X0 b1
  go_wp2_with (at_builtin; refine wpList_append_own _ rfl _ _ 29 rfl w1.heap.size 3 i0 (.int .i64 0) 1 8 Tryz.underlying29 hi HZ.out.1 HZ.out.2.1 HZ.out.2.2 rfl (by decide) _ _ _ rfl hown0 ⟨b, off, none⟩ L.length c' (L.map (.int .i64)) rfl (by simp) HC.out (by intro y hy; obtain ⟨b, _, rfl⟩ := List.mem_map.1 hy; rfl) (by unfold maxLen; omega) (by omega) (by simp) ?_; intro v' w3 hown3 hg3 _; have b3 : Below w1.heap.size w1 w3 := (bl_alloc (Below.refl w1.heap.size w1) _).grown hg3 (by simp) (fun k hk => by have h2 : some w1.heap.size = some k := hk; injection h2 with h2; omega); obtain ⟨x0, x1, x2⟩ := X1.belo b3)
  simp only [Nat.zero_add, List.nil_append] at hown3
  obtain ⟨g, cap, rfl, hg, hgl⟩ := hown3.form (by omega)
  have hcap : L.length ≤ cap := by
    rcases hown3.2 with ⟨e1, e2⟩ | ⟨g', cap', cur, e1, _, _, h3, _⟩
    · omega
    · injection e1 with _ _ e3; omega
  have B3 := bl_go B1 b3
  have X3 := X1.belo b3
  refine (sStepTo_any W T (some ⟨b', off', none⟩) c bs (cl0 : Int) d _ (hr.belo B3) hbm).mono ?_
  rintro e w4 ⟨rfl, b4⟩
  have B4 := bl_go B3 b4
  have X4 := X3.belo b4
  have hw4 := (Wr.of_own hown3).belo b4
  have r4 := hr.belo B4
  have l4 := hr'.belo B4
  clear x0 x1 x2 hown3 hg3 B3 X3 b3 R1 hown0 HC HZ X1
  obtain ⟨x0, x1, x2⟩ := id X4
  obtain ⟨t, ht⟩ : ∃ t, stepTo W T bs (cl0 : Int) d = t := ⟨_, rfl⟩
  have HT := Lib.hid ht
  rw [ht]
  have hts : t = stepZ W T cl0 d := by rw [← ht, stepTo_in HVL.out (by omega) (by omega)]
  have hin : (t < 0 ∧ mayL W T bs L cl0 d = false) ∨ (∃ tn : Nat, t = tn ∧ stepZ W T cl0 d = tn ∧ tn < bs.length ∧ cl0 < L.length ∧ tn < L.length ∧ ¬ (tn = cl0)) := by
    rcases Int.lt_or_le t 0 with h | h
    · refine .inl ⟨h, ?_⟩
      unfold mayL
      rw [← hts, decide_eq_false (by omega)]; rfl
    · right
      obtain ⟨tn, rfl⟩ := Int.eq_ofNat_of_zero_le h
      have hsb := step_bd d h1 h2 h3 h4 (show 0 ≤ (cl0 : Int) by omega) (by have := HBL.out; omega)
      rw [← hts] at hsb
      have := HLE.out
      have := HBL.out
      have hne := step_neq (W := W) (T := T) (c := cl0) (d := d) h1 (by omega)
      rw [← hts] at hne
      exact ⟨tn, rfl, hts.symm, by omega, by omega, by omega, by omega⟩
  clear ht hts
  have hgo : w.heap.size ≤ g := by have := B1.size; have := hw4.1 _ rfl; simp only at this; omega
  have HOLD := Lib.hid (fun (h : mayL W T bs L cl0 d = false) => show LayX W T bs L cl0 d w (.returned (.tuple #[.slice (some ⟨g, 0, none⟩) L.length cap, .bool false])) w4 from ⟨L, some ⟨g, 0, none⟩, cap, by rw [h], rfl, hcap, hw4.rd, fun h2 => (by rw [h] at h2; cases h2), B4, fun ad ha => by injection ha with ha; subst ha; exact hgo⟩)
  rcases hin with ⟨hneg, hmf⟩ | ⟨tn, rfl, hst, htb, hcl, htl, htc⟩
  · have HR := Lib.hid (HOLD.out hmf)
    clear hmf HOLD hcap
    go_wp2
    go_ret2
    exact HR.out
  · obtain ⟨cn, hcn⟩ : ∃ cn, cl0 = cn := ⟨_, rfl⟩
    subst hcn
    have hcb := hc0
    have HM := Lib.hid (show mayL W T bs L cl0 d = (bs[cl0] && decide (L[cl0] = 0) && (bs[tn] && decide (L[tn] = 0))) from by
      unfold mayL emK
      rw [hst, Int.toNat_natCast, getD_in _ _ hcb, getD_in _ _ htb, getD_in _ _ hcl, getD_in _ _ htl, decide_eq_true (by omega)]; rfl)
    have HLAY := Lib.hid (show layL W T L cl0 d = (L.set cl0 d).set tn (backZ d) by unfold layL; rw [hst, Int.toNat_natCast])
    clear hst
    have cb := r4.cellEM hcb
    have tb := r4.cellEM htb
    have cl := l4.cellEM hcl
    have tl := l4.cellEM htl
    have I1 : (cl0 : Int) < (bs.length : Int) := by omega
    have I2 : (tn : Int) < (bs.length : Int) := by omega
    have I3 : (cl0 : Int) < (L.length : Int) := by omega
    have I4 : (tn : Int) < (L.length : Int) := by omega
    have hneg : decide ((tn : Int) < 0) = false := by simp
    generalize bs[cl0] = v1 at cb HM
    generalize bs[tn] = v2 at tb HM
    generalize L[cl0] = u1 at cl HM
    generalize L[tn] = u2 at tl HM
    cases v1 with
    | false =>
      have HR := Lib.hid (HOLD.out (by rw [HM.out]; simp_all))
      clear HM HLAY HOLD hcap
      go_wp2
      go_ret2
      exact HR.out
    | true =>
      cases v2 with
      | false =>
        have HR := Lib.hid (HOLD.out (by rw [HM.out]; simp_all))
        clear HM HLAY HOLD hcap
        go_wp2
        go_ret2
        exact HR.out
      | true =>
        by_cases e1 : u1 = 0
        · have e1' : (u1 != 0) = false := by simp [e1]
          by_cases e2 : u2 = 0
          · have e2' : (u2 != 0) = false := by simp [e2]
            obtain ⟨g', hg', _, _, hfz⟩ := hw4.form (by intro e; simp at e; subst e; simp at hL1)
            have hgg : g = g' := by injection hg' with h; injection h
            subst hgg
            have f1 := hfz cl0
            have f2 := hfz tn
            have gc := hw4.rd.cellEM hcl
            have gt := hw4.rd.cellEM htl
            simp only [Nat.zero_add] at gc gt
            have hct : ¬ (cl0 = tn) := fun e => htc e.symm
            have HW4 := Lib.hid hw4
            have HMT := Lib.hid (show mayL W T bs L cl0 d = true by rw [HM.out, decide_eq_true e1, decide_eq_true e2]; rfl)
            have HCAP := Lib.hid hcap
            clear e1 e2 hw4 hfz hg' HOLD HM hcap
            obtain ⟨ov1, gc'⟩ : ∃ ov, w4.cell? ⟨g, cl0, none⟩ = some ov := ⟨_, gc⟩
            obtain ⟨ov2, gt'⟩ : ∃ ov, w4.cell? ⟨g, tn, none⟩ = some ov := ⟨_, gt⟩
            clear gc gt
            go_wp2_with (go_at_call 123; refine (sback_any _ _ (by omega) (by omega)).mono ?_; rintro e w' ⟨rfl, rfl⟩)
            go_ret2
            have hfin := (HW4.out.store cl0 (.int .i64 d)).store tn (.int .i64 (backZ d))
            refine ⟨layL W T L cl0 d, some ⟨g, 0, none⟩, cap, by rw [HMT.out]; first | rfl | simp, by rw [layL_len], HCAP.out, ?_, fun _ => rfl, ?_, fun ad ha => by injection ha with ha; subst ha; exact hgo⟩
            · rw [HLAY.out, List.map_set, List.map_set]; exact hfin.rd
            · exact (B4.setCell (by simpa using hgo) _).setCell (by simpa using hgo) _
          · have e2' : (u2 != 0) = true := by simpa using e2
            have HR := Lib.hid (HOLD.out (by rw [HM.out, decide_eq_false e2]; simp))
            clear e1 e2
            clear HM HLAY HOLD hcap
            go_wp2
            go_ret2
            exact HR.out
        · have e1' : (u1 != 0) = true := by simpa using e1
          have HR := Lib.hid (HOLD.out (by rw [HM.out, decide_eq_false e1]; simp))
          clear e1
          clear HM HLAY HOLD hcap
          go_wp2
          go_ret2
          exact HR.out
end Go.Proofs.YtafmpgikdhlknaaGreat

/- Contracts: the reference's flips of a tiling. -/
namespace Go.Proofs.YtafmpgikdhlknaaGreat
open Go.RowKit

set_option maxRecDepth 100000 in
set_option maxHeartbeats 4000000 in
theorem square_any (W T : Int) (A : Option Addr) (c n : Nat) (bs : List Bool) (v : Nat) (w : World) (hr : Rd w A (bs.map .bool)) (hf : FldF W T n) (hn : bs.length = n) (hv : v < ncN W T) :
    Calls Tryz.prog 88 #[.agg #[.int .i64 W, .int .i64 T, .slice A n c], .int .i64 (v : Int)] w fun e w' => ((sqB W T bs v = true ∧ e = .returned (.tuple #[.int .i64 (vA W v), .int .i64 (vA W v + 1), .int .i64 (vA W v + W), .int .i64 (vA W v + W + 1), .bool true])) ∨ (sqB W T bs v = false ∧ e = .returned (.tuple #[.int .i64 0, .int .i64 0, .int .i64 0, .int .i64 0, .bool false]))) ∧ Below w.heap.size w w' := by
  obtain ⟨w1, w6, t1, t6, hlen⟩ := id hf
  obtain ⟨a1, a2, a3, a4⟩ := vXY_bd hf hv
  obtain ⟨-, -, hN49⟩ := nc_bd hf
  have CAT := Lib.hid (fun (x y : Int) (z : World) (R : Rd z A (bs.map .bool)) (p : -1000 ≤ x ∧ x ≤ 1000) (q : -1000 ≤ y ∧ y ≤ 1000) => by
    have := sAt_any W T A c bs x y z R w1 w6 t1 t6 (by rw [hn]; exact hlen) p q
    rw [hn] at this
    exact this)
  have K1 := Lib.hid (fun (z : World) (R : Rd z A (bs.map .bool)) => CAT.out (vX W v - 1) (vY W v - 1) z R (by omega) (by omega))
  have K2 := Lib.hid (fun (z : World) (R : Rd z A (bs.map .bool)) => CAT.out (vX W v) (vY W v - 1) z R (by omega) (by omega))
  have K3 := Lib.hid (fun (z : World) (R : Rd z A (bs.map .bool)) => CAT.out (vX W v - 1) (vY W v) z R (by omega) (by omega))
  have K4 := Lib.hid (fun (z : World) (R : Rd z A (bs.map .bool)) => CAT.out (vX W v) (vY W v) z R (by omega) (by omega))
  have j1 : IntKind.i64.wrap (W + 1) = W + 1 := IntWalk.i64_in _ (by omega)
  have j2 : (v : Int).tmod (W + 1) = vX W v := Int.tmod_eq_emod_of_nonneg (by omega)
  have j3 : (v : Int).tdiv (W + 1) = vY W v := Int.tdiv_eq_ediv_of_nonneg (by omega)
  have k1 := Int.mul_le_mul_of_nonneg_right (show vY W v - 1 ≤ 5 by omega) (show 0 ≤ W by omega)
  have k2 := Int.mul_le_mul_of_nonneg_right (show -1 ≤ vY W v - 1 by omega) (show 0 ≤ W by omega)
  have j4 : IntKind.i64.wrap ((vY W v - 1) * W) = (vY W v - 1) * W := IntWalk.i64_in _ (by omega)
  have hA : (vY W v - 1) * W + vX W v - 1 = vA W v := by unfold vA; omega
  have hAb : -20 ≤ vA W v ∧ vA W v ≤ 50 := by omega
  have HS := Lib.hid (show sqB W T bs v = (atQ W T bs (vX W v - 1) (vY W v - 1) && (atQ W T bs (vX W v) (vY W v - 1) && (atQ W T bs (vX W v - 1) (vY W v) && atQ W T bs (vX W v) (vY W v)))) from rfl)
  have X0 := C3.new w (.int .i64 W) (.int .i64 T) (.slice A n c) 25
  have B0 := bl_alloc (Below.refl w.heap.size w) (.cells #[.int .i64 W, .int .i64 T, .slice A n c] 25)
  have R0 := hr.belo B0
  obtain ⟨x0, x1, x2⟩ := id X0
  generalize hp : atQ W T bs (vX W v - 1) (vY W v - 1) = p at *
  generalize hq : atQ W T bs (vX W v) (vY W v - 1) = q at *
  generalize hr3 : atQ W T bs (vX W v - 1) (vY W v) = r3 at *
  generalize hs4 : atQ W T bs (vX W v) (vY W v) = s4 at *
  generalize sqB W T bs v = sq at *
  obtain ⟨m, hm⟩ : ∃ m, (vY W v - 1) * W = m := ⟨_, rfl⟩
  rw [hm] at k1 k2 j4 hA
  generalize vX W v = X at *
  generalize vY W v = Y at *
  generalize vA W v = V at *
  obtain ⟨hA1, hA2⟩ := hAb
  have hm' : IntKind.i64.wrap ((Y - 1) * W) = m := by rw [hm]; exact j4
  have hA' : IntKind.i64.wrap (m + X - 1) = V := by rw [hA]; exact IntWalk.i64_in _ (by omega)
  clear hp hq hr3 hs4 CAT hlen hf hr hm j4
  have HAe := Lib.hid hA
  clear hA
  go_enter Tryz.func88, Tryz.ntmps88
  go_wp2_with fail
  refine (K1.out _ R0).mono ?_
  rintro e w1 ⟨rfl, b1⟩
  have X1 := X0.belo b1
  have R1 := R0.belo b1
  have B1 := bl_go B0 b1
  clear x0 x1 x2 X0 R0 B0 b1
  obtain ⟨x0, x1, x2⟩ := id X1
  cases p with
  | false =>
    have HF := Lib.hid (show sq = false by rw [HS.out]; rfl)
    go_wp2_with fail
    refine bodyPost_ret (v := .tuple #[.int .i64 0, .int .i64 0, .int .i64 0, .int .i64 0, .bool false]) (by simp [results, Tryz.results88, go_sem]) rfl ⟨.inr ⟨HF.out, rfl⟩, B1⟩
  | true =>
    go_wp2_with fail
    refine (K2.out _ R1).mono ?_
    rintro e w2 ⟨rfl, b2⟩
    have X2 := X1.belo b2
    have R2 := R1.belo b2
    have B2 := bl_go B1 b2
    clear x0 x1 x2 X1 R1 B1 b2
    obtain ⟨x0, x1, x2⟩ := id X2
    cases q with
    | false =>
      have HF := Lib.hid (show sq = false by rw [HS.out]; rfl)
      go_wp2_with fail
      refine bodyPost_ret (v := .tuple #[.int .i64 0, .int .i64 0, .int .i64 0, .int .i64 0, .bool false]) (by simp [results, Tryz.results88, go_sem]) rfl ⟨.inr ⟨HF.out, rfl⟩, B2⟩
    | true =>
      go_wp2_with fail
      refine (K3.out _ R2).mono ?_
      rintro e w3 ⟨rfl, b3⟩
      have X3 := X2.belo b3
      have R3 := R2.belo b3
      have B3 := bl_go B2 b3
      clear x0 x1 x2 X2 R2 B2 b3
      obtain ⟨x0, x1, x2⟩ := id X3
      cases r3 with
      | false =>
        have HF := Lib.hid (show sq = false by rw [HS.out]; rfl)
        go_wp2_with fail
        refine bodyPost_ret (v := .tuple #[.int .i64 0, .int .i64 0, .int .i64 0, .int .i64 0, .bool false]) (by simp [results, Tryz.results88, go_sem]) rfl ⟨.inr ⟨HF.out, rfl⟩, B3⟩
      | true =>
        go_wp2_with fail
        refine (K4.out _ R3).mono ?_
        rintro e w4 ⟨rfl, b4⟩
        have X4 := X3.belo b4
        have B4 := bl_go B3 b4
        clear x0 x1 x2 X3 R3 B3 b4
        obtain ⟨x0, x1, x2⟩ := id X4
        cases s4 with
        | false =>
          have HF := Lib.hid (show sq = false by rw [HS.out]; rfl)
          go_wp2_with fail
          refine bodyPost_ret (v := .tuple #[.int .i64 0, .int .i64 0, .int .i64 0, .int .i64 0, .bool false]) (by simp [results, Tryz.results88, go_sem]) rfl ⟨.inr ⟨HF.out, rfl⟩, B4⟩
        | true =>
          have HF := Lib.hid (show sq = true by rw [HS.out]; rfl)
          go_upto_region 6 with fail
          have L0 : ∀ z : BW w4, z.wo.cell? ⟨w.heap.size, 0, none⟩ = some (.int .i64 W) := fun z => z.cell X4.lt x0
          (refine region_bw (by kernel_rfl) (by kernel_rfl) ?_; (repeat (first | go_big_quiet_skip | (go_big_quiet_want; go_big_quiet_op; first | go_big_quiet_on | (refine ⟨.int .i64 0, fun zz => ?_, ?_⟩; (fail); go_big_quiet_on)))); refine wpQuiet_nil ?_; intro wz hw'; obtain ⟨zw, hw''⟩ := hw'; subst hw'')
          go_wp2_with fail
          refine bodyPost_ret (v := .tuple #[.int .i64 V, .int .i64 (V + 1), .int .i64 (V + W), .int .i64 (V + W + 1), .bool true]) (by simp [results, Tryz.results88, go_sem]) rfl ⟨.inl ⟨HF.out, rfl⟩, bl_go B4 zw.ok⟩
/-- the cells around a corner whose four cells belong to a region -/
theorem sq_cells {W T : Int} {bs : List Bool} {n : Nat} (hf : FldF W T n) {v : Nat} (h : sqB W T bs v = true) : innK W T v ∧ ∃ a b c d : Nat, vA W v = a ∧ vA W v + 1 = b ∧ vA W v + W = c ∧ vA W v + W + 1 = d ∧ a < n ∧ b < n ∧ c < n ∧ d < n ∧ a < b ∧ b < d ∧ a < c ∧ c < d ∧ (b ≠ c) := by
  have hI := sq_inn h
  obtain ⟨a, b, c, d, ea, eb, ec, ed, ha, hb, hc, hd, -⟩ := around (n := n) ⟨hf.w1, hf.t1, hf.len⟩ hI
  have hW : 2 ≤ W := by obtain ⟨h1, h2, -⟩ := hI; omega
  exact ⟨hI, a, b, c, d, ea, eb, ec, ed, ha, hb, hc, hd, by omega, by omega, by omega, by omega, by omega⟩
theorem fl_at {W T : Int} {L : List Int} {v a c : Nat} (hI : innK W T v) (ea : vA W v = a) (ec : vA W v + W = c) : flatB W T L v = (decide (L.getD a 0 = 1) && decide (L.getD c 0 = 1)) := by
  unfold flatB; rw [decide_eq_true hI, ec, ea, Int.toNat_natCast, Int.toNat_natCast, Bool.true_and]
theorem up_at {W T : Int} {L : List Int} {v a b : Nat} (hI : innK W T v) (ea : vA W v = a) (eb : vA W v + 1 = b) : uprB W T L v = (decide (L.getD a 0 = 2) && decide (L.getD b 0 = 2)) := by
  unfold uprB; rw [decide_eq_true hI, eb, ea, Int.toNat_natCast, Int.toNat_natCast, Bool.true_and]
set_option maxRecDepth 100000 in
set_option maxHeartbeats 4000000 in
theorem flipMayS_any (W T : Int) (A D : Option Addr) (c d n : Nat) (bs : List Bool) (L : List Int) (v : Nat) (w : World) (hr : Rd w A (bs.map .bool)) (hd : Rd w D (L.map (.int .i64))) (h : tilingB W T bs L = true) (hn : bs.length = n) (hv : v < ncN W T) :
    Calls Tryz.prog 47 #[.agg #[.int .i64 W, .int .i64 T, .slice A n c], .slice D n d, .int .i64 (v : Int)] w fun e w' => e = .returned (.bool (flatB W T L v || uprB W T L v)) ∧ Below w.heap.size w w' := by
  obtain ⟨hval, hl, -⟩ := tiling_til h
  obtain ⟨⟨w1, w6⟩, ⟨t1, t6⟩, hlen, -⟩ := validB_iff.1 hval
  have hf : FldF W T n := ⟨w1, w6, t1, t6, by rw [← hn]; exact hlen⟩
  have n36 : n ≤ 36 := hf.bd
  obtain ⟨-, hN1, hN49⟩ := nc_bd hf
  have hLn : L.length = n := by omega
  have hlo : laidOkB W T bs L = true := by unfold tilingB at h; rw [Bool.and_eq_true] at h; exact h.1
  have CL := Lib.hid (fun (z : World) (R : Rd z A (bs.map .bool)) (Q : Rd z D (L.map (.int .i64))) => by have := sLaidOk_any W T A D c d bs L z R Q (by unfold maxLen; omega) (by unfold maxLen; omega); rw [hlo, hn, hLn] at this; exact this)
  have CC := Lib.hid (fun (z : World) (R : Rd z A (bs.map .bool)) => by have := sCorners_any W T A c bs z R (by rw [hn]; unfold maxLen; omega); rw [hval, if_pos rfl, hn] at this; exact this)
  have CQ := Lib.hid (fun (z : World) (R : Rd z A (bs.map .bool)) => square_any W T A c n bs v z R hf hn hv)
  have CI := Lib.hid (fun z => l1in_t (v : Int) 0 ((ncN W T : Int) - 1) z (by omega) (by omega))
  have HSQ := Lib.hid (fun (hq : sqB W T bs v = true) => sq_cells hf hq)
  have HNO := Lib.hid (fun (hq : sqB W T bs v = false) => may_no h hq)
  have HLn := Lib.hid hLn
  have X0 := C3.new w (.int .i64 W) (.int .i64 T) (.slice A n c) 25
  have B0 := bl_alloc (Below.refl w.heap.size w) (.cells #[.int .i64 W, .int .i64 T, .slice A n c] 25)
  have r0 := hr.belo B0
  have d0 := hd.belo B0
  obtain ⟨x0, x1, x2⟩ := id X0
  obtain ⟨N, hN⟩ : ∃ N, ncN W T = N := ⟨_, rfl⟩
  rw [hN] at CC CI hN1 hN49 hv
  clear hlen hl hval h hf hlo hLn hr hd hn hN
  go_enter Tryz.func47, Tryz.ntmps47
  go_wp2_with fail
  generalize w.alloc (.cells #[.int .i64 W, .int .i64 T, .slice A n c] 25) = u at *
  refine (CL.out _ r0 d0).mono ?_
  rintro e w2 ⟨rfl, b2⟩
  have X2 := X0.belo b2
  have r2 := r0.belo b2
  have d2 := d0.belo b2
  have B2 := bl_go B0 b2
  clear x0 x1 x2 X0 r0 d0 B0 b2 CL
  obtain ⟨x0, x1, x2⟩ := id X2
  go_wp2_with fail
  refine (CC.out _ r2).mono ?_
  rintro e w3 ⟨rfl, b3⟩
  have X3 := X2.belo b3
  have r3 := r2.belo b3
  have d3 := d2.belo b3
  have B3 := bl_go B2 b3
  clear x0 x1 x2 X2 r2 d2 B2 b3 CC
  obtain ⟨x0, x1, x2⟩ := id X3
  go_wp2_with (go_at_call 71; (with_reducible refine (CI.out _).mono ?_); rintro e w' ⟨rfl, rfl⟩)
  refine (CQ.out _ r3).mono ?_
  rintro e w4 ⟨hq, b4⟩
  have B4 := bl_go B3 b4
  have d4 := d3.belo b4
  clear x0 x1 x2 X3 r3 d3 B3 b4 CQ
  rcases hq with ⟨hq, rfl⟩ | ⟨hq, rfl⟩
  · obtain ⟨hI, a, b, c4, e4, ea, eb, ec, ee, ha, hb, hc, he, hab, hbe, hac, hce, hbc⟩ := HSQ.out hq
    have HFL := Lib.hid (fl_at (L := L) hI ea ec)
    have HUP := Lib.hid (up_at (L := L) hI ea eb)
    rw [ee, ec, eb, ea]
    have hal : a < L.length := by have := HLn.out; omega
    have hbl : b < L.length := by have := HLn.out; omega
    have hcl : c4 < L.length := by have := HLn.out; omega
    obtain ⟨ad, rfl, c0⟩ := d4.atM hal
    obtain ⟨ad', e', c1⟩ := d4.atM hbl
    injection e' with e'
    subst e'
    obtain ⟨ad', e', c2⟩ := d4.atM hcl
    injection e' with e'
    subst e'
    rw [getD_in _ _ hal, getD_in _ _ hcl] at HFL
    rw [getD_in _ _ hal, getD_in _ _ hbl] at HUP
    have haI : (a : Int) < (n : Int) := by omega
    have hbI : (b : Int) < (n : Int) := by omega
    have hcI : (c4 : Int) < (n : Int) := by omega
    generalize L[a] = l0 at *
    generalize L[b] = l1 at *
    generalize L[c4] = l2 at *
    clear hq hI ea eb ec ee hal hbl hcl d4
    by_cases h1 : l0 = 1
    · subst h1
      have HG := Lib.hid (show (l2 == 1) = (flatB W T L v || uprB W T L v) by rw [HFL.out, HUP.out]; cases h : (l2 == 1) <;> simp_all)
      cases h2 : (l2 == 1) with
      | true =>
        rw [h2] at HG
        go_wp2_with fail
        go_ret
        exact ⟨ret_b HG.out, B4⟩
      | false =>
        rw [h2] at HG
        go_wp2_with fail
        go_ret
        exact ⟨ret_b HG.out, B4⟩
    · have h1b : (l0 == 1) = false := by rw [beq_eq_false_iff_ne]; exact h1
      by_cases h2 : l0 = 2
      · subst h2
        have HG := Lib.hid (show (l1 == 2) = (flatB W T L v || uprB W T L v) by rw [HFL.out, HUP.out]; cases h : (l1 == 2) <;> simp_all)
        clear h1
        go_wp2_with fail
        go_ret
        exact ⟨ret_b HG.out, B4⟩
      · have h2b : (l0 == 2) = false := by rw [beq_eq_false_iff_ne]; exact h2
        have HG := Lib.hid (show false = (flatB W T L v || uprB W T L v) by rw [HFL.out, HUP.out, decide_eq_false h1, decide_eq_false h2]; rfl)
        clear h1 h2
        go_wp2_with fail
        go_ret
        exact ⟨ret_b HG.out, B4⟩
  · obtain ⟨h1, h2⟩ := HNO.out hq
    have HG := Lib.hid (show false = (flatB W T L v || uprB W T L v) by rw [h1, h2]; rfl)
    clear h1 h2 hq
    go_wp2_with fail
    go_ret
    exact ⟨ret_b HG.out, B4⟩
end Go.Proofs.YtafmpgikdhlknaaGreat

/- Contracts: the reference's FlipOne and FlipRise of a tiling that can be flipped. -/
namespace Go.Proofs.YtafmpgikdhlknaaGreat
open Go.RowKit

section
variable {ops : Array Oper} {rest : List Oper} {o : Oper} {a : Act} {Q : Exit → Act → World → Prop}
/-- a copy: a list of numbers appended to a new list -/
theorem app_copy (w : World) (hgd : o.guard = none) (s x : Operand) (ho : o.op = .call { callee := .builtin .append, args := #[s, x], argTypes := #[29, 29] })
    (xs : List Int) (hs : a.eval s = .slice (some ⟨w.heap.size, 0, none⟩) 0 0) (A : Option Addr) (n c : Nat) (hx : a.eval x = .slice A n c) (hr : Rd w A (xs.map (.int .i64))) (hl : xs.length = n) (h0 : 0 < n) (hn : n ≤ 1000000)
    (h : ∀ (g c' : Nat) (w' : World), Wr w' w.heap.size 3 (some ⟨g, 0, none⟩) (xs.map (.int .i64)) → n ≤ c' → w.heap.size ≤ g → g < w'.heap.size → Below w.heap.size w w' → wpList Tryz.prog ops Q rest (a.put o.dst (.slice (some ⟨g, 0, none⟩) n c')) w') :
    wpList Tryz.prog ops Q (o :: rest) a (w.alloc (.cells #[] 3)) := by
  obtain ⟨i0, hi, hz0, hz1, hz2⟩ := info_parts Tryz.infoI
  have hown0 := World.ownsRow_lit (e := 3) (size := 1) w #[] 0 (Nat.le_refl _) (by unfold maxLen; omega) (by simp)
  have R1 := hr.alloc (.cells #[] 3)
  have hne : xs.map (Value.int .i64) ≠ [] := by intro e; rw [List.map_eq_nil_iff] at e; rw [e] at hl; simp at hl; omega
  obtain ⟨ad, rfl, hcell⟩ := R1 hne
  refine wpList_append_own _ hgd s x 29 ho w.heap.size 3 i0 (.int .i64 0) 1 8 Tryz.underlying29 hi hz0 hz1 hz2 rfl (by decide) _ _ _ hs hown0 ad n c (xs.map (.int .i64)) hx (by simp [hl]) hcell (by intro y hy; obtain ⟨b, _, rfl⟩ := List.mem_map.1 hy; rfl) (by unfold maxLen; omega) (by omega) (by simp) ?_
  intro v' w3 hown3 hg3 _
  have b3 : Below w.heap.size w w3 := (bl_alloc (Below.refl w.heap.size w) _).grown hg3 (by simp) (fun k hk => by have h2 : some w.heap.size = some k := hk; injection h2 with h2; omega)
  simp only [Nat.zero_add, List.nil_append] at hown3
  obtain ⟨g, cap, rfl, hg, hgl⟩ := hown3.form (by omega)
  have hcap : n ≤ cap := by
    rcases hown3.2 with ⟨e1, e2⟩ | ⟨g', cap', cur, e1, _, _, h3, _⟩
    · omega
    · injection e1 with _ _ e3; omega
  exact h g cap w3 (Wr.of_own hown3) hcap hg hgl b3
end
/-- a list in a block of its own, with true -/
def FloP (n : Nat) (M : List Int) (w : World) (e : Ending) (w' : World) : Prop :=
  ∃ g cc : Nat, e = .returned (.tuple #[.slice (some ⟨g, 0, none⟩) n cc, .bool true]) ∧ Rd w' (some ⟨g, 0, none⟩) (M.map (.int .i64)) ∧ Below w.heap.size w w'
set_option maxRecDepth 100000 in
set_option maxHeartbeats 4000000 in
theorem flipOneS_t (W T : Int) (A D : Option Addr) (c d n : Nat) (bs : List Bool) (L : List Int) (v : Nat) (w : World) (hr : Rd w A (bs.map .bool)) (hd : Rd w D (L.map (.int .i64))) (h : tilingB W T bs L = true) (hn : bs.length = n) (hv : v < ncN W T) (hmay : (flatB W T L v || uprB W T L v) = true) :
    Calls Tryz.prog 49 #[.agg #[.int .i64 W, .int .i64 T, .slice A n c], .slice D n d, .int .i64 (v : Int)] w (FloP n (flipL W T L v) w) := by
  obtain ⟨hval, hl, -⟩ := tiling_til h
  obtain ⟨⟨w1, w6⟩, ⟨t1, t6⟩, hlen, -⟩ := validB_iff.1 hval
  have hf : FldF W T n := ⟨w1, w6, t1, t6, by rw [← hn]; exact hlen⟩
  have n36 : n ≤ 36 := hf.bd
  have n1 : 0 < n := by have := (mul_bd w1 w6 t1 t6).1; omega
  obtain ⟨-, hN1, hN49⟩ := nc_bd hf
  have hLn : L.length = n := by omega
  have hlo : laidOkB W T bs L = true := by unfold tilingB at h; rw [Bool.and_eq_true] at h; exact h.1
  have hsq := may_sq h hmay
  obtain ⟨hI, a, b, k, e4, ea, eb, ec, ee, ha, hb, hc, he, hab, hbe, hak, hke, hbk⟩ := sq_cells hf hsq
  have CL := Lib.hid (fun (z : World) (R : Rd z A (bs.map .bool)) (Q : Rd z D (L.map (.int .i64))) => by have := sLaidOk_any W T A D c d bs L z R Q (by unfold maxLen; omega) (by unfold maxLen; omega); rw [hlo, hn, hLn] at this; exact this)
  have CM := Lib.hid (fun (z : World) (R : Rd z A (bs.map .bool)) (Q : Rd z D (L.map (.int .i64))) => flipMayS_any W T A D c d n bs L v z R Q h hn hv)
  have CQ := Lib.hid (fun (z : World) (R : Rd z A (bs.map .bool)) => (square_any W T A c n bs v z R hf hn hv).mono (fun e w' hh => (show e = .returned (.tuple #[.int .i64 (a : Int), .int .i64 (b : Int), .int .i64 (k : Int), .int .i64 (e4 : Int), .bool true]) ∧ Below z.heap.size z w' from by
    obtain ⟨h1, h2⟩ := hh
    rcases h1 with ⟨-, h1⟩ | ⟨h1, -⟩
    · rw [h1, ee, ec, eb, ea]; exact ⟨rfl, h2⟩
    · rw [hsq] at h1; cases h1)))
  rw [hmay] at CM
  have HSET := Lib.hid (fun (p q r s : Int) => show set4 W L v p q r s = (((L.set a p).set b q).set k r).set e4 s from by
    unfold set4
    rw [ee, ec, eb, ea]
    simp only [Int.toNat_natCast])
  have HFL := Lib.hid (fun (h1 : L.getD a 0 = 1) => show flipL W T L v = set4 W L v 2 2 4 4 from by
    have hu : uprB W T L v = false := by rw [up_at hI ea eb, h1]; rfl
    rw [hu, Bool.or_false] at hmay
    unfold flipL; rw [if_pos hmay])
  have HUL := Lib.hid (fun (h1 : L.getD a 0 ≠ 1) => show flipL W T L v = set4 W L v 1 3 1 3 from by
    have hfl : flatB W T L v = false := by rw [fl_at hI ea ec, decide_eq_false h1]; rfl
    rw [hfl, Bool.false_or] at hmay
    unfold flipL; rw [if_neg (by rw [hfl]; exact Bool.false_ne_true), if_pos hmay])
  have hLa : a < L.length := by omega
  rw [getD_in _ _ hLa] at HFL HUL
  have HLn := Lib.hid hLn
  have X0 := C3.new w (.int .i64 W) (.int .i64 T) (.slice A n c) 25
  have B0 := bl_alloc (Below.refl w.heap.size w) (.cells #[.int .i64 W, .int .i64 T, .slice A n c] 25)
  have r0 := hr.belo B0
  have d0 := hd.belo B0
  obtain ⟨x0, x1, x2⟩ := id X0
  clear hlen hl hval h hf hlo hLn hr hd hn ea eb ec ee hI hsq hmay
  go_enter Tryz.func49, Tryz.ntmps49
  go_wp2_with fail
  generalize w.alloc (.cells #[.int .i64 W, .int .i64 T, .slice A n c] 25) = u at *
  refine (CL.out _ r0 d0).mono ?_
  rintro e w2 ⟨rfl, b2⟩
  have X2 := X0.belo b2
  have r2 := r0.belo b2
  have d2 := d0.belo b2
  have B2 := bl_go B0 b2
  clear x0 x1 x2 X0 r0 d0 B0 b2 CL
  go_wp2_with (at_builtin; refine app_copy _ rfl _ _ rfl L rfl D n d rfl d2 HLn.out n1 (by omega) ?_; intro g cc w3 W3 hcc hg3 hgs3 b3; obtain ⟨x0, x1, x2⟩ := X2.belo b3)
  have X3 := X2.belo b3
  have r3 := r2.belo b3
  have d3 := d2.belo b3
  have B3 := bl_go B2 b3
  clear X2 r2 d2 b3
  refine (CM.out _ r3 d3).mono ?_
  rintro e w4 ⟨rfl, b4⟩
  have X4 := X3.belo b4
  have r4 := r3.belo b4
  have d4 := d3.belo b4
  have W4 := W3.belo b4
  have B4 := bl_go B3 b4
  have hgs4 := Nat.lt_of_lt_of_le hgs3 b4.size
  clear x0 x1 x2 X3 r3 d3 W3 b4 CM B3 hgs3
  obtain ⟨x0, x1, x2⟩ := id X4
  go_wp2_with fail
  refine (CQ.out _ r4).mono ?_
  rintro e w5 ⟨rfl, b5⟩
  have d5 := d4.belo b5
  have W5 := W4.belo b5
  have B5 := bl_go B4 b5
  have hgs5 := Nat.lt_of_lt_of_le hgs4 b5.size
  have hgw : w.heap.size ≤ g := Nat.le_trans B2.size hg3
  clear x0 x1 x2 X4 r4 d4 W4 b5 CQ B4 hgs4 B2
  have hla : a < L.length := by have := HLn.out; omega
  have hlb : b < L.length := by have := HLn.out; omega
  have hlk : k < L.length := by have := HLn.out; omega
  have hle : e4 < L.length := by have := HLn.out; omega
  obtain ⟨ad, rfl, c0⟩ := d5.atM hla
  have haI : (a : Int) < (n : Int) := by omega
  have hbI : (b : Int) < (n : Int) := by omega
  have hkI : (k : Int) < (n : Int) := by omega
  have heI : (e4 : Int) < (n : Int) := by omega
  obtain ⟨g', eg, -, -, hfr⟩ := W5.form (by intro e; rw [List.map_eq_nil_iff] at e; rw [e] at hla; simp at hla)
  injection eg with eg; injection eg with eg
  subst eg
  have f1 := hfr a
  have f2 := hfr b
  have f3 := hfr k
  have f4 := hfr e4
  have c1 := W5.rd.cellEM hla
  have c2 := W5.rd.cellEM hlb
  have c3 := W5.rd.cellEM hlk
  have c4 := W5.rd.cellEM hle
  simp only [Nat.zero_add] at c1 c2 c3 c4
  have hab' : ¬ (b = a) := by omega
  have hak' : ¬ (k = a) := by omega
  have hae' : ¬ (e4 = a) := by omega
  have hbk' : ¬ (k = b) := by omega
  have hbe' : ¬ (e4 = b) := by omega
  have hke' : ¬ (e4 = k) := by omega
  have hba' : ¬ (a = b) := by omega
  have hkb' : ¬ (b = k) := by omega
  generalize L[a] = l1 at *
  generalize L[b] = l2 at *
  generalize L[k] = l3 at *
  generalize L[e4] = l4 at *
  clear hla hlb hlk hle d5 hab hbe hak hke hbk
  by_cases h1 : l1 = 1
  · have HL5 := Lib.hid (show flipL W T L v = (((L.set a 2).set b 2).set k 4).set e4 4 from by rw [HFL.out h1, HSET.out])
    have W6 := (((W5.store a (.int .i64 2)).store b (.int .i64 2)).store k (.int .i64 4)).store e4 (.int .i64 4)
    rw [← List.map_set, ← List.map_set, ← List.map_set, ← List.map_set, ← HL5.out] at W6
    have h1b : (l1 == 1) = true := by rw [beq_iff_eq]; exact h1
    clear h1
    go_wp2_with fail
    go_ret2
    exact ⟨g, cc, rfl, W6.rd, (((B5.setCell (by simpa using hgw) _).setCell (by simpa using hgw) _).setCell (by simpa using hgw) _).setCell (by simpa using hgw) _⟩
  · have HL5 := Lib.hid (show flipL W T L v = (((L.set a 1).set k 1).set b 3).set e4 3 from by
      rw [HUL.out h1, HSET.out]
      congr 1
      exact List.set_comm _ _ (by omega))
    have W6 := (((W5.store a (.int .i64 1)).store k (.int .i64 1)).store b (.int .i64 3)).store e4 (.int .i64 3)
    rw [← List.map_set, ← List.map_set, ← List.map_set, ← List.map_set, ← HL5.out] at W6
    have h1b : (l1 == 1) = false := by rw [beq_eq_false_iff_ne]; exact h1
    clear h1
    go_wp2_with fail
    go_ret2
    exact ⟨g, cc, rfl, W6.rd, (((B5.setCell (by simpa using hgw) _).setCell (by simpa using hgw) _).setCell (by simpa using hgw) _).setCell (by simpa using hgw) _⟩
set_option maxRecDepth 100000 in
set_option maxHeartbeats 4000000 in
theorem flipRiseS_t (W T : Int) (A D : Option Addr) (c d n : Nat) (bs : List Bool) (L : List Int) (v : Nat) (w : World) (hr : Rd w A (bs.map .bool)) (hd : Rd w D (L.map (.int .i64))) (hs : simpB W T bs = true) (h : tilingB W T bs L = true) (hn : bs.length = n) (hv : v < ncN W T) (hmay : (flatB W T L v || uprB W T L v) = true) :
    Calls Tryz.prog 48 #[.agg #[.int .i64 W, .int .i64 T, .slice A n c], .slice D n d, .int .i64 (v : Int)] w fun e w' => e = .returned (.int .i64 (riseZ W T L v)) ∧ Below w.heap.size w w' := by
  obtain ⟨h2, hz⟩ := rise_at hs h hv hmay
  have m1 := hgt_num hs h hv
  have m2 := hgt_num hs h2 hv
  obtain ⟨N, hN⟩ : ∃ N, ncN W T = N := ⟨_, rfl⟩
  have l1 : (hgtV W T bs L).length = N := by rw [(hgtV_good hs h).len, hN]
  have l2 : (hgtV W T bs (flipL W T L v)).length = N := by rw [(hgtV_good hs h2).len, hN]
  have hN1 : 1 ≤ N := by omega
  have CF := Lib.hid (fun (z : World) (R : Rd z A (bs.map .bool)) (Q : Rd z D (L.map (.int .i64))) => flipOneS_t W T A D c d n bs L v z R Q h hn hv hmay)
  have C1 := Lib.hid (fun (z : World) (R : Rd z A (bs.map .bool)) (Q : Rd z D (L.map (.int .i64))) => calls_toN (heightsS_any W T A D c d n bs L z R Q hs h hn) l1)
  have C2 := Lib.hid (fun (z : World) (E : Option Addr) (e9 : Nat) (R : Rd z A (bs.map .bool)) (Q : Rd z E ((flipL W T L v).map (.int .i64))) => calls_toN (heightsS_any W T A E c e9 n bs (flipL W T L v) z R Q hs h2 hn) l2)
  have hv1 : v < (hgtV W T bs L).length := by omega
  have hv2 : v < (hgtV W T bs (flipL W T L v)).length := by omega
  rw [getD_in _ _ hv1, getD_in _ _ hv2] at hz
  rw [getD_in _ _ hv1] at m1
  rw [getD_in _ _ hv2] at m2
  have HZ := Lib.hid hz
  have K1 := Lib.hid (fun (z : World) (E : Option Addr) (R : Rd z E ((hgtV W T bs L).map (.int .i64))) => show ∃ ad, E = some ad ∧ z.cell? (ad.add v) = some (.int .i64 (hgtV W T bs L)[v]) from R.atM hv1)
  have K2 := Lib.hid (fun (z : World) (E : Option Addr) (R : Rd z E ((hgtV W T bs (flipL W T L v)).map (.int .i64))) => show ∃ ad, E = some ad ∧ z.cell? (ad.add v) = some (.int .i64 (hgtV W T bs (flipL W T L v))[v]) from R.atM hv2)
  generalize (hgtV W T bs L)[v] = y1 at *
  generalize (hgtV W T bs (flipL W T L v))[v] = y2 at *
  generalize hgtV W T bs L = H1 at *
  generalize hgtV W T bs (flipL W T L v) = H2 at *
  have hvI : (v : Int) < (N : Int) := by omega
  have X0 := C3.new w (.int .i64 W) (.int .i64 T) (.slice A n c) 25
  have B0 := bl_alloc (Below.refl w.heap.size w) (.cells #[.int .i64 W, .int .i64 T, .slice A n c] 25)
  have r0 := hr.belo B0
  have d0 := hd.belo B0
  have hN0 : ((N : Int) == 0) = false := by rw [beq_eq_false_iff_ne]; omega
  obtain ⟨x0, x1, x2⟩ := id X0
  clear hz hv1 hv2 l1 l2 h2 hs h hn hr hd hN hmay
  go_enter Tryz.func48, Tryz.ntmps48
  go_wp2_with fail
  generalize w.alloc (.cells #[.int .i64 W, .int .i64 T, .slice A n c] 25) = u at *
  refine (CF.out _ r0 d0).mono ?_
  rintro e w2 ⟨g, cc, rfl, F2, b2⟩
  have X2 := X0.belo b2
  have r2 := r0.belo b2
  have d2 := d0.belo b2
  have B2 := bl_go B0 b2
  clear x0 x1 x2 X0 r0 d0 B0 b2 CF
  obtain ⟨x0, x1, x2⟩ := id X2
  go_wp2_with fail
  refine (C1.out _ r2 d2).mono ?_
  rintro e w3 ⟨A3, c3, rfl, R3, b3⟩
  have X3 := X2.belo b3
  have r3 := r2.belo b3
  have F3 := F2.belo b3
  have B3 := bl_go B2 b3
  clear x0 x1 x2 X2 r2 d2 B2 b3 C1 F2
  obtain ⟨x0, x1, x2⟩ := id X3
  go_wp2_with fail
  refine (C2.out _ _ _ r3 F3).mono ?_
  rintro e w4 ⟨A4, c4, rfl, R4, b4⟩
  have B4 := bl_go B3 b4
  obtain ⟨ad1, rfl, k1⟩ := K1.out _ _ (R3.belo b4)
  obtain ⟨ad2, rfl, k2⟩ := K2.out _ _ R4
  clear x0 x1 x2 X3 r3 F3 B3 b4 C2 R3 R4
  go_upto_region 6 with fail
  go_region
  go_wp2_with fail
  go_ret
  exact ⟨ret_i HZ.out, B4.drew⟩
end Go.Proofs.YtafmpgikdhlknaaGreat

/- Contracts: the reference's PushesValid, PushOne and PushRun. -/
namespace Go.Proofs.YtafmpgikdhlknaaGreat
open Go.RowKit

/-- how the reference bounds corners -/
def cmZ (W T : Int) (bs : List Bool) : Int := if validB W T bs = true then ((ncN W T : Nat) : Int) else -1
theorem psv_no {W T : Int} {bs : List Bool} {ps : List Pu} (k : Nat) (hk : k < ps.length) (h : inB ps[k].1 0 (cmZ W T bs - 1) = false) : psvB W T bs ps = false := by
  rw [psv_eq]
  cases hs : simpB W T bs with
  | false => rfl
  | true =>
    have hv := (simp_iff.1 hs).1
    unfold cmZ at h
    rw [if_pos hv] at h
    have : puB W T ps[k] = false := by
      unfold inB at h
      unfold puB
      rw [decide_eq_false_iff_not] at h ⊢
      omega
    rw [pusB_f k hk this]
    simp
theorem psv_yes {W T : Int} {bs : List Bool} {ps : List Pu} (h : ∀ k (hk : k < ps.length), inB ps[k].1 0 (cmZ W T bs - 1) = true) : psvB W T bs ps = (simpB W T bs && decide (ps.length ≤ 128)) := by
  rw [psv_eq]
  cases hs : simpB W T bs with
  | false => rfl
  | true =>
    have hv := (simp_iff.1 hs).1
    unfold cmZ at h
    rw [if_pos hv] at h
    rw [pusB_t (fun k hk _ => by
      have := h k hk
      unfold inB at this
      unfold puB
      rw [decide_eq_true_eq] at this ⊢
      omega), Bool.and_true]
set_option maxRecDepth 100000 in
set_option maxHeartbeats 4000000 in
theorem sPushesValid_any (W T : Int) (A P : Option Addr) (c cp n m : Nat) (bs : List Bool) (ps : List Pu) (w : World) (hr : Rd w A (bs.map .bool)) (hp : RdP w P ps) (hn : bs.length = n) (hnm : n ≤ maxLen) (hm : ps.length = m) (hmm : m ≤ maxLen) :
    Calls Tryz.prog 28 #[.agg #[.int .i64 W, .int .i64 T, .slice A n c], .slice P m cp] w fun e w' => e = .returned (.bool (psvB W T bs ps)) ∧ Below w.heap.size w w' := by
  have X0 := C3.new w (.int .i64 W) (.int .i64 T) (.slice A n c) 25
  have B0 := bl_alloc (Below.refl w.heap.size w) (.cells #[.int .i64 W, .int .i64 T, .slice A n c] 25)
  have CS := Lib.hid (fun (z : World) (R : Rd z A (bs.map .bool)) => sSimple_any W T A c n bs z R hn hnm)
  have CC := Lib.hid (fun (z : World) (R : Rd z A (bs.map .bool)) => (show Calls Tryz.prog 66 #[.agg #[.int .i64 W, .int .i64 T, .slice A n c]] z (fun e w' => e = .returned (.int .i64 (cmZ W T bs)) ∧ Below z.heap.size z w') from by
    have := sCorners_any W T A c bs z R (by omega)
    rw [hn] at this
    exact this))
  have hcb : -1 ≤ cmZ W T bs ∧ cmZ W T bs ≤ 49 := by
    unfold cmZ
    split
    · rename_i hv
      obtain ⟨⟨w1, w6⟩, ⟨t1, t6⟩, hlen, -⟩ := validB_iff.1 hv
      obtain ⟨-, h1, h2⟩ := nc_bd (n := bs.length) (⟨w1, w6, t1, t6, hlen⟩ : FldF W T bs.length)
      omega
    · omega
  have HY := Lib.hid (fun (h : ∀ k (hk : k < ps.length), inB ps[k].1 0 (cmZ W T bs - 1) = true) => show psvB W T bs ps = (simpB W T bs && decide (m ≤ 128)) from by rw [← hm]; exact psv_yes h)
  have HNO := Lib.hid (fun (k : Nat) (hk : k < ps.length) (h : inB ps[k].1 0 (cmZ W T bs - 1) = false) => psv_no k hk h)
  have HM := Lib.hid hm
  unfold maxLen at hmm
  generalize cmZ W T bs = cm at *
  have CI := Lib.hid (fun (x : Int) z => (l1in_any x 0 (cm - 1) z).mono (fun e w' h => (⟨h.1, h.2 ▸ Below.refl _ _⟩ : e = .returned (.bool (inB x 0 (cm - 1))) ∧ Below z.heap.size z w')))
  clear hm hn hnm
  obtain ⟨c1, c2⟩ := hcb
  have hx0 := X0.lt
  go_enter Tryz.func28, Tryz.ntmps28
  go_wp2_with fail
  generalize w.alloc (.cells #[.int .i64 W, .int .i64 T, .slice A n c] 25) = u at *
  go_loopw [5] (fun i wr => ∃ k : Nat, k ≤ m ∧ i = .int .i64 k ∧ Hid (∀ j (h : j < ps.length), j < k → inB ps[j].1 0 (cm - 1) = true) ∧ Below u.heap.size u wr) (fun i _ => m - (intOf i).toNat)
  case atStart => exact ⟨0, Nat.zero_le _, rfl, fun j h h2 => by omega, Below.refl _ _⟩
  case round =>
    obtain ⟨k, hk, rfl, HK, BR⟩ := hrel
    have XR := X0.belo BR
    have rR := (hr.belo B0).belo BR
    by_cases hlt : k < m
    · have hkp : k < ps.length := by rw [HM.out]; exact hlt
      obtain ⟨b, off, rfl, c0, -⟩ := ((hp.belo B0).belo BR).at_ hkp
      have hkI : (k : Int) < (m : Int) := by omega
      have HN1 := Lib.hid (HNO.out k hkp)
      have HN2 := Lib.hid (fun (h : inB ps[k].1 0 (cm - 1) = true) => show ∀ j (h : j < ps.length), j < k + 1 → inB ps[j].1 0 (cm - 1) = true from fun j hj h2 => by
        rcases Nat.lt_or_ge j k with h3 | h3
        · exact HK.out j hj h3
        · obtain rfl : j = k := by omega
          exact h)
      have CIk := Lib.hid (CI.out ps[k].1)
      generalize ps[k].1 = x at *
      obtain ⟨x0, x1, x2⟩ := id XR
      have hxr := XR.lt
      have hcl := World.block_lt_of_cell? _ _ c0
      simp only at hcl
      obtain ⟨wq, hwq⟩ : ∃ wq : World, wq = wr := ⟨_, rfl⟩
      subst hwq
      have hcw : IntKind.i64.wrap (cm - 1) = cm - 1 := IntWalk.i64_in _ (by omega)
      generalize hib : inB x 0 (cm - 1) = ib at *
      clear hib
      have L0 : ∀ z : BW wq, z.wo.cell? ⟨w.heap.size, 0, none⟩ = some (.int .i64 W) := fun z => z.cell hxr x0
      have L1 : ∀ z : BW wq, z.wo.cell? ⟨w.heap.size, 1, none⟩ = some (.int .i64 T) := fun z => z.cell hxr x1
      have L2 : ∀ z : BW wq, z.wo.cell? ⟨w.heap.size, 2, none⟩ = some (.slice A n c) := fun z => z.cell hxr x2
      have L3 : ∀ z : BW wq, z.wo.cell? ⟨b, off + k * 2, none⟩ = some (.int .i64 x) := fun z => z.cell hcl c0
      have RZ := Lib.hid (fun (z : BW wq) => show Rd z.wo A (bs.map .bool) from rR.belo z.ok)
      cases ib with
      | true =>
        have HN3 := Lib.hid (HN2.out rfl)
        clear HN1 HN2
        go_wp2_with fail
        (refine region_bw (by kernel_rfl) (by kernel_rfl) ?_; (repeat (first | go_big_quiet_skip | (go_big_quiet_want; go_big_quiet_op; first | go_big_quiet_on | (refine ⟨.int .i64 cm, fun zz => ?_, ?_⟩; (go_at_call 66; with_reducible exact zz.on (CC.out zz.wo (RZ.out zz))); go_big_quiet_on) | (refine ⟨.bool true, fun zz => ?_, ?_⟩; (go_at_call 71; with_reducible exact zz.on (CIk.out zz.wo)); go_big_quiet_on)))); refine wpQuiet_nil ?_; intro wz hw'; obtain ⟨zw, hw''⟩ := hw'; subst hw'')
        go_wp2_with fail
        go_roundw
        case rel => exact ⟨k + 1, by omega, by go_num, HN3, bl_go BR zw.ok⟩
        case measure => simp [intOf]; omega
      | false =>
        have HF := Lib.hid (HN1.out rfl)
        clear HN1 HN2
        go_wp2_with fail
        (refine region_bw (by kernel_rfl) (by kernel_rfl) ?_; (repeat (first | go_big_quiet_skip | (go_big_quiet_want; go_big_quiet_op; first | go_big_quiet_on | (refine ⟨.int .i64 cm, fun zz => ?_, ?_⟩; (go_at_call 66; with_reducible exact zz.on (CC.out zz.wo (RZ.out zz))); go_big_quiet_on) | (refine ⟨.bool false, fun zz => ?_, ?_⟩; (go_at_call 71; with_reducible exact zz.on (CIk.out zz.wo)); go_big_quiet_on)))); refine wpQuiet_nil ?_; intro wz hw'; obtain ⟨zw, hw''⟩ := hw'; subst hw'')
        go_wp2_with fail
        go_ret
        exact ⟨ret_b HF.out.symm, bl_go B0 (bl_go BR zw.ok)⟩
    · obtain rfl : k = m := by omega
      have HP := Lib.hid (HY.out (fun j hj => HK.out j hj (by rw [← HM.out]; exact hj)))
      have CSr := Lib.hid (CS.out _ rR)
      generalize simpB W T bs = sb at *
      obtain ⟨x0, x1, x2⟩ := id XR
      go_wp2_with fail
      refine CSr.out.mono ?_
      rintro e w3 ⟨rfl, b3⟩
      have B3 := bl_go B0 (bl_go BR b3)
      clear x0 x1 x2
      cases sb with
      | false =>
        have HF := Lib.hid (show false = psvB W T bs ps by rw [HP.out]; rfl)
        go_wp2_with fail
        go_ret
        exact ⟨ret_b HF.out, B3⟩
      | true =>
        have HF := Lib.hid (show decide (k ≤ 128) = psvB W T bs ps by rw [HP.out]; rfl)
        by_cases h128 : k ≤ 128
        · rw [decide_eq_true h128] at HF
          have hI : (k : Int) ≤ 128 := by omega
          go_wp2_with fail
          go_ret
          exact ⟨ret_b HF.out, B3⟩
        · rw [decide_eq_false h128] at HF
          have hI : ¬ (k : Int) ≤ 128 := by omega
          have hId : decide ((k : Int) ≤ 128) = false := decide_eq_false hI
          go_wp2_with fail
          go_ret
          exact ⟨ret_b HF.out, B3⟩
end Go.Proofs.YtafmpgikdhlknaaGreat

/- Contracts: the reference's PushOne and PushRun of a tiling. -/
namespace Go.Proofs.YtafmpgikdhlknaaGreat
open Go.RowKit

/-- a list that may be read -/
def SpL (n : Nat) (M : List Int) (w : World) (e : Ending) (w' : World) : Prop :=
  ∃ (D : Option Addr) (d : Nat), e = .returned (.slice D n d) ∧ Rd w' D (M.map (.int .i64)) ∧ Below w.heap.size w w'
set_option maxHeartbeats 1000000 in
theorem same6_any (A A' : Option Addr) (c c' n : Nat) (ps qs : List Int) (w : World) (hr : Rd w A (ps.map (.int .i64))) (hr' : Rd w A' (qs.map (.int .i64))) (hn : n ≤ 1000000) (hp : ps.length = n) (hq : qs.length = n) :
    Calls Tryz.prog 73 #[.slice A n c, .slice A' n c'] w fun e w' => e = .returned (.bool (decide (ps = qs))) ∧ Below w.heap.size w w' := by
  have HP := Lib.hid hp
  have HQ := Lib.hid hq
  clear hp hq
  go_enter Tryz.func73, Tryz.ntmps73
  go_wp2_with fail
  go_loopw [5] (fun i wr => ∃ k : Nat, k ≤ n ∧ i = .int .i64 k ∧ Hid (∀ j (h : j < ps.length) (h2 : j < qs.length), j < k → ps[j] = qs[j]) ∧ Below w.heap.size w wr) (fun i _ => n - (intOf i).toNat)
  case atStart => exact ⟨0, Nat.zero_le _, rfl, fun j h h2 h3 => by omega, Below.refl _ _⟩
  case round =>
    obtain ⟨k, hk, rfl, HK, BR⟩ := hrel
    by_cases hlt : k < n
    · have hkp : k < ps.length := by rw [HP.out]; exact hlt
      have hkq : k < qs.length := by rw [HQ.out]; exact hlt
      obtain ⟨b, off, rfl, c0⟩ := (hr.belo BR).atEM hkp
      obtain ⟨b', off', rfl, d0⟩ := (hr'.belo BR).atEM hkq
      have hkI : (k : Int) < (n : Int) := by omega
      by_cases hc : ps[k] = qs[k]
      · have HC := Lib.hid hc
        rw [← hc] at d0
        clear hc
        generalize ps[k] = z at c0 d0
        have hqq : (z != z) = false := by simp
        go_wp2_with fail
        go_quiet (fail)
        go_wp2
        go_roundw
        case rel =>
          refine ⟨k + 1, by omega, by go_num, fun j h h2 h3 => ?_, below_drewN' BR _⟩
          rcases Nat.lt_or_ge j k with h4 | h4
          · exact HK.out j h h2 h4
          · obtain rfl : j = k := by omega
            exact HC.out
        case measure => simp [intOf]; omega
      · have HF := Lib.hid (show decide (ps = qs) = false from decide_eq_false (fun e => hc (by simp only [e])))
        have hb : (ps[k] != qs[k]) = true := by rw [bne_iff_ne]; exact hc
        clear hc
        generalize ps[k] = z at c0 hb
        generalize qs[k] = z' at d0 hb
        go_wp2_with fail
        go_quiet (fail)
        go_wp2
        go_ret
        exact ⟨ret_b HF.out.symm, below_drewN' BR _⟩
    · obtain rfl : k = n := by omega
      have HF := Lib.hid (show decide (ps = qs) = true from decide_eq_true (int_same HP.out HQ.out HK.out))
      go_wp2_with fail
      go_ret
      exact ⟨ret_b HF.out.symm, BR⟩
theorem RdP.one {w : World} {b : Nat} {x : Int} {up : Bool} (h0 : w.cell? ⟨b, 0, none⟩ = some (.int .i64 x)) (h1 : w.cell? ⟨b, 1, none⟩ = some (.bool up)) : RdP w (some ⟨b, 0, none⟩) [(x, up)] := by
  refine fun _ => ⟨_, rfl, fun j u hu => ?_⟩
  match j, hu with
  | 0, hu => injection hu with hu; subst hu; rw [add_off]; exact h0
  | 1, hu => injection hu with hu; subst hu; rw [add_off]; exact h1
set_option maxRecDepth 100000 in
set_option maxHeartbeats 4000000 in
theorem pushOneS_any (W T : Int) (A D : Option Addr) (c d n : Nat) (bs : List Bool) (L : List Int) (v : Nat) (up : Bool) (w : World) (hr : Rd w A (bs.map .bool)) (hd : Rd w D (L.map (.int .i64))) (hs : simpB W T bs = true) (h : tilingB W T bs L = true) (hn : bs.length = n) (hv : v < ncN W T) :
    Calls Tryz.prog 17 #[.agg #[.int .i64 W, .int .i64 T, .slice A n c], .slice D n d, .agg #[.int .i64 (v : Int), .bool up]] w (SpL n (pushL W T L (v, up)) w) := by
  obtain ⟨hval, hl, -⟩ := tiling_til h
  obtain ⟨⟨w1, w6⟩, ⟨t1, t6⟩, hlen, -⟩ := validB_iff.1 hval
  have hf : FldF W T n := ⟨w1, w6, t1, t6, by rw [← hn]; exact hlen⟩
  have n36 : n ≤ 36 := hf.bd
  have n1 : 0 < n := by have := (mul_bd w1 w6 t1 t6).1; omega
  have hLn : L.length = n := by omega
  have HLn := Lib.hid hLn
  have hpv : psvB W T bs [((v : Int), up)] = true := psv_iff.2 ⟨hs, by simp, fun p hp => by rw [List.mem_singleton] at hp; subst hp; simp only; omega⟩
  have X0 := C3.new w (.int .i64 W) (.int .i64 T) (.slice A n c) 25
  have B0 := bl_alloc (Below.refl w.heap.size w) (.cells #[.int .i64 W, .int .i64 T, .slice A n c] 25)
  have hz0 : (w.alloc (.cells #[.int .i64 W, .int .i64 T, .slice A n c] 25)).heap.size = w.heap.size + 1 := by simp
  have B00 := bl_alloc B0 (.cells #[.int .i64 (v : Int), .bool up] 38)
  have X00 := X0.alloc (.cells #[.int .i64 (v : Int), .bool up] 38)
  have KN := heap_alloc_new (w.alloc (.cells #[.int .i64 W, .int .i64 T, .slice A n c] 25)) (.cells #[.int .i64 (v : Int), .bool up] 38)
  have p0 := cell_of_row _ _ 0 _ _ _ KN
  have p1 := cell_of_row _ _ 1 _ _ _ KN
  rw [hz0] at p0 p1
  have p0 : ((w.alloc (.cells #[.int .i64 W, .int .i64 T, .slice A n c] 25)).alloc (.cells #[.int .i64 (v : Int), .bool up] 38)).cell? ⟨w.heap.size + 1, 0, none⟩ = some (.int .i64 (v : Int)) := p0
  have p1 : ((w.alloc (.cells #[.int .i64 W, .int .i64 T, .slice A n c] 25)).alloc (.cells #[.int .i64 (v : Int), .bool up] 38)).cell? ⟨w.heap.size + 1, 1, none⟩ = some (.bool up) := p1
  have hwl : w.heap.size + 2 ≤ ((w.alloc (.cells #[.int .i64 W, .int .i64 T, .slice A n c] 25)).alloc (.cells #[.int .i64 (v : Int), .bool up] 38)).heap.size := by simp
  have r0 := hr.belo B00
  have d0 := hd.belo B00
  have CT := Lib.hid (fun (z : World) (R : Rd z A (bs.map .bool)) (Q : Rd z D (L.map (.int .i64))) => sTilingOk_any W T A D c d n n bs L z R Q hn (by unfold maxLen; omega) hLn (by unfold maxLen; omega))
  rw [h] at CT
  have CP := Lib.hid (fun (z : World) (b : Nat) (R : Rd z A (bs.map .bool)) (Q : RdP z (some ⟨b, 0, none⟩) [((v : Int), up)]) => sPushesValid_any W T A (some ⟨b, 0, none⟩) c 1 n 1 bs [((v : Int), up)] z R Q hn (by unfold maxLen; omega) rfl (by unfold maxLen; omega))
  rw [hpv] at CP
  have CM := Lib.hid (fun (z : World) (R : Rd z A (bs.map .bool)) (Q : Rd z D (L.map (.int .i64))) => flipMayS_any W T A D c d n bs L v z R Q h hn hv)
  have CR := Lib.hid (fun (hm : (flatB W T L v || uprB W T L v) = true) (z : World) (R : Rd z A (bs.map .bool)) (Q : Rd z D (L.map (.int .i64))) => flipRiseS_t W T A D c d n bs L v z R Q hs h hn hv hm)
  have CF := Lib.hid (fun (hm : (flatB W T L v || uprB W T L v) = true) (z : World) (R : Rd z A (bs.map .bool)) (Q : Rd z D (L.map (.int .i64))) => flipOneS_t W T A D c d n bs L v z R Q h hn hv hm)
  have H0 := Lib.hid (fun (hm : (flatB W T L v || uprB W T L v) = false) => show pushL W T L (v, up) = L from push_no (by rw [rise_0 hm]; omega))
  have HN := Lib.hid (fun (h : ¬ ((0 < riseZ W T L v ∧ up = true) ∨ (riseZ W T L v < 0 ∧ up = false))) => push_no h)
  have HY := Lib.hid (fun (h : (0 < riseZ W T L v ∧ up = true) ∨ (riseZ W T L v < 0 ∧ up = false)) => push_yes h)
  have hz := rise_bd W T L v
  generalize riseZ W T L v = z at *
  generalize hmy : (flatB W T L v || uprB W T L v) = my at *
  obtain ⟨x0, x1, x2⟩ := id X00
  clear KN X0 B0 hlen hl hval h hs hf hLn hr hd hmy hpv
  go_enter Tryz.func17, Tryz.ntmps17
  go_wp2_with fail
  generalize hu : ((w.alloc (.cells #[.int .i64 W, .int .i64 T, .slice A n c] 25)).alloc (.cells #[.int .i64 (v : Int), .bool up] 38)) = u at *
  clear hu hz0
  refine (CT.out _ r0 d0).mono ?_
  rintro e w2 ⟨rfl, b2⟩
  have X2 := X00.belo b2
  have B2 := bl_go B00 b2
  have d2 := d0.belo b2
  have r2 := r0.belo b2
  have q0 := ((bcell b2).1 _ 0 (show w.heap.size + 1 < _ by omega)).trans p0
  have q1 := ((bcell b2).1 _ 1 (show w.heap.size + 1 < _ by omega)).trans p1
  have hsz2 : w.heap.size + 2 ≤ w2.heap.size := by have := b2.size; omega
  clear p0 p1 x0 x1 x2 CT X00 d0 r0 b2 B00 hwl
  obtain ⟨x0, x1, x2⟩ := id X2
  have hlt2 := X2.lt
  have hlt3 : w.heap.size + 1 < w2.heap.size := by omega
  have BA := bl_alloc (Below.refl w2.heap.size w2) (.cells #[.int .i64 (v : Int), .bool up] 38)
  have KA := heap_alloc_new w2 (.cells #[.int .i64 (v : Int), .bool up] 38)
  have CPA := Lib.hid (CP.out _ w2.heap.size (r2.belo BA) (RdP.one (cell_of_row _ _ 0 _ _ _ KA) (cell_of_row _ _ 1 _ _ _ KA)))
  go_wp2_with fail
  refine CPA.out.mono ?_
  rintro e w3 ⟨rfl, b3⟩
  have b3' := bl_go BA b3
  have X3 := X2.belo b3'
  have B3 := bl_go B2 b3'
  have d3 := d2.belo b3'
  have r3 := r2.belo b3'
  have s0 := ((bcell b3').1 _ 0 hlt3).trans q0
  have s1 := ((bcell b3').1 _ 1 hlt3).trans q1
  have hsz3 : w.heap.size + 2 ≤ w3.heap.size := by have := b3'.size; omega
  clear q0 q1 x0 x1 x2 CP CPA X2 d2 r2 b3 b3' B2 BA KA hsz2 hlt2 hlt3
  obtain ⟨x0, x1, x2⟩ := id X3
  go_wp2_with fail
  refine (CM.out _ r3 d3).mono ?_
  rintro e w4 ⟨rfl, b4⟩
  have X4 := X3.belo b4
  have B4 := bl_go B3 b4
  have d4 := d3.belo b4
  have r4 := r3.belo b4
  have q0 := ((bcell b4).1 _ 0 (show w.heap.size + 1 < _ by omega)).trans s0
  have q1 := ((bcell b4).1 _ 1 (show w.heap.size + 1 < _ by omega)).trans s1
  have hsz4 : w.heap.size + 2 ≤ w4.heap.size := by have := b4.size; omega
  clear s0 s1 x0 x1 x2 CM X3 d3 r3 b4 B3 hsz3
  obtain ⟨x0, x1, x2⟩ := id X4
  cases my with
  | false =>
    have HP := Lib.hid (H0.out rfl)
    clear H0 HN HY hz CR CF X4
    cases up
    all_goals
      go_wp2_with (at_builtin; refine app_copy _ rfl _ _ rfl L rfl D n d rfl d4 HLn.out n1 (by omega) ?_; intro g cc w5 W5 hcc hg5 hgs5 b5)
      go_ret
      exact ⟨_, _, rfl, by rw [HP.out]; exact W5.rd, bl_go B4 b5⟩
  | true =>
    have CR4 := Lib.hid (CR.out rfl _ r4 d4)
    have CF4 := Lib.hid (CF.out rfl)
    clear H0 CR CF
    go_wp2_with fail
    refine CR4.out.mono ?_
    rintro e w5 ⟨rfl, b5⟩
    have X5 := X4.belo b5
    have B5 := bl_go B4 b5
    have d5 := d4.belo b5
    have r5 := r4.belo b5
    have s0 := ((bcell b5).1 _ 0 (show w.heap.size + 1 < _ by omega)).trans q0
    have s1 := ((bcell b5).1 _ 1 (show w.heap.size + 1 < _ by omega)).trans q1
    have CF5 := Lib.hid (CF4.out _ r5 d5)
    clear q0 q1 x0 x1 x2 CR4 X4 d4 r4 b5 B4 CF4
    obtain ⟨x0, x1, x2⟩ := id X5
    by_cases hp : (0 < z ∧ up = true) ∨ (z < 0 ∧ up = false)
    · have HP := Lib.hid (HY.out hp)
      have hp2 : (z = 4 ∧ up = true) ∨ (z = -4 ∧ up = false) := by
        rcases hp with ⟨a, b⟩ | ⟨a, b⟩
        · exact .inl ⟨by omega, b⟩
        · exact .inr ⟨by omega, b⟩
      clear HN HY hp hz
      rcases hp2 with ⟨rfl, rfl⟩ | ⟨rfl, rfl⟩
      all_goals
        go_wp2_with fail
        refine CF5.out.mono ?_
        rintro e w6 ⟨g6, c6, rfl, W6, b6⟩
        clear x0 x1 x2 s0 s1
        go_wp2_with fail
        go_ret
        exact ⟨_, _, rfl, by rw [HP.out]; exact W6, bl_go B5 b6⟩
    · have HP := Lib.hid (HN.out hp)
      have hp2 : z = 0 ∨ (z = 4 ∧ up = false) ∨ (z = -4 ∧ up = true) := by
        rcases hz with h | h | h
        · exact .inl h
        · cases up with
          | false => exact .inr (.inl ⟨h, rfl⟩)
          | true => exact absurd (.inl ⟨by omega, rfl⟩) hp
        · cases up with
          | true => exact .inr (.inr ⟨h, rfl⟩)
          | false => exact absurd (.inr ⟨by omega, rfl⟩) hp
      clear HN HY hp hz CF5
      rcases hp2 with rfl | ⟨rfl, rfl⟩ | ⟨rfl, rfl⟩
      · cases up
        all_goals
          go_wp2_with (at_builtin; refine app_copy _ rfl _ _ rfl L rfl D n d rfl d5 HLn.out n1 (by omega) ?_; intro g cc w6 W6 hcc hg6 hgs6 b6)
          go_ret
          exact ⟨_, _, rfl, by rw [HP.out]; exact W6.rd, bl_go B5 b6⟩
      all_goals
        go_wp2_with (at_builtin; refine app_copy _ rfl _ _ rfl L rfl D n d rfl d5 HLn.out n1 (by omega) ?_; intro g cc w6 W6 hcc hg6 hgs6 b6)
        go_ret
        exact ⟨_, _, rfl, by rw [HP.out]; exact W6.rd, bl_go B5 b6⟩
set_option maxRecDepth 100000 in
set_option maxHeartbeats 4000000 in
theorem pushRunS_any (W T : Int) (A D P : Option Addr) (c d n m cp : Nat) (bs : List Bool) (L : List Int) (ps : List Pu) (w : World) (hr : Rd w A (bs.map .bool)) (hd : Rd w D (L.map (.int .i64))) (hp : RdP w P ps) (hps : psvB W T bs ps = true) (h : tilingB W T bs L = true) (hn : bs.length = n) (hm : ps.length = m) :
    Calls Tryz.prog 30 #[.agg #[.int .i64 W, .int .i64 T, .slice A n c], .slice D n d, .slice P m cp] w (SpL n (runL W T L (psN ps)) w) := by
  obtain ⟨hs, h128, hpv⟩ := psv_iff.1 hps
  obtain ⟨hval, hl, -⟩ := tiling_til h
  obtain ⟨⟨w1, w6⟩, ⟨t1, t6⟩, hlen, -⟩ := validB_iff.1 hval
  have n36 : n ≤ 36 := by have := (mul_bd w1 w6 t1 t6).2; omega
  have n1 : 0 < n := by have := (mul_bd w1 w6 t1 t6).1; omega
  have hLn : L.length = n := by omega
  have HLn := Lib.hid hLn
  have HM := Lib.hid hm
  have hm128 : m ≤ 128 := by omega
  have X0 := C3.new w (.int .i64 W) (.int .i64 T) (.slice A n c) 25
  have B0 := bl_alloc (Below.refl w.heap.size w) (.cells #[.int .i64 W, .int .i64 T, .slice A n c] 25)
  have r0 := hr.belo B0
  have d0 := hd.belo B0
  have p0 := hp.belo B0
  have CT := Lib.hid (sTilingOk_any W T A D c d n n bs L _ r0 d0 hn (by unfold maxLen; omega) hLn (by unfold maxLen; omega))
  rw [h] at CT
  have CP := Lib.hid (fun (z : World) (R : Rd z A (bs.map .bool)) (Q : RdP z P ps) => sPushesValid_any W T A P c cp n m bs ps z R Q hn (by unfold maxLen; omega) hm (by unfold maxLen; omega))
  rw [hps] at CP
  have CO := Lib.hid (fun (M : List Int) (hM : tilingB W T bs M = true) (v : Nat) (up : Bool) (hv : v < ncN W T) (z : World) (E : Option Addr) (e9 : Nat) (R : Rd z A (bs.map .bool)) (Q : Rd z E (M.map (.int .i64))) => pushOneS_any W T A E c e9 n bs M v up z R Q hs hM hn hv)
  have HT := Lib.hid (fun k => run_til hs (psN (ps.take k)) L h)
  have HTK := Lib.hid (fun (k : Nat) (hk : k < ps.length) => run_take W T L ps hk)
  have HE := Lib.hid (show runL W T L (psN (ps.take m)) = runL W T L (psN ps) by rw [← hm, List.take_length])
  have H0 := Lib.hid (show L = runL W T L (psN (ps.take 0)) from rfl)
  have HPV := Lib.hid (fun (k : Nat) (hk : k < ps.length) => show ∃ v : Nat, ps[k].1 = v ∧ v < ncN W T from by
    obtain ⟨a, b⟩ := hpv _ (List.getElem_mem hk)
    exact ⟨ps[k].1.toNat, by omega, by omega⟩)
  obtain ⟨x0, x1, x2⟩ := id X0
  clear hlen hl hval h hs hLn hr hd hp hpv hps hn h128 hm
  go_enter Tryz.func30, Tryz.ntmps30
  go_wp2_with fail
  generalize w.alloc (.cells #[.int .i64 W, .int .i64 T, .slice A n c] 25) = u at *
  refine CT.out.mono ?_
  rintro e w2 ⟨rfl, b2⟩
  have X2 := X0.belo b2
  have r2 := r0.belo b2
  have d2 := d0.belo b2
  have p2 := p0.belo b2
  have B2 := bl_go B0 b2
  clear x0 x1 x2 X0 r0 d0 p0 B0 b2 CT
  obtain ⟨x0, x1, x2⟩ := id X2
  go_wp2_with fail
  refine (CP.out _ r2 p2).mono ?_
  rintro e w3 ⟨rfl, b3⟩
  have X3 := X2.belo b3
  have r3 := r2.belo b3
  have d3 := d2.belo b3
  have p3 := p2.belo b3
  have B3 := bl_go B2 b3
  clear x0 x1 x2 X2 r2 d2 p2 B2 b3 CP
  go_wp2_with (at_builtin; refine app_copy _ rfl _ _ rfl L rfl D n d rfl d3 HLn.out n1 (by omega) ?_; intro g cc w4 W4 hcc hg4 hgs4 b4)
  have X4 := X3.belo b4
  have r4 := r3.belo b4
  have p4 := p3.belo b4
  have B4 := bl_go B3 b4
  have D4 := W4.rd
  rw [H0.out] at D4
  clear X3 r3 d3 p3 B3 b4 W4 hg4 hgs4 hcc
  go_wp2_with fail
  go_loopw [7, 8] (fun o i wr => ∃ (k e9 : Nat) (E : Option Addr), k ≤ m ∧ i = .int .i64 k ∧ o = .slice E n e9 ∧ Rd wr E ((runL W T L (psN (ps.take k))).map (.int .i64)) ∧ Below w4.heap.size w4 wr) (fun _ i _ => m - (intOf i).toNat)
  case atStart => exact ⟨0, cc, _, Nat.zero_le _, rfl, rfl, D4, Below.refl _ _⟩
  case round =>
    clear D4
    obtain ⟨k, e9, E, hk, rfl, rfl, DR, BR⟩ := hrel
    obtain ⟨wq, hwq⟩ : ∃ wq : World, wq = wr := ⟨_, rfl⟩
    subst hwq
    by_cases hlt : k < m
    · have hkp : k < ps.length := by rw [HM.out]; exact hlt
      have XR := X4.belo BR
      have rR := r4.belo BR
      obtain ⟨b, off, rfl, c0, c1⟩ := (p4.belo BR).at_ hkp
      obtain ⟨v, ev, hvN⟩ := HPV.out k hkp
      have HTk := Lib.hid (HTK.out k hkp)
      rw [ev, Int.toNat_natCast] at HTk
      rw [ev] at c0
      generalize ps[k].2 = up at *
      have hkI : (k : Int) < (m : Int) := by omega
      have hbl := World.block_lt_of_cell? _ _ c0
      simp only at hbl
      have Z0 : Below wq.heap.size wq wq.drew := (Below.refl _ _).drew
      have CO1 := Lib.hid (CO.out _ (HT.out k) v up hvN wq.drew E e9 (rR.belo Z0) (DR.belo Z0))
      rw [← HTk.out] at CO1
      have KS := Lib.hid (fun (z : World) (Z : Below wq.heap.size wq z) => show (z.cell? ⟨w.heap.size, 0, none⟩ = some (.int .i64 W) ∧ z.cell? ⟨w.heap.size, 1, none⟩ = some (.int .i64 T) ∧ z.cell? ⟨w.heap.size, 2, none⟩ = some (.slice A n c)) ∧ z.cell? ⟨b, off + k * 2, none⟩ = some (.int .i64 (v : Int)) ∧ z.cell? ⟨b, off + k * 2 + 1, none⟩ = some (.bool up) from ⟨XR.belo Z, ((bcell Z).1 b _ hbl).trans c0, ((bcell Z).1 b _ hbl).trans c1⟩)
      have HS0 := KS.out _ (Below.refl _ _)
      obtain ⟨⟨x0, x1, x2⟩, x3, x4⟩ := KS.out _ (Below.refl _ _)
      clear ev XR rR c0 c1 hbl
      go_upto_region 7 with fail
      go_region_held3 (fun w' => (w'.cell? ⟨w.heap.size, 0, none⟩ = some (.int .i64 W) ∧ w'.cell? ⟨w.heap.size, 1, none⟩ = some (.int .i64 T) ∧ w'.cell? ⟨w.heap.size, 2, none⟩ = some (.slice A n c)) ∧ w'.cell? ⟨b, off + k * 2, none⟩ = some (.int .i64 (v : Int)) ∧ w'.cell? ⟨b, off + k * 2 + 1, none⟩ = some (.bool up))
        (first | (with_reducible exact KS.out _ Z4) | (with_reducible exact KS.out _ Z0) | (with_reducible exact HS0) | go_keep)
        ((go_at_call 17; (with_reducible refine CO1.out.mono ?_); rintro e w5 ⟨E5, e5, rfl, R5, b5⟩; have Z4 := Z0.trans (b5.mono Z0.size)))
      clear x0 x1 x2 x3 x4 HS0 KS CO1
      go_wp2_with fail
      go_roundw
      case rel => exact ⟨k + 1, e5, E5, by omega, by go_num, rfl, R5, bl_go BR Z4⟩
      case measure => simp [intOf]; omega
    · obtain rfl : k = m := by omega
      rw [HE.out] at DR
      go_wp2_with fail
      go_ret
      exact ⟨_, _, rfl, DR, bl_go B4 BR⟩
end Go.Proofs.YtafmpgikdhlknaaGreat

/- Contract: the reference's TilingsAll. -/
namespace Go.Proofs.YtafmpgikdhlknaaGreat
open Go.RowKit

/-- the first empty cell, or -1 -/
def fsZ (bs : List Bool) (L : List Int) (m : Nat) : Int := if fsL bs L = m then -1 else ((fsL bs L : Nat) : Int)
set_option maxRecDepth 100000 in
set_option maxHeartbeats 1000000 in
theorem sFirst_any (W T : Int) (A A' : Option Addr) (c c' m : Nat) (bs : List Bool) (L : List Int) (w : World) (hr : Rd w A (bs.map .bool)) (hr' : Rd w A' (L.map (.int .i64))) (hn : bs.length = m) (hm : L.length = m) (hmm : m ≤ 36) :
    Calls Tryz.prog 120 #[.agg #[.int .i64 W, .int .i64 T, .slice A m c], .slice A' m c'] w fun e w' => e = .returned (.int .i64 (fsZ bs L m)) ∧ Below w.heap.size w w' := by
  have X0 := C3.new w (.int .i64 W) (.int .i64 T) (.slice A m c) 25
  have B0 := bl_alloc (Below.refl w.heap.size w) (.cells #[.int .i64 W, .int .i64 T, .slice A m c] 25)
  obtain ⟨x0, x1, x2⟩ := id X0
  have R1 := hr.belo B0
  have R1' := hr'.belo B0
  have HN := Lib.hid hn
  have HM := Lib.hid hm
  clear hn hm
  go_enter Tryz.func120, Tryz.ntmps120
  go_wp2_with fail
  generalize w.alloc (.cells #[.int .i64 W, .int .i64 T, .slice A m c] 25) = u at *
  go_loop [5] (fun i => ∃ k : Nat, k ≤ m ∧ i = .int .i64 k ∧ Hid (∀ j, j < k → emK bs L j = false)) (fun i => m - (intOf i).toNat)
  case atStart => exact ⟨0, Nat.zero_le _, rfl, fun j h => by omega⟩
  case round =>
    obtain ⟨k, hk, rfl, HK⟩ := hrel
    by_cases hlt : k < m
    · have hkb : k < bs.length := by have := HN.out; omega
      have hkl : k < L.length := by have := HM.out; omega
      obtain ⟨b, off, rfl, ck⟩ := R1.atEM hkb
      obtain ⟨b', off', rfl, lk⟩ := R1'.atEM hkl
      have HE := Lib.hid (show emK bs L k = (bs[k] && decide (L[k] = 0)) by unfold emK; rw [getD_in _ _ hkb, getD_in _ _ hkl])
      generalize bs[k] = bk at ck HE
      generalize L[k] = lv at lk HE
      have hkI : (k : Int) < (m : Int) := by omega
      have HNX := Lib.hid (fun (h : emK bs L k = false) => show ∀ j, j < k + 1 → emK bs L j = false from fun j hj => by
        rcases Nat.lt_or_ge j k with h2 | h2
        · exact HK.out j h2
        · obtain rfl : j = k := by omega
          exact h)
      cases bk with
      | false =>
        have HF2 := Lib.hid (HNX.out (by rw [HE.out]; rfl))
        go_wp2
        go_round
        case rel => exact ⟨k + 1, by omega, by go_num, HF2⟩
        case measure => simp [intOf]; omega
      | true =>
        by_cases hv : lv = 0
        · have HF2 := Lib.hid (show fsL bs L = k from fsL_eq (by omega) HK.out (fun _ => by rw [HE.out, decide_eq_true hv]; rfl))
          have hv1 : (lv == 0) = true := by simpa using hv
          clear hv
          go_wp2
          go_ret
          exact ⟨ret_i (by unfold fsZ; rw [HF2.out, if_neg (by omega)]), B0⟩
        · have HF2 := Lib.hid (HNX.out (by rw [HE.out, decide_eq_false hv]; rfl))
          have hv1 : (lv == 0) = false := by simpa using hv
          clear hv
          go_wp2
          go_round
          case rel => exact ⟨k + 1, by omega, by go_num, HF2⟩
          case measure => simp [intOf]; omega
    · obtain rfl : k = m := by omega
      have HF2 := Lib.hid (show fsL bs L = k from fsL_eq (by have := HN.out; omega) HK.out (fun h => by have := HN.out; omega))
      go_wp2
      go_ret
      exact ⟨ret_i (by unfold fsZ; rw [HF2.out, if_pos rfl]), B0⟩
/-- the search from some on is right -/
def AllOk (W T : Int) (n c : Nat) (bs : List Bool) (A : Option Addr) (m : Nat) : Prop :=
  ∀ (w : World) (Af : Option Addr) (cf : Nat) (L : List Int), Rd w A (bs.map .bool) → Rd w Af (L.map (.int .i64)) → n ≤ cf → L.length = n → laysB W T bs L = true → cnt (emF bs L) ≤ m →
    Calls Tryz.prog 104 #[.agg #[.int .i64 W, .int .i64 T, .slice A n c], .slice Af n cf] w (FsR (tlsF W T bs m L) Af w)
def brJ (W T : Int) (bs : List Bool) (f : Nat) (L : List Int) (k : Nat) : Nat → List (List Int)
  | 0 => []
  | 1 => brE W T bs f L k 1
  | _ => brE W T bs f L k 1 ++ brE W T bs f L k 2
theorem brJ_s {W T : Int} {bs : List Bool} {f : Nat} {L : List Int} {k j : Nat} (hj : j < 2) : brJ W T bs f L k (j + 1) = brJ W T bs f L k j ++ brE W T bs f L k ((j : Int) + 1) := by
  rcases (show j = 0 ∨ j = 1 by omega) with rfl | rfl
  · rfl
  · rfl
theorem brE_len (W T : Int) (bs : List Bool) (f : Nat) (L : List Int) (k : Nat) (q : Int) : (brE W T bs f L k q).length ≤ 2 ^ f := by
  unfold brE
  split
  · exact tlsF_len W T bs f _
  · simp
theorem brJ_len (W T : Int) (bs : List Bool) (f : Nat) (L : List Int) (k j : Nat) : (brJ W T bs f L k j).length ≤ 2 * 2 ^ f := by
  have h1 := brE_len W T bs f L k 1
  have h2 := brE_len W T bs f L k 2
  match j with
  | 0 => simp [brJ]
  | 1 => simp only [brJ]; omega
  | j + 2 => simp only [brJ, List.length_append]; omega
set_option maxRecDepth 100000 in
set_option maxHeartbeats 8000000 in
theorem all_step {W T : Int} {n c : Nat} {bs : List Bool} {A : Option Addr} {m : Nat} (hval : validB W T bs = true) (hn : bs.length = n) (hm36 : m ≤ 36) (IH : ∀ m', m = m' + 1 → AllOk W T n c bs A m') : AllOk W T n c bs A m := by
  intro w Af cf L hr hrF hcf hl hlay hcnt
  obtain ⟨⟨w1, w6⟩, ⟨t1, t6⟩, hlen, -⟩ := validB_iff.1 hval
  have hf : FldF W T n := ⟨w1, w6, t1, t6, by rw [← hn]; exact hlen⟩
  have n36 : n ≤ 36 := hf.bd
  have n1 : 1 ≤ n := by have := (mul_bd w1 w6 t1 t6).1; omega
  have hfg := valid_fld hval
  have X0 := C3.new w (.int .i64 W) (.int .i64 T) (.slice A n c) 25
  have B0 := bl_alloc (Below.refl w.heap.size w) (.cells #[.int .i64 W, .int .i64 T, .slice A n c] 25)
  have zs : (w.alloc (.cells #[.int .i64 W, .int .i64 T, .slice A n c] 25)).heap.size = w.heap.size + 1 := by simp
  obtain ⟨W0, hW0⟩ : ∃ W0, w.alloc (.cells #[.int .i64 W, .int .i64 T, .slice A n c] 25) = W0 := ⟨_, rfl⟩
  rw [hW0] at X0 B0 zs
  have hown0 : (W0.alloc (.cells #[] 29)).ownsRow W0.heap.size 29 1 (.slice (some ⟨W0.heap.size, 0, none⟩) 0 0) 0 [] := World.ownsRow_lit _ #[] 0 (Nat.le_refl _) (by unfold maxLen; omega) (by simp)
  have B1 := bl_alloc (Below.refl W0.heap.size W0) (.cells #[] 29)
  have O1 : OutF W0 Af (.slice (some ⟨W0.heap.size, 0, none⟩) 0 0) [] [] (W0.alloc (.cells #[] 29)) :=
    ⟨⟨⟨_, _, rfl, hown0⟩, HeadsI.nil _, fun _ h => absurd h AtL.nil⟩, fun _ h => absurd h AtL.nil, B1⟩
  have hrW := hr.belo B0
  have hrFW := hrF.belo B0
  have HN := Lib.hid hn
  have HL := Lib.hid hl
  have HAF := Lib.hid (fun ad (e : Af = some ad) => show ad.block < w.heap.size from hrF.lt e (by intro e2; have := congrArg List.length e2; rw [List.length_map, HL.out] at this; simp at this; omega))
  have HLO := Lib.hid (show laidOkB W T bs L = true by unfold laidOkB; rw [hval, hlay]; rfl)
  have HLEN := Lib.hid (fun (L' : List Int) => tlsF_len W T bs m L')
  have hp36 : 2 ^ m ≤ 68719476736 := by
    have : 2 ^ m ≤ 2 ^ 36 := Nat.pow_le_pow_right (by omega) hm36
    omega
  have CFI := Lib.hid (fun (z : World) (R : Rd z A (bs.map .bool)) (Q : Rd z Af (L.map (.int .i64))) => sFirst_any W T A Af c cf n bs L z R Q hn hl n36)
  have CLX := Lib.hid (fun (k : Nat) (hk : k < n) (d : Int) (d1 : 1 ≤ d) (d2 : d ≤ 2) (z : World) (R : Rd z A (bs.map .bool)) (Q : Rd z Af (L.map (.int .i64))) => show Calls Tryz.prog 121 #[.agg #[.int .i64 W, .int .i64 T, .slice A n c], .slice Af n cf, .int .i64 (k : Int), .int .i64 d] z (fun e w' => ∃ (M : List Int) (A : Option Addr) (cc : Nat), e = .returned (.tuple #[.slice A n cc, .bool (mayL W T bs L k d)]) ∧ M.length = n ∧ n ≤ cc ∧ Rd w' A (M.map (.int .i64)) ∧ (mayL W T bs L k d = true → M = layL W T L k d) ∧ Below z.heap.size z w' ∧ ∀ ad, A = some ad → z.heap.size ≤ ad.block) from by
    have := sLayX_any W T d k A Af c cf bs L z R Q HLO.out (by rw [hn]; exact hk) d1 (by omega)
    rw [hn, hl] at this
    refine this.mono ?_
    rintro e w' ⟨M, A', cc, h1, h2, h3, h4⟩
    rw [hl] at h1 h2 h3
    exact ⟨M, A', cc, h1, h2, h3, h4⟩)
  have HIH := Lib.hid (fun (m' : Nat) (e : m = m' + 1) (k : Nat) (q : Int) (h1 : 1 ≤ q) (h2 : q ≤ 2) (hm : mayL W T bs L k q = true) (z : World) (A3 : Option Addr) (c3 : Nat) (R : Rd z A (bs.map .bool)) (Q : Rd z A3 ((layL W T L k q).map (.int .i64))) (hc : n ≤ c3) =>
    IH m' e z A3 c3 (layL W T L k q) R Q hc (by rw [layL_len]; exact hl) (lay_lays hfg hlay (by omega) (by omega) hm) (by have := em_lt hfg (show L.length = bs.length by omega) (c := k) (d := q) (by omega) hm; omega))
  have HEM := Lib.hid (fun (h : fsL bs L < bs.length) => show 1 ≤ m from by have := em_pos (fsL_t h); omega)
  have HLE := Lib.hid (fsL_le bs L)
  have HLF := Lib.hid (fun (h : fsL bs L = bs.length) => tls_leaf (W := W) (T := T) (f := m) h)
  have HZS := Lib.hid zs
  have HB0 := Lib.hid B0
  clear hn hl hlay hcnt hval hlen hf hfg hr hrF zs B0 IH hown0
  have X1 := X0.belo B1
  obtain ⟨x0, x1, x2⟩ := id X1
  go_enter Tryz.func104, Tryz.ntmps104
  go_wp2_with fail
  clear hW0
  generalize W0.alloc (.cells #[] 29) = W1 at *
  refine (CFI.out _ (hrW.belo B1) (hrFW.belo B1)).mono ?_
  rintro e w2 ⟨rfl, b2⟩
  have O2 := O1.belo b2
  have X2 := X1.belo b2
  clear x0 x1 x2 X1 B1 O1 b2
  by_cases hleaf : fsL bs L = n
  · rw [show fsZ bs L n = -1 by unfold fsZ; rw [if_pos hleaf]]
    have HLF2 := Lib.hid (HLF.out (by rw [HN.out]; exact hleaf))
    clear hleaf HLF
    have O3 := O2.belo (bl_alloc (Below.refl w2.heap.size w2) (.cells #[.slice Af n cf] 29))
    have hs2 : W0.heap.size ≤ (w2.alloc (.cells #[.slice Af n cf] 29)).heap.size := O3.ok.size
    go_wp2_with (at_builtin; refine wpList_headsL _ rfl _ _ rfl W0.heap.size _ [] rfl O3.gr.own ⟨w2.heap.size, 0, none⟩ 1 1 [.slice Af n cf] rfl rfl (one_atL _ _ _) (one_oneL _ _ _) (by simp) hs2 ?_; intro v3 w3 o3 g3 e3)
    have O4 := O3.app (G := [L]) (HeadsI.one ⟨_, _, by rw [HL.out], by rw [HL.out]; exact hcf, by rw [HL.out]; omega, hrFW.belo O3.ok⟩) (fun b hb => by
      obtain ⟨ad, e1, e2⟩ := hb.one
      have h1 := HAF.out ad e1
      have h2 := O3.ok.size
      have h3 := HZS.out
      refine ⟨by omega, fun e => ?_, .inl ⟨ad, e1, e2⟩⟩
      have := (O3.gr.own.lt b e).1
      omega) o3 g3 e3
    obtain ⟨A9, c9, rfl, hres⟩ := O4.res
    have HRS := Lib.hid (hres.lower HB0.out)
    go_wp2_with fail
    go_ret
    rw [HLF2.out]
    exact HRS.out
  · rw [show fsZ bs L n = ((fsL bs L : Nat) : Int) by unfold fsZ; rw [if_neg hleaf]]
    obtain ⟨k, hk⟩ : ∃ k, fsL bs L = k := ⟨_, rfl⟩
    have hkn : k < n := by have := HLE.out; have := HN.out; omega
    obtain ⟨m', rfl⟩ : ∃ m', m = m' + 1 := ⟨m - 1, by have := HEM.out (by have := HN.out; omega); omega⟩
    have HBR := Lib.hid (show tlsF W T bs (m' + 1) L = brJ W T bs m' L k 2 from tls_branch hk (by have := HN.out; omega))
    rw [hk]
    clear hleaf hk HLF HEM HLE
    go_wp2_with fail
    go_loopw [5, 7] (fun out i wr => ∃ (j : Nat) (v2 : Value) (xs2 : List Value), j ≤ 2 ∧ i = .int .i64 ((j : Int) + 1) ∧ v2 = out ∧ OutF W0 Af v2 xs2 (brJ W T bs m' L k j) wr) (fun _ i _ => 3 - (intOf i).toNat)
    case atStart => exact ⟨0, _, [], Nat.zero_le _, rfl, rfl, O2⟩
    case round =>
      clear O2 X2
      obtain ⟨j, v2, xs2, hj, rfl, rfl, O3⟩ := hrel
      by_cases hlt : j < 2
      · have hjI : (j : Int) + 1 ≤ 2 := by omega
        have X3 := X0.belo O3.ok
        have CL1 := Lib.hid (CLX.out k hkn ((j : Int) + 1) (by omega) (by omega) wr (hrW.belo O3.ok) (hrFW.belo O3.ok))
        have HBS := Lib.hid (brJ_s (W := W) (T := T) (bs := bs) (f := m') (L := L) (k := k) hlt)
        have HIH1 := Lib.hid (fun (hm : mayL W T bs L k ((j : Int) + 1) = true) => HIH.out m' rfl k ((j : Int) + 1) (by omega) (by omega) hm)
        have HBL := Lib.hid (brJ_len W T bs m' L k (j + 1))
        obtain ⟨x0, x1, x2⟩ := id X3
        go_wp2_with fail
        refine CL1.out.mono ?_
        rintro e w4 ⟨M, A4, c4, rfl, hMl, hMc, R4, hMe, b4, hA4⟩
        have O4 := O3.belo b4
        have X4 := X3.belo b4
        have HA4 := Lib.hid hA4
        clear x0 x1 x2 X3 CL1 hA4
        cases hmay : mayL W T bs L k ((j : Int) + 1) with
        | false =>
          have HB := Lib.hid (show brJ W T bs m' L k (j + 1) = brJ W T bs m' L k j by rw [HBS.out]; unfold brE; rw [hmay, if_neg Bool.false_ne_true, List.append_nil])
          clear hmay hMe
          go_wp2_with fail
          go_roundw
          case rel => exact ⟨j + 1, _, xs2, by omega, by go_num, rfl, by rw [HB.out]; exact O4⟩
          case measure => simp [intOf]; omega
        | true =>
          obtain rfl := hMe hmay
          have HB := Lib.hid (show brJ W T bs m' L k (j + 1) = brJ W T bs m' L k j ++ tlsF W T bs m' (layL W T L k ((j : Int) + 1)) by rw [HBS.out]; unfold brE; rw [hmay, if_pos rfl])
          have CA := Lib.hid (HIH1.out hmay w4 A4 c4 (hrW.belo O4.ok) R4 hMc)
          rw [HB.out, List.length_append] at HBL
          clear hmay hMe
          obtain ⟨x0, x1, x2⟩ := id X4
          go_wp2_with fail
          refine CA.out.mono ?_
          rintro e w5 ⟨A5, c5, xs5, rfl, hc5, hA5, R5, H5, T5, b5⟩
          have O5 := O4.belo b5
          have hx5 := H5.1
          have hx2 := O5.gr.hd.1
          have hsz : xs2.length + (tlsF W T bs m' (layL W T L k ((j : Int) + 1))).length ≤ 1000000000000 := by
            have := HBL.out
            rw [Nat.pow_succ] at hp36
            omega
          have HPT := Lib.hid (fun q (hq : AtL xs5 q) => show q < w5.heap.size ∧ v2.ownBlock ≠ some q ∧ ((∃ ad, Af = some ad ∧ ad.block = q) ∨ W0.heap.size ≤ q) from by
            obtain ⟨t1, t2⟩ := T5 q hq
            have hge : wr.heap.size ≤ q := by
              rcases t2 with ⟨ad, e1, e2⟩ | t2
              · have := HA4.out ad e1; omega
              · have := b4.size; omega
            refine ⟨t1, fun e => ?_, .inr (Nat.le_trans O3.ok.size hge)⟩
            have := (O3.gr.own.lt q e).2
            omega)
          clear x0 x1 x2 X4 CA T5 b5
          go_wp2_with (at_builtin; refine wpList_headsR _ rfl _ _ rfl W0.heap.size v2 xs2 rfl O5.gr.own A5 _ c5 xs5 rfl hx5 hA5 R5 H5.cell hsz O5.ok.size ?_; intro v6 w6 o6 g6 e6)
          have O6 := O5.app H5 HPT.out o6 g6 e6
          rw [← HB.out] at O6
          clear HPT O5
          go_roundw
          case rel => exact ⟨j + 1, _, _, by omega, by go_num, rfl, O6⟩
          case measure => simp [intOf]; omega
      · obtain rfl : j = 2 := by omega
        obtain ⟨A9, c9, rfl, hres⟩ := O3.res
        have HRS := Lib.hid (hres.lower HB0.out)
        clear hres
        go_wp2_with fail
        go_ret
        rw [HBR.out]
        exact HRS.out
end Go.Proofs.YtafmpgikdhlknaaGreat

/- Contracts: the reference's lowest and highest tiling. -/
namespace Go.Proofs.YtafmpgikdhlknaaGreat
open Go.RowKit

/-- the tilings of a region; none of other arguments -/
def tlsW (W T : Int) (bs : List Bool) : List (List Int) := if validB W T bs = true then tlsV W T bs else []
theorem tlsV_big {W T : Int} {bs : List Bool} (h : validB W T bs = true) : (tlsV W T bs).length ≤ 100000000000 := by
  obtain ⟨⟨w1, w6⟩, ⟨t1, t6⟩, hlen, -⟩ := validB_iff.1 h
  have h36 := mul_bd w1 w6 t1 t6
  have h1 := tlsF_len W T bs bs.length (List.replicate bs.length 0)
  have h2 : 2 ^ bs.length ≤ 2 ^ 36 := Nat.pow_le_pow_right (by omega) (by omega)
  unfold tlsV
  omega
theorem FsR.ll {fs : List (List Int)} {Af : Option Addr} {w w' : World} {e : Ending} (h : FsR fs Af w e w') : NewLL fs w e w' := by
  obtain ⟨A, c, xs, h1, h2, -, h4, h5, -, h7⟩ := h
  exact ⟨A, c, h1, h2, ⟨xs, h4, h5⟩, h7⟩
theorem NewLL.lower {fs : List (List Int)} {w0 w w' : World} {e : Ending} (h : NewLL fs w0 e w') (hb : Below w.heap.size w w0) : NewLL fs w e w' := by
  obtain ⟨A, c, h1, h2, h3, h4⟩ := h
  exact ⟨A, c, h1, h2, h3, bl_go hb h4⟩
/-- the tiling that is asked for, if there is one -/
def ExtS (W T : Int) (bs : List Bool) (n : Nat) (r : List Int) (w : World) (e : Ending) (w' : World) : Prop :=
  ((simpB W T bs = true ∧ tlsV W T bs ≠ []) ∧ ∃ (D : Option Addr) (d : Nat), e = .returned (.tuple #[.slice D n d, .bool true]) ∧ Rd w' D (r.map (.int .i64)) ∧ Below w.heap.size w w') ∨
  (¬ (simpB W T bs = true ∧ tlsV W T bs ≠ []) ∧ ∃ (D : Option Addr) (d : Nat), e = .returned (.tuple #[.slice D 0 d, .bool false]) ∧ Below w.heap.size w w')
theorem all_all {W T : Int} {n c : Nat} {bs : List Bool} {A : Option Addr} (hval : validB W T bs = true) (hn : bs.length = n) : ∀ m, m ≤ 36 → AllOk W T n c bs A m
  | 0, h => all_step hval hn h (fun m' e => by omega)
  | m + 1, h => all_step hval hn h (fun m' e => by obtain rfl : m = m' := by omega
                                                   exact all_all hval hn m (by omega))
set_option maxRecDepth 100000 in
set_option maxHeartbeats 2000000 in
theorem sTilingsAll_any (W T : Int) (A : Option Addr) (c n : Nat) (bs : List Bool) (w : World) (hr : Rd w A (bs.map .bool)) (hn : bs.length = n) (hm : n ≤ maxLen) :
    Calls Tryz.prog 69 #[.agg #[.int .i64 W, .int .i64 T, .slice A n c]] w (NewLL (tlsW W T bs) w) := by
  have X0 := C3.new w (.int .i64 W) (.int .i64 T) (.slice A n c) 25
  have B0 := bl_alloc (Below.refl w.heap.size w) (.cells #[.int .i64 W, .int .i64 T, .slice A n c] 25)
  have r0 := hr.belo B0
  have CV := Lib.hid (sRegionValid_any W T A c bs _ r0 (by omega))
  rw [hn] at CV
  obtain ⟨x0, x1, x2⟩ := id X0
  cases hv : validB W T bs with
  | false =>
    have HF := Lib.hid (show tlsW W T bs = [] by unfold tlsW; rw [hv]; rfl)
    rw [hv] at CV
    go_enter Tryz.func69, Tryz.ntmps69
    go_wp2_with fail
    refine CV.out.mono ?_
    rintro e w1 ⟨rfl, b1⟩
    have B1 := bl_go B0 b1
    clear x0 x1 x2
    go_wp2_with fail
    go_ret
    rw [HF.out]
    exact ⟨_, 0, rfl, Nat.le_refl _, ⟨[], Rd.nil _ _, HeadsI.nil _⟩, bl_alloc B1 _⟩
  | true =>
    obtain ⟨⟨w1, w6⟩, ⟨t1, t6⟩, hlen, -⟩ := validB_iff.1 hv
    have h36 := mul_bd w1 w6 t1 t6
    have CB := Lib.hid (fun (z : World) (R : Rd z A (bs.map .bool)) => sLaidBareW_any W T A c n bs z R hv hn)
    have CL := Lib.hid (fun (z : World) (g : Nat) (R : Rd z A (bs.map .bool)) (Q : Rd z (some ⟨g, 0, none⟩) ((List.replicate n 0).map (.int .i64))) => all_all (c := c) hv hn n (by omega) z (some ⟨g, 0, none⟩) n (List.replicate n 0) R Q (Nat.le_refl _) (by simp) (by rw [← hn]; exact lays_bare) (by have := (cnt_le (emF bs (List.replicate n 0))).2; rw [emF_len] at this; omega))
    have HF := Lib.hid (show tlsF W T bs n (List.replicate n 0) = tlsW W T bs by unfold tlsW; rw [if_pos hv]; unfold tlsV; rw [hn])
    rw [hv] at CV
    clear hv hlen h36 hn
    go_enter Tryz.func69, Tryz.ntmps69
    go_wp2_with fail
    refine CV.out.mono ?_
    rintro e w1 ⟨rfl, b1⟩
    have B1 := bl_go B0 b1
    have X1 := X0.belo b1
    have r1 := r0.belo b1
    clear x0 x1 x2 X0 r0 CV b1
    obtain ⟨x0, x1, x2⟩ := id X1
    have KS := Lib.hid (fun (z : World) (Z : Below w1.heap.size w1 z) => show z.cell? ⟨w.heap.size, 0, none⟩ = some (.int .i64 W) ∧ z.cell? ⟨w.heap.size, 1, none⟩ = some (.int .i64 T) ∧ z.cell? ⟨w.heap.size, 2, none⟩ = some (.slice A n c) from X1.belo Z)
    have Z0 : Below w1.heap.size w1 w1.drew := (Below.refl _ _).drew
    have HS0 := KS.out _ (Below.refl _ _)
    have D1 := Lib.hid (CB.out w1.drew (r1.belo Z0))
    have D2 := Lib.hid (fun (z : World) (Z : Below w1.heap.size w1 z) (g : Nat) (Q : Rd z (some ⟨g, 0, none⟩) ((List.replicate n 0).map (.int .i64))) => CL.out z g (r1.belo Z) Q)
    go_upto_region 3 with fail
    go_region_held3 (fun w' => w'.cell? ⟨w.heap.size, 0, none⟩ = some (.int .i64 W) ∧ w'.cell? ⟨w.heap.size, 1, none⟩ = some (.int .i64 T) ∧ w'.cell? ⟨w.heap.size, 2, none⟩ = some (.slice A n c))
      (first | (with_reducible exact KS.out _ Z4) | (with_reducible exact KS.out _ Z3) | (with_reducible exact KS.out _ Z0) | (with_reducible exact HS0) | go_keep)
      ((first
        | (go_at_call 85; (with_reducible refine D1.out.mono ?_); rintro e w3 ⟨g3, rfl, W3, hg3, hgs3, b3⟩; have Z3 := Z0.trans (b3.mono Z0.size); have R3 := W3.rd)
        | (go_at_call 104; (with_reducible refine (D2.out _ Z3 g3 R3).mono ?_); rintro e w4 h4; obtain ⟨A4, c4, rfl, h5, h6, b4⟩ := h4.ll; have Z4 := Z3.trans (b4.mono Z3.size))))
    have HRES := Lib.hid (show NewLL (tlsW W T bs) w (.returned (.slice A4 (tlsF W T bs n (List.replicate n 0)).length c4)) w4 from by rw [← HF.out]; exact ⟨A4, c4, rfl, h5, h6, bl_go B1 Z4⟩)
    clear x0 x1 x2 KS HS0 D1 D2 h6 CL
    go_wp2_with fail
    go_ret
    exact HRES.out
theorem foldLowest {W T : Int} {bs : List Bool} (hs : simpB W T bs = true) (hne : tlsV W T bs ≠ []) : foldS min W T bs ((tlsV W T bs).headD []) ((tlsV W T bs).drop 1) = lowT W T bs := by
  have hv := (simp_iff.1 hs).1
  have hall : ∀ t ∈ tlsV W T bs, tilingB W T bs t = true := fun t ht => (tlsV_mem hv).1 ht
  unfold lowT
  cases htl : tlsV W T bs with
  | nil => exact absurd htl hne
  | cons t ts =>
    rw [htl] at hall
    simp only [List.headD_cons, List.drop_succ_cons, List.drop_zero]
    rw [foldS_eq hs (fun a b ha hb => good_min hs ha hb) ts t (hall t (by simp)) (fun u hu => hall u (by simp [hu])), foldH_tail (fun x => by omega)]
set_option maxRecDepth 100000 in
set_option maxHeartbeats 4000000 in
theorem sLowest_any (W T : Int) (A : Option Addr) (c n : Nat) (bs : List Bool) (w : World) (hr : Rd w A (bs.map .bool)) (hn : bs.length = n) (hm : n ≤ maxLen) :
    Calls Tryz.prog 27 #[.agg #[.int .i64 W, .int .i64 T, .slice A n c]] w (ExtS W T bs n (lowT W T bs) w) := by
  have X0 := C3.new w (.int .i64 W) (.int .i64 T) (.slice A n c) 25
  have B0 := bl_alloc (Below.refl w.heap.size w) (.cells #[.int .i64 W, .int .i64 T, .slice A n c] 25)
  have r0 := hr.belo B0
  have CA := Lib.hid (sTilingsAll_any W T A c n bs _ r0 hn hm)
  have CS := Lib.hid (fun (z : World) (R : Rd z A (bs.map .bool)) => sSimple_any W T A c n bs z R hn hm)
  obtain ⟨x0, x1, x2⟩ := id X0
  cases hs : simpB W T bs with
  | false =>
    rw [hs] at CS
    have HF := Lib.hid (show ¬ (simpB W T bs = true ∧ tlsV W T bs ≠ []) from fun h => by rw [hs] at h; cases h.1)
    clear hs
    go_enter Tryz.func27, Tryz.ntmps27
    go_wp2_with fail
    generalize w.alloc (.cells #[.int .i64 W, .int .i64 T, .slice A n c] 25) = u at *
    refine CA.out.mono ?_
    rintro e w2 ⟨A2, c2, rfl, hc2, R2, b2⟩
    have X2 := X0.belo b2
    have B2 := bl_go B0 b2
    clear x0 x1 x2
    obtain ⟨x0, x1, x2⟩ := id X2
    generalize tlsW W T bs = tw at *
    go_wp2_with fail
    refine (CS.out _ (r0.belo b2)).mono ?_
    rintro e w3 ⟨rfl, b3⟩
    have B3 := bl_go B2 b3
    clear x0 x1 x2
    go_wp2_with fail
    go_ret2
    exact .inr ⟨HF.out, _, _, rfl, bl_alloc B3 _⟩
  | true =>
    have hval := (simp_iff.1 hs).1
    rw [hs] at CS
    have htw : tlsW W T bs = tlsV W T bs := by unfold tlsW; rw [if_pos hval]
    rw [htw] at CA
    have HALL := Lib.hid (fun (k : Nat) (hk : k < (tlsV W T bs).length) => show tilingB W T bs (tlsV W T bs)[k] = true from (tlsV_mem hval).1 (List.getElem_mem hk))
    have HLN := Lib.hid (fun (k : Nat) (hk : k < (tlsV W T bs).length) => show (tlsV W T bs)[k].length = n from by rw [(tiling_til (HALL.out k hk)).2.1]; exact hn)
    have HBIG := Lib.hid (show (tlsV W T bs).length ≤ 100000000000 from tlsV_big hval)
    have CT := Lib.hid (fun (L M : List Int) (hL : tilingB W T bs L = true) (hM : tilingB W T bs M = true) (z : World) (D E : Option Addr) (d e9 : Nat) (R : Rd z A (bs.map .bool)) (Q : Rd z D (L.map (.int .i64))) (Q2 : Rd z E (M.map (.int .i64))) => tilingLowS_any W T A D E c d e9 n bs L M z R Q Q2 hs hL hM hn)
    have HGO := Lib.hid (fun (L M : List Int) (hL : tilingB W T bs L = true) (hM : tilingB W T bs M = true) => show tilingB W T bs (tilH W T bs (pickL min (hgtV W T bs L) (hgtV W T bs M))) = true from tilH_til hs (good_min hs (hgtV_good hs hL) (hgtV_good hs hM)))
    have HFO := Lib.hid (fun (hne : tlsV W T bs ≠ []) => foldLowest hs hne)
    have HSB := Lib.hid hs
    clear hs hval htw hr
    go_enter Tryz.func27, Tryz.ntmps27
    go_wp2_with fail
    generalize w.alloc (.cells #[.int .i64 W, .int .i64 T, .slice A n c] 25) = u at *
    refine CA.out.mono ?_
    rintro e w2 ⟨A2, c2, rfl, hc2, R2, b2⟩
    have X2 := X0.belo b2
    have B2 := bl_go B0 b2
    have r2 := r0.belo b2
    clear x0 x1 x2 X0 r0 CA b2 B0
    obtain ⟨x0, x1, x2⟩ := id X2
    by_cases hne : tlsV W T bs = []
    · have HF := Lib.hid (show ¬ (simpB W T bs = true ∧ tlsV W T bs ≠ []) from fun h => h.2 hne)
      rw [hne]
      clear hne HFO
      go_wp2_with fail
      refine (CS.out _ r2).mono ?_
      rintro e w3 ⟨rfl, b3⟩
      have B3 := bl_go B2 b3
      clear x0 x1 x2
      go_wp2_with fail
      go_ret2
      exact .inr ⟨HF.out, _, _, rfl, bl_alloc B3 _⟩
    · have HNE := Lib.hid hne
      have HFO2 := Lib.hid (HFO.out hne)
      have hpos : 0 < (tlsV W T bs).length := List.length_pos_iff.2 hne
      have HHD := Lib.hid (show (tlsV W T bs).headD [] = (tlsV W T bs)[0] from by rw [List.headD_eq_head?_getD, List.head?_eq_getElem?, List.getElem?_eq_getElem hpos]; rfl)
      have hz : (((tlsV W T bs).length : Int) == 0) = false := by rw [beq_eq_false_iff_ne]; omega
      clear hne HFO
      go_wp2_with fail
      refine (CS.out _ r2).mono ?_
      rintro e w3 ⟨rfl, b3⟩
      have B3 := bl_go B2 b3
      have X3 := X2.belo b3
      have r3 := r2.belo b3
      have R3 := R2.belo b3
      clear x0 x1 x2 X2 r2 R2 b3 B2 CS
      obtain ⟨b0, o0, B00, c0, rfl, hc0, -, -, RB0⟩ := R3.at_ hpos
      rw [HLN.out 0 hpos] at hc0
      simp only [Nat.add_zero] at hc0
      have hposI : (0 : Int) < ((tlsV W T bs).length : Int) := by omega
      have H0 : Rd w3 B00 ((foldS min W T bs ((tlsV W T bs).headD []) (((tlsV W T bs).drop 1).take 0)).map (.int .i64)) := by rw [HHD.out]; exact RB0
      have H0T : tilingB W T bs (foldS min W T bs ((tlsV W T bs).headD []) (((tlsV W T bs).drop 1).take 0)) = true := by rw [HHD.out]; exact HALL.out 0 hpos
      have HST := Lib.hid (fun (q : Nat) (hq : 1 ≤ q) (hk : q < (tlsV W T bs).length) => show foldS min W T bs ((tlsV W T bs).headD []) (((tlsV W T bs).drop 1).take (q + 1 - 1)) = tilH W T bs (pickL min (hgtV W T bs (foldS min W T bs ((tlsV W T bs).headD []) (((tlsV W T bs).drop 1).take (q - 1)))) (hgtV W T bs (tlsV W T bs)[q])) from by
        obtain ⟨k, rfl⟩ : ∃ k, q = k + 1 := ⟨q - 1, by omega⟩
        rw [Nat.add_sub_cancel, Nat.add_sub_cancel]
        rw [take_one_more _ k (by rw [List.length_drop]; omega)]
        unfold foldS
        rw [List.foldl_append]
        have e : ((tlsV W T bs).drop 1)[k]'(by rw [List.length_drop]; omega) = (tlsV W T bs)[k + 1] := by rw [List.getElem_drop]; congr 1; omega
        rw [e]
        rfl)
      have HEND := Lib.hid (fun (k : Nat) (hk : (tlsV W T bs).length = k + 1) => show foldS min W T bs ((tlsV W T bs).headD []) (((tlsV W T bs).drop 1).take k) = lowT W T bs from by
        rw [List.take_of_length_le (by rw [List.length_drop]; omega)]; exact HFO2.out)
      have HFIN := Lib.hid (fun (D : Option Addr) (d : Nat) (z : World) (hz : Below w.heap.size w z) (R : Rd z D ((lowT W T bs).map (.int .i64))) => show ExtS W T bs n (lowT W T bs) w (.returned (.tuple #[.slice D n d, .bool true])) z from .inl ⟨⟨HSB.out, HNE.out⟩, D, d, rfl, R, hz⟩)
      generalize (tlsV W T bs).headD [] = hd at *
      generalize ExtS W T bs n (lowT W T bs) w = RES at *
      generalize lowT W T bs = VV at *
      generalize tlsV W T bs = ts at *
      clear HFO2 HHD HNE RB0
      go_wp2_with fail
      go_loopw [5, 6] (fun lo i wr => ∃ (k d : Nat) (D : Option Addr), 1 ≤ k ∧ k ≤ ts.length ∧ i = .int .i64 (k : Int) ∧ lo = .slice D n d ∧ Hid (tilingB W T bs (foldS min W T bs hd ((ts.drop 1).take (k - 1))) = true) ∧ Rd wr D ((foldS min W T bs hd ((ts.drop 1).take (k - 1))).map (.int .i64)) ∧ Below w3.heap.size w3 wr) (fun _ i _ => ts.length - (intOf i).toNat)
      case atStart => exact ⟨1, c0, B00, Nat.le_refl _, by omega, rfl, rfl, Lib.hid H0T, H0, Below.refl _ _⟩
      case round =>
        clear H0 H0T hc0
        obtain ⟨k, d, D, hk1, hk, rfl, rfl, HT0, RL, BR⟩ := hrel
        obtain ⟨wq, hwq⟩ : ∃ wq : World, wq = wr := ⟨_, rfl⟩
        subst hwq
        by_cases hlt : k < ts.length
        · have hkI : (k : Int) < (ts.length : Int) := by omega
          have hbig := HBIG.out
          have XR := X3.belo BR
          have rR := r3.belo BR
          obtain ⟨b1, o1, E, e9, e1, hc1, -, -, RE⟩ := (R3.belo BR).at_ hlt
          injection e1 with e1; injection e1 with e1 e1'
          subst e1; subst e1'
          rw [HLN.out k hlt] at hc1
          have HSTk := Lib.hid (HST.out k hk1 hlt)
          have HG := Lib.hid (HGO.out _ _ HT0.out (HALL.out k hlt))
          have hbl := World.block_lt_of_cell? _ _ hc1
          have KS := Lib.hid (fun (z : World) (Z : Below wq.heap.size wq z) => show (z.cell? ⟨w.heap.size, 0, none⟩ = some (.int .i64 W) ∧ z.cell? ⟨w.heap.size, 1, none⟩ = some (.int .i64 T) ∧ z.cell? ⟨w.heap.size, 2, none⟩ = some (.slice A n c)) ∧ z.cell? ⟨b0, o0 + k, none⟩ = some (.slice E n e9) from ⟨XR.belo Z, ((bcell Z).1 b0 _ hbl).trans hc1⟩)
          have Z0 : Below wq.heap.size wq wq.drew := (Below.refl _ _).drew
          have CTk := Lib.hid (CT.out _ _ HT0.out (HALL.out k hlt) wq.drew D E d e9 (rR.belo Z0) (RL.belo Z0) (RE.belo Z0))
          rw [← HSTk.out] at CTk HG
          have HS0 := KS.out _ (Below.refl _ _)
          obtain ⟨⟨x0, x1, x2⟩, x3⟩ := KS.out _ (Below.refl _ _)
          clear XR rR RL RE hc1 hbl
          go_upto_region 8 with fail
          go_region_held3 (fun w' => (w'.cell? ⟨w.heap.size, 0, none⟩ = some (.int .i64 W) ∧ w'.cell? ⟨w.heap.size, 1, none⟩ = some (.int .i64 T) ∧ w'.cell? ⟨w.heap.size, 2, none⟩ = some (.slice A n c)) ∧ w'.cell? ⟨b0, o0 + k, none⟩ = some (.slice E n e9))
            (first | (with_reducible exact KS.out _ Z4) | (with_reducible exact KS.out _ Z0) | (with_reducible exact HS0) | go_keep)
            ((go_at_call 70; (with_reducible refine CTk.out.mono ?_); rintro e w4 ⟨g4, rfl, W4, hg4, hgs4, b4⟩; have Z4 := Z0.trans (b4.mono Z0.size); have R4 := W4.rd))
          clear x0 x1 x2 x3 HS0 KS CTk W4
          go_wp2_with fail
          go_roundw
          case rel => exact ⟨k + 1, n, _, by omega, by omega, by go_num, rfl, HG, R4, bl_go BR Z4⟩
          case measure => simp [intOf]; omega
        · rw [HEND.out (k - 1) (by omega)] at RL
          have HRES := Lib.hid (HFIN.out D d wq (bl_go B3 BR) RL)
          have hkd : decide ((k : Int) < (ts.length : Int)) = false := decide_eq_false (by omega)
          go_wp2_with fail
          exact HRES.out
theorem foldHighest {W T : Int} {bs : List Bool} (hs : simpB W T bs = true) (hne : tlsV W T bs ≠ []) : foldS max W T bs ((tlsV W T bs).headD []) ((tlsV W T bs).drop 1) = highT W T bs := by
  have hv := (simp_iff.1 hs).1
  have hall : ∀ t ∈ tlsV W T bs, tilingB W T bs t = true := fun t ht => (tlsV_mem hv).1 ht
  unfold highT
  cases htl : tlsV W T bs with
  | nil => exact absurd htl hne
  | cons t ts =>
    rw [htl] at hall
    simp only [List.headD_cons, List.drop_succ_cons, List.drop_zero]
    rw [foldS_eq hs (fun a b ha hb => good_max hs ha hb) ts t (hall t (by simp)) (fun u hu => hall u (by simp [hu])), foldH_tail (fun x => by omega)]
set_option maxRecDepth 100000 in
set_option maxHeartbeats 4000000 in
theorem sHighest_any (W T : Int) (A : Option Addr) (c n : Nat) (bs : List Bool) (w : World) (hr : Rd w A (bs.map .bool)) (hn : bs.length = n) (hm : n ≤ maxLen) :
    Calls Tryz.prog 72 #[.agg #[.int .i64 W, .int .i64 T, .slice A n c]] w (ExtS W T bs n (highT W T bs) w) := by
  have X0 := C3.new w (.int .i64 W) (.int .i64 T) (.slice A n c) 25
  have B0 := bl_alloc (Below.refl w.heap.size w) (.cells #[.int .i64 W, .int .i64 T, .slice A n c] 25)
  have r0 := hr.belo B0
  have CA := Lib.hid (sTilingsAll_any W T A c n bs _ r0 hn hm)
  have CS := Lib.hid (fun (z : World) (R : Rd z A (bs.map .bool)) => sSimple_any W T A c n bs z R hn hm)
  obtain ⟨x0, x1, x2⟩ := id X0
  cases hs : simpB W T bs with
  | false =>
    rw [hs] at CS
    have HF := Lib.hid (show ¬ (simpB W T bs = true ∧ tlsV W T bs ≠ []) from fun h => by rw [hs] at h; cases h.1)
    clear hs
    go_enter Tryz.func72, Tryz.ntmps72
    go_wp2_with fail
    generalize w.alloc (.cells #[.int .i64 W, .int .i64 T, .slice A n c] 25) = u at *
    refine CA.out.mono ?_
    rintro e w2 ⟨A2, c2, rfl, hc2, R2, b2⟩
    have X2 := X0.belo b2
    have B2 := bl_go B0 b2
    clear x0 x1 x2
    obtain ⟨x0, x1, x2⟩ := id X2
    generalize tlsW W T bs = tw at *
    go_wp2_with fail
    refine (CS.out _ (r0.belo b2)).mono ?_
    rintro e w3 ⟨rfl, b3⟩
    have B3 := bl_go B2 b3
    clear x0 x1 x2
    go_wp2_with fail
    go_ret2
    exact .inr ⟨HF.out, _, _, rfl, bl_alloc B3 _⟩
  | true =>
    have hval := (simp_iff.1 hs).1
    rw [hs] at CS
    have htw : tlsW W T bs = tlsV W T bs := by unfold tlsW; rw [if_pos hval]
    rw [htw] at CA
    have HALL := Lib.hid (fun (k : Nat) (hk : k < (tlsV W T bs).length) => show tilingB W T bs (tlsV W T bs)[k] = true from (tlsV_mem hval).1 (List.getElem_mem hk))
    have HLN := Lib.hid (fun (k : Nat) (hk : k < (tlsV W T bs).length) => show (tlsV W T bs)[k].length = n from by rw [(tiling_til (HALL.out k hk)).2.1]; exact hn)
    have HBIG := Lib.hid (show (tlsV W T bs).length ≤ 100000000000 from tlsV_big hval)
    have CT := Lib.hid (fun (L M : List Int) (hL : tilingB W T bs L = true) (hM : tilingB W T bs M = true) (z : World) (D E : Option Addr) (d e9 : Nat) (R : Rd z A (bs.map .bool)) (Q : Rd z D (L.map (.int .i64))) (Q2 : Rd z E (M.map (.int .i64))) => tilingHighS_any W T A D E c d e9 n bs L M z R Q Q2 hs hL hM hn)
    have HGO := Lib.hid (fun (L M : List Int) (hL : tilingB W T bs L = true) (hM : tilingB W T bs M = true) => show tilingB W T bs (tilH W T bs (pickL max (hgtV W T bs L) (hgtV W T bs M))) = true from tilH_til hs (good_max hs (hgtV_good hs hL) (hgtV_good hs hM)))
    have HFO := Lib.hid (fun (hne : tlsV W T bs ≠ []) => foldHighest hs hne)
    have HSB := Lib.hid hs
    clear hs hval htw hr
    go_enter Tryz.func72, Tryz.ntmps72
    go_wp2_with fail
    generalize w.alloc (.cells #[.int .i64 W, .int .i64 T, .slice A n c] 25) = u at *
    refine CA.out.mono ?_
    rintro e w2 ⟨A2, c2, rfl, hc2, R2, b2⟩
    have X2 := X0.belo b2
    have B2 := bl_go B0 b2
    have r2 := r0.belo b2
    clear x0 x1 x2 X0 r0 CA b2 B0
    obtain ⟨x0, x1, x2⟩ := id X2
    by_cases hne : tlsV W T bs = []
    · have HF := Lib.hid (show ¬ (simpB W T bs = true ∧ tlsV W T bs ≠ []) from fun h => h.2 hne)
      rw [hne]
      clear hne HFO
      go_wp2_with fail
      refine (CS.out _ r2).mono ?_
      rintro e w3 ⟨rfl, b3⟩
      have B3 := bl_go B2 b3
      clear x0 x1 x2
      go_wp2_with fail
      go_ret2
      exact .inr ⟨HF.out, _, _, rfl, bl_alloc B3 _⟩
    · have HNE := Lib.hid hne
      have HFO2 := Lib.hid (HFO.out hne)
      have hpos : 0 < (tlsV W T bs).length := List.length_pos_iff.2 hne
      have HHD := Lib.hid (show (tlsV W T bs).headD [] = (tlsV W T bs)[0] from by rw [List.headD_eq_head?_getD, List.head?_eq_getElem?, List.getElem?_eq_getElem hpos]; rfl)
      have hz : (((tlsV W T bs).length : Int) == 0) = false := by rw [beq_eq_false_iff_ne]; omega
      clear hne HFO
      go_wp2_with fail
      refine (CS.out _ r2).mono ?_
      rintro e w3 ⟨rfl, b3⟩
      have B3 := bl_go B2 b3
      have X3 := X2.belo b3
      have r3 := r2.belo b3
      have R3 := R2.belo b3
      clear x0 x1 x2 X2 r2 R2 b3 B2 CS
      obtain ⟨b0, o0, B00, c0, rfl, hc0, -, -, RB0⟩ := R3.at_ hpos
      rw [HLN.out 0 hpos] at hc0
      simp only [Nat.add_zero] at hc0
      have hposI : (0 : Int) < ((tlsV W T bs).length : Int) := by omega
      have H0 : Rd w3 B00 ((foldS max W T bs ((tlsV W T bs).headD []) (((tlsV W T bs).drop 1).take 0)).map (.int .i64)) := by rw [HHD.out]; exact RB0
      have H0T : tilingB W T bs (foldS max W T bs ((tlsV W T bs).headD []) (((tlsV W T bs).drop 1).take 0)) = true := by rw [HHD.out]; exact HALL.out 0 hpos
      have HST := Lib.hid (fun (q : Nat) (hq : 1 ≤ q) (hk : q < (tlsV W T bs).length) => show foldS max W T bs ((tlsV W T bs).headD []) (((tlsV W T bs).drop 1).take (q + 1 - 1)) = tilH W T bs (pickL max (hgtV W T bs (foldS max W T bs ((tlsV W T bs).headD []) (((tlsV W T bs).drop 1).take (q - 1)))) (hgtV W T bs (tlsV W T bs)[q])) from by
        obtain ⟨k, rfl⟩ : ∃ k, q = k + 1 := ⟨q - 1, by omega⟩
        rw [Nat.add_sub_cancel, Nat.add_sub_cancel]
        rw [take_one_more _ k (by rw [List.length_drop]; omega)]
        unfold foldS
        rw [List.foldl_append]
        have e : ((tlsV W T bs).drop 1)[k]'(by rw [List.length_drop]; omega) = (tlsV W T bs)[k + 1] := by rw [List.getElem_drop]; congr 1; omega
        rw [e]
        rfl)
      have HEND := Lib.hid (fun (k : Nat) (hk : (tlsV W T bs).length = k + 1) => show foldS max W T bs ((tlsV W T bs).headD []) (((tlsV W T bs).drop 1).take k) = highT W T bs from by
        rw [List.take_of_length_le (by rw [List.length_drop]; omega)]; exact HFO2.out)
      have HFIN := Lib.hid (fun (D : Option Addr) (d : Nat) (z : World) (hz : Below w.heap.size w z) (R : Rd z D ((highT W T bs).map (.int .i64))) => show ExtS W T bs n (highT W T bs) w (.returned (.tuple #[.slice D n d, .bool true])) z from .inl ⟨⟨HSB.out, HNE.out⟩, D, d, rfl, R, hz⟩)
      generalize (tlsV W T bs).headD [] = hd at *
      generalize ExtS W T bs n (highT W T bs) w = RES at *
      generalize highT W T bs = VV at *
      generalize tlsV W T bs = ts at *
      clear HFO2 HHD HNE RB0
      go_wp2_with fail
      go_loopw [5, 6] (fun lo i wr => ∃ (k d : Nat) (D : Option Addr), 1 ≤ k ∧ k ≤ ts.length ∧ i = .int .i64 (k : Int) ∧ lo = .slice D n d ∧ Hid (tilingB W T bs (foldS max W T bs hd ((ts.drop 1).take (k - 1))) = true) ∧ Rd wr D ((foldS max W T bs hd ((ts.drop 1).take (k - 1))).map (.int .i64)) ∧ Below w3.heap.size w3 wr) (fun _ i _ => ts.length - (intOf i).toNat)
      case atStart => exact ⟨1, c0, B00, Nat.le_refl _, by omega, rfl, rfl, Lib.hid H0T, H0, Below.refl _ _⟩
      case round =>
        clear H0 H0T hc0
        obtain ⟨k, d, D, hk1, hk, rfl, rfl, HT0, RL, BR⟩ := hrel
        obtain ⟨wq, hwq⟩ : ∃ wq : World, wq = wr := ⟨_, rfl⟩
        subst hwq
        by_cases hlt : k < ts.length
        · have hkI : (k : Int) < (ts.length : Int) := by omega
          have hbig := HBIG.out
          have XR := X3.belo BR
          have rR := r3.belo BR
          obtain ⟨b1, o1, E, e9, e1, hc1, -, -, RE⟩ := (R3.belo BR).at_ hlt
          injection e1 with e1; injection e1 with e1 e1'
          subst e1; subst e1'
          rw [HLN.out k hlt] at hc1
          have HSTk := Lib.hid (HST.out k hk1 hlt)
          have HG := Lib.hid (HGO.out _ _ HT0.out (HALL.out k hlt))
          have hbl := World.block_lt_of_cell? _ _ hc1
          have KS := Lib.hid (fun (z : World) (Z : Below wq.heap.size wq z) => show (z.cell? ⟨w.heap.size, 0, none⟩ = some (.int .i64 W) ∧ z.cell? ⟨w.heap.size, 1, none⟩ = some (.int .i64 T) ∧ z.cell? ⟨w.heap.size, 2, none⟩ = some (.slice A n c)) ∧ z.cell? ⟨b0, o0 + k, none⟩ = some (.slice E n e9) from ⟨XR.belo Z, ((bcell Z).1 b0 _ hbl).trans hc1⟩)
          have Z0 : Below wq.heap.size wq wq.drew := (Below.refl _ _).drew
          have CTk := Lib.hid (CT.out _ _ HT0.out (HALL.out k hlt) wq.drew D E d e9 (rR.belo Z0) (RL.belo Z0) (RE.belo Z0))
          rw [← HSTk.out] at CTk HG
          have HS0 := KS.out _ (Below.refl _ _)
          obtain ⟨⟨x0, x1, x2⟩, x3⟩ := KS.out _ (Below.refl _ _)
          clear XR rR RL RE hc1 hbl
          go_upto_region 8 with fail
          go_region_held3 (fun w' => (w'.cell? ⟨w.heap.size, 0, none⟩ = some (.int .i64 W) ∧ w'.cell? ⟨w.heap.size, 1, none⟩ = some (.int .i64 T) ∧ w'.cell? ⟨w.heap.size, 2, none⟩ = some (.slice A n c)) ∧ w'.cell? ⟨b0, o0 + k, none⟩ = some (.slice E n e9))
            (first | (with_reducible exact KS.out _ Z4) | (with_reducible exact KS.out _ Z0) | (with_reducible exact HS0) | go_keep)
            ((go_at_call 107; (with_reducible refine CTk.out.mono ?_); rintro e w4 ⟨g4, rfl, W4, hg4, hgs4, b4⟩; have Z4 := Z0.trans (b4.mono Z0.size); have R4 := W4.rd))
          clear x0 x1 x2 x3 HS0 KS CTk W4
          go_wp2_with fail
          go_roundw
          case rel => exact ⟨k + 1, n, _, by omega, by omega, by go_num, rfl, HG, R4, bl_go BR Z4⟩
          case measure => simp [intOf]; omega
        · rw [HEND.out (k - 1) (by omega)] at RL
          have HRES := Lib.hid (HFIN.out D d wq (bl_go B3 BR) RL)
          have hkd : decide ((k : Int) < (ts.length : Int)) = false := decide_eq_false (by omega)
          go_wp2_with fail
          exact HRES.out
end Go.Proofs.YtafmpgikdhlknaaGreat

/- Contracts: the reference's Coupled and FromPast. -/
namespace Go.Proofs.YtafmpgikdhlknaaGreat
open Go.RowKit

theorem coup_ne {W T : Int} {bs : List Bool} {ps : List Pu} (h : ¬ (simpB W T bs = true ∧ tlsV W T bs ≠ [])) : coupB W T bs ps = false := by
  rw [Bool.eq_false_iff]
  intro hc
  obtain ⟨h1, h2, -⟩ := coup_iff.1 hc
  exact h ⟨(psv_iff.1 h1).1, h2⟩
theorem from_ne {W T : Int} {bs : List Bool} {ps : List Pu} (h : ¬ (simpB W T bs = true ∧ tlsV W T bs ≠ [])) : fromV W T bs ps = ([], 0, false) := by
  cases hp : psvB W T bs ps with
  | false => exact from_no hp
  | true => exact from_none hp (fun j _ => coup_ne h)
set_option maxRecDepth 100000 in
set_option maxHeartbeats 4000000 in
theorem sCoupled_any (W T : Int) (A P : Option Addr) (c cp n m : Nat) (bs : List Bool) (ps : List Pu) (w : World) (hr : Rd w A (bs.map .bool)) (hp : RdP w P ps) (hn : bs.length = n) (hnm : n ≤ maxLen) (hm : ps.length = m) (hmm : m ≤ maxLen) :
    Calls Tryz.prog 29 #[.agg #[.int .i64 W, .int .i64 T, .slice A n c], .slice P m cp] w fun e w' => e = .returned (.bool (coupB W T bs ps)) ∧ Below w.heap.size w w' := by
  have X0 := C3.new w (.int .i64 W) (.int .i64 T) (.slice A n c) 25
  have B0 := bl_alloc (Below.refl w.heap.size w) (.cells #[.int .i64 W, .int .i64 T, .slice A n c] 25)
  have r0 := hr.belo B0
  have p0 := hp.belo B0
  have CL := Lib.hid (sLowest_any W T A c n bs _ r0 hn hnm)
  have CH := Lib.hid (fun (z : World) (R : Rd z A (bs.map .bool)) => sHighest_any W T A c n bs z R hn hnm)
  have CV := Lib.hid (fun (z : World) (R : Rd z A (bs.map .bool)) (Q : RdP z P ps) => sPushesValid_any W T A P c cp n m bs ps z R Q hn hnm hm hmm)
  obtain ⟨x0, x1, x2⟩ := id X0
  go_enter Tryz.func29, Tryz.ntmps29
  go_wp2_with fail
  generalize w.alloc (.cells #[.int .i64 W, .int .i64 T, .slice A n c] 25) = u at *
  refine CL.out.mono ?_
  rintro e w2 (⟨hyes, D2, d2, rfl, L2, b2⟩ | ⟨hno, D2, d2, rfl, b2⟩)
  · have X2 := X0.belo b2
    have r2 := r0.belo b2
    have p2 := p0.belo b2
    have B2 := bl_go B0 b2
    have HYES := Lib.hid hyes
    clear x0 x1 x2 X0 r0 p0 B0 b2 CL hyes
    obtain ⟨x0, x1, x2⟩ := id X2
    go_wp2_with fail
    refine (CH.out _ r2).mono ?_
    rintro e w3 (⟨-, D3, d3, rfl, L3, b3⟩ | ⟨hno, -⟩)
    · have X3 := X2.belo b3
      have r3 := r2.belo b3
      have p3 := p2.belo b3
      have B3 := bl_go B2 b3
      have L2' := L2.belo b3
      clear x0 x1 x2 X2 r2 p2 B2 b3 CH L2
      obtain ⟨x0, x1, x2⟩ := id X3
      cases hv : psvB W T bs ps with
      | false =>
        have HF := Lib.hid (coup_no hv)
        rw [hv] at CV
        go_wp2_with fail
        refine (CV.out _ r3 p3).mono ?_
        rintro e w4 ⟨rfl, b4⟩
        clear x0 x1 x2
        go_wp2_with fail
        go_ret
        exact ⟨ret_b HF.out.symm, bl_go B3 b4⟩
      | true =>
        obtain ⟨hl1, hl2, -⟩ := low_hgt HYES.out.1 HYES.out.2
        have HCP := Lib.hid (show decide (runL W T (lowT W T bs) (psN ps) = runL W T (highT W T bs) (psN ps)) = coupB W T bs ps from by
          unfold coupB meetB runLow runHigh
          rw [hv, decide_eq_true HYES.out.2]; rfl)
        have n36 : n ≤ 36 := by
          obtain ⟨⟨w1, w6⟩, ⟨t1, t6⟩, hlen, -⟩ := validB_iff.1 (simp_iff.1 HYES.out.1).1
          have := (mul_bd w1 w6 t1 t6).2
          omega
        have C1 := Lib.hid (fun (z : World) (R : Rd z A (bs.map .bool)) (Q : Rd z D2 ((lowT W T bs).map (.int .i64))) (Q2 : RdP z P ps) => pushRunS_any W T A D2 P c d2 n m cp bs (lowT W T bs) ps z R Q Q2 hv hl1 hn hm)
        have C2 := Lib.hid (fun (z : World) (R : Rd z A (bs.map .bool)) (Q : Rd z D3 ((highT W T bs).map (.int .i64))) (Q2 : RdP z P ps) => pushRunS_any W T A D3 P c d3 n m cp bs (highT W T bs) ps z R Q Q2 hv hl2 hn hm)
        have C4 := Lib.hid (fun (z : World) (E F : Option Addr) (e1 f1 : Nat) (Q : Rd z E ((runL W T (lowT W T bs) (psN ps)).map (.int .i64))) (Q2 : Rd z F ((runL W T (highT W T bs) (psN ps)).map (.int .i64))) => same6_any E F e1 f1 n _ _ z Q Q2 (by omega) (by rw [(tiling_til (run_til HYES.out.1 (psN ps) _ hl1)).2.1]; exact hn) (by rw [(tiling_til (run_til HYES.out.1 (psN ps) _ hl2)).2.1]; exact hn))
        rw [HCP.out] at C4
        rw [hv] at CV
        clear hv hl1 hl2 HCP
        go_wp2_with fail
        refine (CV.out _ r3 p3).mono ?_
        rintro e w4 ⟨rfl, b4⟩
        have X4 := X3.belo b4
        have r4 := r3.belo b4
        have p4 := p3.belo b4
        have L4 := L2'.belo b4
        have H4 := L3.belo b4
        have B4 := bl_go B3 b4
        clear x0 x1 x2 X3 r3 p3 L2' L3 B3 b4 CV
        obtain ⟨x0, x1, x2⟩ := id X4
        have KS := Lib.hid (fun (z : World) (Z : Below w4.heap.size w4 z) => show z.cell? ⟨w.heap.size, 0, none⟩ = some (.int .i64 W) ∧ z.cell? ⟨w.heap.size, 1, none⟩ = some (.int .i64 T) ∧ z.cell? ⟨w.heap.size, 2, none⟩ = some (.slice A n c) from X4.belo Z)
        have Z0 : Below w4.heap.size w4 w4.drew := (Below.refl _ _).drew
        have HS0 := KS.out _ (Below.refl _ _)
        have D1' := Lib.hid (fun (z : World) (Z : Below w4.heap.size w4 z) => C1.out z (r4.belo Z) (L4.belo Z) (p4.belo Z))
        have D2' := Lib.hid (fun (z : World) (Z : Below w4.heap.size w4 z) => C2.out z (r4.belo Z) (H4.belo Z) (p4.belo Z))
        clear C1 C2 X4 r4 p4 L4 H4
        go_upto_region 5 with fail
        go_region_held3 (fun w' => w'.cell? ⟨w.heap.size, 0, none⟩ = some (.int .i64 W) ∧ w'.cell? ⟨w.heap.size, 1, none⟩ = some (.int .i64 T) ∧ w'.cell? ⟨w.heap.size, 2, none⟩ = some (.slice A n c))
          (first | (with_reducible exact KS.out _ Z7) | (with_reducible exact KS.out _ Z6) | (with_reducible exact KS.out _ Z5) | (with_reducible exact KS.out _ Z0) | (with_reducible exact HS0) | go_keep)
          ((first
            | (go_at_call 30; first
              | ((with_reducible refine (D1'.out _ Z0).mono ?_); rintro e w5 ⟨E5, e5, rfl, R5, b5⟩; have Z5 := Z0.trans (b5.mono Z0.size))
              | ((with_reducible refine (D2'.out _ Z5).mono ?_); rintro e w6 ⟨E6, e6, rfl, R6, b6⟩; have Z6 := Z5.trans (b6.mono Z5.size); have Q6 := R5.belo b6))
            | (go_at_call 73; (with_reducible refine (C4.out _ E5 E6 e5 e6 Q6 R6).mono ?_); rintro e w7 ⟨rfl, b7⟩; have Z7 := Z6.trans (b7.mono Z6.size))))
        have BF := bl_go B4 Z7
        clear x0 x1 x2 KS HS0 D1' D2' C4 R5 R6 Q6
        go_wp2_with fail
        go_ret
        exact ⟨rfl, BF⟩
    · exact absurd HYES.out hno
  · have HF := Lib.hid (coup_ne (ps := ps) hno)
    have X2 := X0.belo b2
    have r2 := r0.belo b2
    have B2 := bl_go B0 b2
    have HNO := Lib.hid hno
    clear x0 x1 x2 X0 r0 p0 B0 b2 CL hno
    obtain ⟨x0, x1, x2⟩ := id X2
    go_wp2_with fail
    refine (CH.out _ r2).mono ?_
    rintro e w3 (⟨hy, -⟩ | ⟨-, D3, d3, rfl, b3⟩)
    · exact absurd hy HNO.out
    · clear x0 x1 x2
      go_wp2_with fail
      go_ret
      exact ⟨ret_b HF.out.symm, bl_go B2 b3⟩
/-- what FromPast returns, to be read -/
def FpS (n : Nat) (V : List Int × Int × Bool) (w : World) (e : Ending) (w' : World) : Prop :=
  Below w.heap.size w w' ∧ ((V.2.2 = true ∧ ∃ (D : Option Addr) (d : Nat), e = .returned (.tuple #[.slice D n d, .int .i64 V.2.1, .bool true]) ∧ Rd w' D (V.1.map (.int .i64)) ∧ V.1.length = n) ∨
    (V = ([], 0, false) ∧ ∃ (D : Option Addr) (d : Nat), e = .returned (.tuple #[.slice D 0 d, .int .i64 0, .bool false])))
set_option maxRecDepth 100000 in
set_option maxHeartbeats 8000000 in
theorem sFromPast_any (W T : Int) (A P : Option Addr) (c cp n m : Nat) (bs : List Bool) (ps : List Pu) (w : World) (hr : Rd w A (bs.map .bool)) (hp : RdP w P ps) (hn : bs.length = n) (hnm : n ≤ maxLen) (hm : ps.length = m) (hmm : m ≤ maxLen) (hcp : m ≤ cp) :
    Calls Tryz.prog 7 #[.agg #[.int .i64 W, .int .i64 T, .slice A n c], .slice P m cp] w (FpS n (fromV W T bs ps) w) := by
  have X0 := C3.new w (.int .i64 W) (.int .i64 T) (.slice A n c) 25
  have B0 := bl_alloc (Below.refl w.heap.size w) (.cells #[.int .i64 W, .int .i64 T, .slice A n c] 25)
  have r0 := hr.belo B0
  have p0 := hp.belo B0
  have CL := Lib.hid (sLowest_any W T A c n bs _ r0 hn hnm)
  have CV := Lib.hid (fun (z : World) (R : Rd z A (bs.map .bool)) (Q : RdP z P ps) => sPushesValid_any W T A P c cp n m bs ps z R Q hn hnm hm hmm)
  obtain ⟨x0, x1, x2⟩ := id X0
  go_enter Tryz.func7, Tryz.ntmps7
  go_wp2_with fail
  generalize w.alloc (.cells #[.int .i64 W, .int .i64 T, .slice A n c] 25) = u at *
  refine CL.out.mono ?_
  rintro e w2 (⟨hyes, D2, d2, rfl, L2, b2⟩ | ⟨hno, D2, d2, rfl, b2⟩)
  · have X2 := X0.belo b2
    have r2 := r0.belo b2
    have p2 := p0.belo b2
    have B2 := bl_go B0 b2
    have HYES := Lib.hid hyes
    clear x0 x1 x2 X0 r0 p0 B0 b2 CL hyes
    obtain ⟨x0, x1, x2⟩ := id X2
    cases hv : psvB W T bs ps with
    | false =>
      have HF := Lib.hid (from_no hv)
      rw [hv] at CV
      clear hv
      go_wp2_with fail
      refine (CV.out _ r2 p2).mono ?_
      rintro e w4 ⟨rfl, b4⟩
      have B4 := bl_go B2 b4
      clear x0 x1 x2
      go_wp2_with fail
      refine bodyPost_ret (v := .tuple #[.slice (some ⟨w4.heap.size, 0, none⟩) 0 0, .int .i64 0, .bool false]) (by simp [results, Tryz.results7, go_sem]) rfl ⟨bl_alloc B4 _, .inr ⟨HF.out, _, _, rfl⟩⟩
    | true =>
      obtain ⟨hl1, hl2, -⟩ := low_hgt HYES.out.1 HYES.out.2
      obtain ⟨hs, h128, -⟩ := psv_iff.1 hv
      have hm128 : m ≤ 128 := by omega
      have CC := Lib.hid (fun (z : World) (k : Nat) (R : Rd z A (bs.map .bool)) (Q : RdP z P ps) (hk : k ≤ m) => sCoupled_any W T A (if cp = m - k then P else Option.map (fun x : Addr => x.add ((m - k) * 2)) P) c (cp - (m - k)) n (m - (m - k)) bs (sufP ps k) z R (Q.suf hm hk hcp) hn hnm (by rw [suf_len (by omega)]; omega) (by unfold maxLen; omega))
      have CR := Lib.hid (fun (z : World) (k : Nat) (R : Rd z A (bs.map .bool)) (Q1 : Rd z D2 ((lowT W T bs).map (.int .i64))) (Q : RdP z P ps) (hk : k ≤ m) => pushRunS_any W T A D2 (if cp = m - k then P else Option.map (fun x : Addr => x.add ((m - k) * 2)) P) c d2 n (m - (m - k)) (cp - (m - k)) bs (lowT W T bs) (sufP ps k) z R Q1 (Q.suf hm hk hcp) (psv_suf hv k) hl1 hn (by rw [suf_len (by omega)]; omega))
      have HSOME := Lib.hid (fun (k : Nat) (hk : k ≤ m) (h0 : ∀ j, j < k → coupB W T bs (sufP ps j) = false) (h1 : coupB W T bs (sufP ps k) = true) => from_some hv (by omega) h0 h1)
      have HNONE := Lib.hid (fun (h0 : ∀ j, j ≤ m → coupB W T bs (sufP ps j) = false) => from_none hv (by rw [hm]; exact h0))
      have HRL := Lib.hid (fun (k : Nat) => show (runL W T (lowT W T bs) (psN (sufP ps k))).length = n from by
        rw [(tiling_til (run_til hs (psN (sufP ps k)) _ hl1)).2.1]; exact hn)
      rw [hv] at CV
      have HM := Lib.hid hm
      clear hv hs h128 hm hl1 hl2
      go_wp2_with fail
      refine (CV.out _ r2 p2).mono ?_
      rintro e w4 ⟨rfl, b4⟩
      have X4 := X2.belo b4
      have r4 := r2.belo b4
      have p4 := p2.belo b4
      have L4 := L2.belo b4
      have B4 := bl_go B2 b4
      clear x0 x1 x2 X2 r2 p2 L2 B2 b4 CV
      go_wp2_with fail
      go_loopw [9] (fun i wr => ∃ k : Nat, k ≤ m + 1 ∧ i = .int .i64 k ∧ Hid (∀ j, j < k → coupB W T bs (sufP ps j) = false) ∧ Below w4.heap.size w4 wr) (fun i _ => m + 1 - (intOf i).toNat)
      case atStart => exact ⟨0, Nat.zero_le _, rfl, fun j h => by omega, Below.refl _ _⟩
      case round =>
        obtain ⟨k, hk, rfl, HK, BR⟩ := hrel
        by_cases hlt : k ≤ m
        · obtain ⟨wq, hwq⟩ : ∃ wq : World, wq = wr := ⟨_, rfl⟩
          subst hwq
          have hlI : (k : Int) ≤ (m : Int) := by omega
          have XR := X4.belo BR
          have RR := r4.belo BR
          have PR := p4.belo BR
          have LR := L4.belo BR
          have hks : IntKind.i64.wrap ((m : Int) - (k : Int)) = ((m - k : Nat) : Int) := by rw [Int.ofNat_sub hlt]; exact IntWalk.i64_in _ (by omega)
          obtain ⟨x0, x1, x2⟩ := id XR
          have Z0 : Below wq.heap.size wq wq.drew := (Below.refl _ _).drew
          have KS := Lib.hid (fun (z : World) (Z : Below wq.heap.size wq z) => show z.cell? ⟨w.heap.size, 0, none⟩ = some (.int .i64 W) ∧ z.cell? ⟨w.heap.size, 1, none⟩ = some (.int .i64 T) ∧ z.cell? ⟨w.heap.size, 2, none⟩ = some (.slice A n c) from XR.belo Z)
          have HS0 := KS.out _ (Below.refl _ _)
          have CK := Lib.hid (CC.out wq.drew k (RR.belo Z0) (PR.belo Z0) hlt)
          have CRK := Lib.hid (fun (z : World) (Z : Below wq.heap.size wq z) => CR.out z k (RR.belo Z) (LR.belo Z) (PR.belo Z) hlt)
          have hkI2 : ((m - k : Nat) : Int) ≤ (m : Int) := by omega
          have hkI3 : ((m - k : Nat) : Int) ≤ (cp : Int) := by omega
          go_upto_region 7 with fail
          by_cases hce : cp = m - k
          · have hz : cp - (m - k) = 0 := by omega
            rw [if_pos hce, hz] at CK CRK
            have hce' : (cp = m - k) = True := eq_true hce
            clear hce
            go_region_held3 (fun w' => w'.cell? ⟨w.heap.size, 0, none⟩ = some (.int .i64 W) ∧ w'.cell? ⟨w.heap.size, 1, none⟩ = some (.int .i64 T) ∧ w'.cell? ⟨w.heap.size, 2, none⟩ = some (.slice A n c))
              (first | (with_reducible exact KS.out _ Z5) | (with_reducible exact KS.out _ Z0) | (with_reducible exact HS0) | go_keep)
              ((go_at_call 29; (with_reducible refine CK.out.mono ?_); rintro e w5 ⟨rfl, b5⟩; have Z5 := Z0.trans (b5.mono Z0.size)))
            cases hb : coupB W T bs (sufP ps k) with
            | true =>
              have HFV := Lib.hid (HSOME.out k hlt HK.out hb)
              have HS5 := KS.out _ Z5
              have Z6 : Below wq.heap.size wq w5.drew := Z5.drew
              clear x0 x1 x2 CK hb
              obtain ⟨x0, x1, x2⟩ := KS.out _ Z5
              go_upto_region 8 with fail
              go_region_held3 (fun w' => w'.cell? ⟨w.heap.size, 0, none⟩ = some (.int .i64 W) ∧ w'.cell? ⟨w.heap.size, 1, none⟩ = some (.int .i64 T) ∧ w'.cell? ⟨w.heap.size, 2, none⟩ = some (.slice A n c))
                (first | (with_reducible exact KS.out _ Z7) | (with_reducible exact KS.out _ Z6) | (with_reducible exact KS.out _ Z5) | (with_reducible exact HS5) | go_keep)
                ((go_at_call 30; (with_reducible refine (CRK.out _ Z6).mono ?_); rintro e w7 ⟨E7, e7, rfl, R7, b7⟩; have Z7 := Z6.trans (b7.mono Z6.size)))
              have HRES := Lib.hid (show FpS n (fromV W T bs ps) w (.returned (.tuple #[.slice E7 n e7, .int .i64 (k : Int), .bool true])) w7 from by
                rw [HFV.out]
                exact ⟨bl_go (bl_go B4 BR) Z7, .inl ⟨rfl, E7, e7, rfl, R7, HRL.out k⟩⟩)
              clear x0 x1 x2 HS0 HS5 KS CRK R7
              go_wp2_with fail
              refine bodyPost_ret (v := .tuple #[.slice E7 n e7, .int .i64 (k : Int), .bool true]) (by simp [results, Tryz.results7, go_sem]) rfl HRES.out
            | false =>
              have HB := Lib.hid hb
              clear x0 x1 x2 HS0 KS CK CRK hb
              go_wp2_with fail
              go_roundw
              case rel => exact ⟨k + 1, by omega, by go_num, fun j hj => by
                rcases Nat.lt_or_ge j k with h | h
                · exact HK.out j h
                · obtain rfl : j = k := by omega
                  exact HB.out, bl_go BR Z5⟩
              case measure => simp [intOf]; omega
          · rw [if_neg hce] at CK CRK
            go_region_held3 (fun w' => w'.cell? ⟨w.heap.size, 0, none⟩ = some (.int .i64 W) ∧ w'.cell? ⟨w.heap.size, 1, none⟩ = some (.int .i64 T) ∧ w'.cell? ⟨w.heap.size, 2, none⟩ = some (.slice A n c))
              (first | (with_reducible exact KS.out _ Z5) | (with_reducible exact KS.out _ Z0) | (with_reducible exact HS0) | go_keep)
              ((go_at_call 29; (with_reducible refine CK.out.mono ?_); rintro e w5 ⟨rfl, b5⟩; have Z5 := Z0.trans (b5.mono Z0.size)))
            cases hb : coupB W T bs (sufP ps k) with
            | true =>
              have HFV := Lib.hid (HSOME.out k hlt HK.out hb)
              have HS5 := KS.out _ Z5
              have Z6 : Below wq.heap.size wq w5.drew := Z5.drew
              clear x0 x1 x2 CK hb
              obtain ⟨x0, x1, x2⟩ := KS.out _ Z5
              go_upto_region 8 with fail
              go_region_held3 (fun w' => w'.cell? ⟨w.heap.size, 0, none⟩ = some (.int .i64 W) ∧ w'.cell? ⟨w.heap.size, 1, none⟩ = some (.int .i64 T) ∧ w'.cell? ⟨w.heap.size, 2, none⟩ = some (.slice A n c))
                (first | (with_reducible exact KS.out _ Z7) | (with_reducible exact KS.out _ Z6) | (with_reducible exact KS.out _ Z5) | (with_reducible exact HS5) | go_keep)
                ((go_at_call 30; (with_reducible refine (CRK.out _ Z6).mono ?_); rintro e w7 ⟨E7, e7, rfl, R7, b7⟩; have Z7 := Z6.trans (b7.mono Z6.size)))
              have HRES := Lib.hid (show FpS n (fromV W T bs ps) w (.returned (.tuple #[.slice E7 n e7, .int .i64 (k : Int), .bool true])) w7 from by
                rw [HFV.out]
                exact ⟨bl_go (bl_go B4 BR) Z7, .inl ⟨rfl, E7, e7, rfl, R7, HRL.out k⟩⟩)
              clear x0 x1 x2 HS0 HS5 KS CRK R7
              go_wp2_with fail
              refine bodyPost_ret (v := .tuple #[.slice E7 n e7, .int .i64 (k : Int), .bool true]) (by simp [results, Tryz.results7, go_sem]) rfl HRES.out
            | false =>
              have HB := Lib.hid hb
              clear x0 x1 x2 HS0 KS CK CRK hb
              go_wp2_with fail
              go_roundw
              case rel => exact ⟨k + 1, by omega, by go_num, fun j hj => by
                rcases Nat.lt_or_ge j k with h | h
                · exact HK.out j h
                · obtain rfl : j = k := by omega
                  exact HB.out, bl_go BR Z5⟩
              case measure => simp [intOf]; omega
        · have HRES := Lib.hid (show FpS n (fromV W T bs ps) w (.returned (.tuple #[.slice (some ⟨wr.heap.size, 0, none⟩) 0 0, .int .i64 0, .bool false])) (wr.alloc (.cells #[] 3)) from
            ⟨bl_alloc (bl_go B4 BR) _, .inr ⟨HNONE.out (fun j hj => HK.out j (by omega)), _, _, rfl⟩⟩)
          go_wp2_with fail
          refine bodyPost_ret (v := .tuple #[.slice (some ⟨wr.heap.size, 0, none⟩) 0 0, .int .i64 0, .bool false]) (by simp [results, Tryz.results7, go_sem]) rfl HRES.out
  · have HF := Lib.hid (from_ne (ps := ps) hno)
    have B2 := bl_go B0 b2
    clear x0 x1 x2 hno
    go_wp2_with fail
    refine bodyPost_ret (v := .tuple #[.slice (some ⟨w2.heap.size, 0, none⟩) 0 0, .int .i64 0, .bool false]) (by simp [results, Tryz.results7, go_sem]) rfl ⟨bl_alloc B2 _, .inr ⟨HF.out, _, _, rfl⟩⟩
end Go.Proofs.YtafmpgikdhlknaaGreat
