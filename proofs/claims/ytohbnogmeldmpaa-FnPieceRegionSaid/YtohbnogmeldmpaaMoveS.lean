
/- Contracts: the reference's moved pieces. -/
import Derived.Test.YtohbnogmeldmpaaMoveN
import Derived.Test.YtohbnogmeldmpaaCellMark
import Derived.Test.YtohbnogmeldmpaaPieceS
import Derived.Deep.RegionLaw
namespace Go.Proofs.Ytohbnogmeldmpaa
open Go.RowKit Go.Sort

section
variable {ops : Array Oper} {o : Oper} {a : Act} {Q : Exit → Act → World → Prop}
theorem step_app_cell {K : Act → World → Prop} {E : Prop} (W : World) (hgd : o.guard = none) (s x : Operand) (ho : o.op = .call { callee := .builtin .append, args := #[s, x], argTypes := #[23, 23] })
    (base : Nat) (v : Value) (ps : List Ce) (hs : a.eval s = v) (hown : OwnC W base v ps) (q1 q2 : Int) (H : Nat) (hx : a.eval x = .slice (some ⟨H, 0, none⟩) 1 1) (hc : W.cell? ⟨H, 0, none⟩ = some (.int .i64 q1)) (hd : W.cell? ⟨H, 1, none⟩ = some (.int .i64 q2)) (hn : ps.length ≤ 1000000000000) (hbase : base ≤ W.heap.size)
    (h : ∀ (g c' : Nat) (w' : World), OwnC w' base (.slice (some ⟨g, 0, none⟩) (ps.length + 1) c') (ps ++ [(q1, q2)]) → W.grownBy w' v.ownBlock → (v.ownBlock = some g ∨ g = W.heap.size) → K (a.put o.dst (.slice (some ⟨g, 0, none⟩) (ps.length + 1) c')) w') :
    if Region.wanted o (yielded ops a.tmps) = true then Oper.wp Try.prog o a W K Q else E := by
  obtain ⟨i0, hi, hz0, hz1, hz2⟩ := info_parts Try.infoC
  obtain ⟨A, c, e, hown⟩ := hown
  refine step_append_lies _ hgd s x 23 ho base 42 i0 _ 2 16 Try.underlying23 hi hz0 hz1 hz2 rfl (by decide) v _ _ hs hown ⟨H, 0, none⟩ 1 1 [.int .i64 q1, .int .i64 q2] hx rfl ?_ ?_ (by decide) ?_ ?_ ?_ _ rfl ?_
  · intro j y hj
    match j, hj with
    | 0, hj => simp at hj; subst hj; rw [add_off]; exact hc
    | 1, hj => simp at hj; subst hj; rw [add_off]; exact hd
  · intro y hy; simp at hy; rcases hy with rfl | rfl <;> rfl
  · unfold maxLen; omega
  · omega
  · exact hbase
  · intro g cap w' h1 h2 h3 _
    have e1 : cellsV ps ++ [.int .i64 q1, .int .i64 q2] = cellsV (ps ++ [(q1, q2)]) := by rw [cellsV_append]; rfl
    rw [e1] at h1
    refine h _ _ w' ⟨_, _, by simp; exact ⟨rfl, rfl⟩, ?_⟩ h2 h3
    have e2 : (ps ++ [(q1, q2)]).length = ps.length + 1 := by simp
    rw [e2]; exact h1
end

set_option maxHeartbeats 1000000 in
theorem l8Less_any (x1 x2 y1 y2 : Int) (w : World) :
    Calls Try.prog 51 #[.agg #[.int .i64 x1, .int .i64 x2], .agg #[.int .i64 y1, .int .i64 y2]] w fun e w' => e = .returned (.bool (ltC (x1, x2) (y1, y2))) ∧ Below w.heap.size w w' := by
  have hB : Below w.heap.size w ((w.alloc (.cells #[.int .i64 x1, .int .i64 x2] 42)).alloc (.cells #[.int .i64 y1, .int .i64 y2] 42)) := bl_alloc (bl_alloc (Below.refl _ _) _) _
  by_cases h1 : x2 < y2
  · have HR := Lib.hid (show ltC (x1, x2) (y1, y2) = true by unfold ltC; simp [h1])
    have hd : decide (x2 < y2) = true := by simp [h1]
    go_enter Try.func51, Try.ntmps51
    go_wp2
    go_ret
    exact ⟨ret_b HR.out.symm, hB⟩
  · have hd : decide (x2 < y2) = false := by simp; omega
    by_cases h2 : x2 = y2
    · subst h2
      have e2 : (x2 == x2) = true := by simp
      have HR := Lib.hid (show ltC (x1, x2) (y1, x2) = decide (x1 < y1) by unfold ltC; simp)
      clear h1
      go_enter Try.func51, Try.ntmps51
      go_wp2
      go_ret
      exact ⟨ret_b HR.out.symm, hB⟩
    · have e2 : (x2 == y2) = false := by simp [h2]
      have HR := Lib.hid (show ltC (x1, x2) (y1, y2) = false by unfold ltC; simp; omega)
      clear h1
      go_enter Try.func51, Try.ntmps51
      go_wp2
      go_ret
      exact ⟨ret_b HR.out.symm, hB⟩

/-- a box of two cells -/
def B2 (w : World) (b : Nat) (x y : Int) : Prop := w.heap[b]? = some (.cells #[.int .i64 x, .int .i64 y] 42 (0, 0))
theorem B2.lt {w : World} {b : Nat} {x y : Int} (h : B2 w b x y) : b < w.heap.size := (Array.getElem?_eq_some_iff.1 h).1
theorem B2.parts {w : World} {b : Nat} {x y : Int} (h : B2 w b x y) : w.cell? ⟨b, 0, none⟩ = some (.int .i64 x) ∧ w.cell? ⟨b, 1, none⟩ = some (.int .i64 y) ∧ w.frozen? ⟨b, 0, none⟩ = false ∧ w.frozen? ⟨b, 1, none⟩ = false :=
  ⟨cell_of_row _ _ _ _ _ _ h, cell_of_row _ _ _ _ _ _ h, frozen_of_row _ _ _ _ _ h, frozen_of_row _ _ _ _ _ h⟩
theorem B2.new (w : World) (x y : Int) : B2 (w.alloc (.cells #[.int .i64 x, .int .i64 y] 42)) w.heap.size x y := heap_alloc_new w _
theorem B2.belo {w w' : World} {b : Nat} {x y : Int} (h : B2 w b x y) (hb : Below w.heap.size w w') : B2 w' b x y := (hb.block b h.lt).trans h
theorem B2.grown {w w' : World} {b : Nat} {x y : Int} {row : Option Nat} (h : B2 w b x y) (hg : w.grownBy w' row) (hr : row ≠ some b) : B2 w' b x y := (hg.block b h.lt (fun e => hr e.symm)).trans h
theorem B2.set {w : World} {b : Nat} {x y : Int} (h : B2 w b x y) (u v : Int) : B2 ((w.setCell ⟨b, 0, none⟩ (.int .i64 u)).setCell ⟨b, 1, none⟩ (.int .i64 v)) b u v := by
  have h1 := heap_setCell_same w b 0 _ _ (.int .i64 u) h
  exact heap_setCell_same _ b 1 _ _ (.int .i64 v) h1

theorem OwnC.nilS {w w' : World} {g : Nat} (h : OwnC w g (.slice (some ⟨g, 0, none⟩) 0 0) []) (hb : ∃ b u v, b ≠ g ∧ w' = ((w.setCell ⟨b, 0, none⟩ u).setCell ⟨b, 1, none⟩ v).drew) : OwnC w' g (.slice (some ⟨g, 0, none⟩) 0 0) [] := by
  obtain ⟨b, u, v, hne, rfl⟩ := hb
  obtain ⟨A, c, e, h1, h2⟩ := h
  refine ⟨A, c, e, h1, ?_⟩
  rcases h2 with h2 | ⟨g', cap, cur, hv, hg, hh, r⟩
  · exact .inl h2
  · have hgg : g' = g := by injection hv with hA; injection hA with hA; injection hA with hA; exact hA.symm
    subst hgg
    refine .inr ⟨g', cap, cur, hv, hg, ?_, r⟩
    exact (Below.heap_setCell _ _ _ _ (Ne.symm hne)).trans ((Below.heap_setCell _ _ _ _ (Ne.symm hne)).trans hh)
theorem own_base_lt {w : World} {base : Nat} {v : Value} {ps : List Ce} (h : OwnC w base v ps) (k : Nat) (hk : v.ownBlock = some k) : base ≤ k := by
  obtain ⟨A, c, e, h⟩ := h
  exact (h.lt k hk).1
/-- how many a slice has -/
def lenV : Value → Nat
  | .slice _ n _ => n
  | _ => 0

/-- a new slice of cells that may be read, with its capacity -/
def NewRdK (ps : List Ce) (w : World) (e : Ending) (w' : World) : Prop :=
  ∃ (A : Option Addr) (c : Nat), e = .returned (.slice A ps.length c) ∧ RdC w' A ps ∧ Below w.heap.size w w' ∧ (∀ ad, A = some ad → w.heap.size ≤ ad.block) ∧ ps.length ≤ c
theorem OwnC.newRdK {w0 w : World} {base : Nat} {v : Value} {ps : List Ce} (h : OwnC w base v ps) (hb : Below w0.heap.size w0 w) (hB : w0.heap.size ≤ base) : NewRdK ps w0 (.returned v) w := by
  obtain ⟨A, c, e, h'⟩ := id h; subst e
  refine ⟨A, c, rfl, h.rd, hb, fun ad ha => by subst ha; have := (h'.lt ad.block rfl).1; omega, ?_⟩
  rcases h'.2 with ⟨e1, e2⟩ | ⟨g, cap, cur, hv, _, _, h3, _⟩
  · omega
  · injection hv with _ _ e3; omega
set_option maxRecDepth 100000 in
set_option maxHeartbeats 4000000 in
theorem l8Moved_any (A : Option Addr) (c : Nat) (ps : List Ce) (w : World) (hr : RdC w A ps) (h1 : 1 ≤ ps.length) (h5 : ps.length ≤ 5) (hb : ∀ q ∈ ps, inBd 9 q) (hnd : ps.Nodup) :
    Calls Try.prog 43 #[.slice A ps.length c] w (NewRdK (mvd ps) w) := by
  have HB := Lib.hid hb
  have HND := Lib.hid hnd
  clear hb hnd
  have hp0 : 0 < ps.length := by omega
  have hi0 : (0 : Int) < (ps.length : Int) := by omega
  have hd0 : ps[0] = loK ps 0 := by rw [loK_zero]; cases ps with | nil => simp at hp0 | cons a l => rfl
  obtain ⟨b, off, rfl, c0, c1⟩ := RdC.at_ hr hp0
  have c0w := Lib.hid c0
  have c0' := (World.cell?_alloc_lt w (.cells #[] 42) _ (by have := World.block_lt_of_cell? w _ c0; omega)).trans c0
  have c1' := (World.cell?_alloc_lt w (.cells #[] 42) _ (by have := World.block_lt_of_cell? w _ c1; omega)).trans c1
  simp only [Nat.zero_mul, Nat.add_zero] at c0' c1'
  rw [hd0] at c0' c1'
  have O0 : OwnC (w.alloc (.cells #[] 42)) w.heap.size (.slice (some ⟨w.heap.size, 0, none⟩) 0 0) [] := ⟨_, _, rfl, World.ownsRow_lit w #[] 0 (Nat.le_refl _) (by simp) (by simp)⟩
  have Z0 := bl_alloc (Below.refl w.heap.size w) (.cells #[] 42)
  have hs0 : (w.alloc (.cells #[] 42)).heap.size = w.heap.size + 1 := by simp
  go_enter Try.func43, Try.ntmps43
  clear c0 c1 hd0
  go_wp2_with fail
  have R0 := hr.alloc (.cells #[] 42)
  generalize w.alloc (.cells #[] 42) = w1 at *
  have X0 := B2.new w1 (loK ps 0).1 (loK ps 0).2
  have O1 := O0.alloc (.cells #[.int .i64 (loK ps 0).1, .int .i64 (loK ps 0).2] 42)
  have Z1 := bl_alloc Z0 (.cells #[.int .i64 (loK ps 0).1, .int .i64 (loK ps 0).2] 42)
  rw [hs0] at X0
  go_loopw [5] (fun i wr => ∃ k : Nat, k ≤ ps.length ∧ i = .int .i64 k ∧ B2 wr (w.heap.size + 1) (loK ps k).1 (loK ps k).2 ∧ OwnC wr w.heap.size (.slice (some ⟨w.heap.size, 0, none⟩) 0 0) [] ∧ Below w.heap.size w wr) (fun i _ => ps.length - (intOf i).toNat)
  case atStart => exact ⟨0, Nat.zero_le _, rfl, X0, O1, Z1⟩
  case round =>
    clear X0 O1 Z1 O0 Z0 R0 c0' c1' hs0
    obtain ⟨k, hk, rfl, HX, OM, B1⟩ := hrel
    by_cases hlt : k < ps.length
    · obtain ⟨b', off', hb', c0, c1⟩ := RdC.at_ (w := wr) (show RdC wr (some ⟨b, off, none⟩) ps from hr.belo B1) hlt
      obtain ⟨rfl, rfl⟩ : b = b' ∧ off = off' := by injection hb' with e; injection e with e1 e2; exact ⟨e1, e2⟩
      clear hb'
      have HS := Lib.hid (loK_step ps k hlt)
      obtain ⟨q, hq⟩ : ∃ q, ps[k] = q := ⟨_, rfl⟩
      have HQ := Lib.hid hq
      rw [hq] at c0 c1
      clear hq
      obtain ⟨x, y⟩ := q
      simp only at c0 c1
      obtain ⟨x0, x1, x2, x3⟩ := HX.parts
      have hkI : (k : Int) < (ps.length : Int) := by omega
      go_wp2_with fail
      go_region
      go_wp2_with fail
      go_roundw
      case rel =>
        refine ⟨k + 1, by omega, by go_num, ?_, ?_, ((B1.setCell (Nat.le_succ _) _).setCell (Nat.le_succ _) _).drew⟩
        · rw [HS.out, HQ.out]
          exact HX.set _ _
        · exact OM.nilS ⟨_, _, _, Nat.succ_ne_self _, rfl⟩
      case measure => simp [intOf]; omega
    · obtain rfl : k = ps.length := by omega
      obtain ⟨m, hm⟩ : ∃ m, loK ps ps.length = m := ⟨_, rfl⟩
      have HM := Lib.hid (show loP ps = m from hm)
      have hmB : inBd 9 m := by rw [← hm]; exact loK_bd HB.out (by omega) _
      rw [hm] at HX
      have hqv : mvd ps = sortC (ps.map (subC m)) := by unfold mvd; rw [HM.out]
      have hql : (ps.map (subC m)).length = ps.length := List.length_map _
      have hqk : ∀ k (h : k < ps.length) (h2 : k < (ps.map (subC m)).length), (ps.map (subC m))[k] = subC m ps[k] := fun k h h2 => by simp
      have hqn : (ps.map (subC m)).Nodup := by
        unfold List.Nodup
        rw [List.pairwise_map]
        exact HND.out.imp (fun {a b} hab e => hab (subC_inj e))
      generalize ps.map (subC m) = qs at hqv hql hqk hqn
      have HQV := Lib.hid hqv
      have HQL := Lib.hid hql
      have HQK := Lib.hid hqk
      have HQN := Lib.hid hqn
      clear hqv hql hqk hqn hm HND HM
      obtain ⟨mx, my⟩ := m
      unfold inBd at hmB
      simp only at hmB HX
      obtain ⟨m1, m2, m3, m4⟩ := hmB
      have hne : (Value.slice (some ⟨w.heap.size, 0, none⟩) 0 0).ownBlock ≠ some (w.heap.size + 1) := by simp [Value.ownBlock]
      obtain ⟨wo, hwo⟩ : ∃ wo : World, wo = wr := ⟨_, rfl⟩
      subst hwo
      go_wp2_with fail
      go_loopw [3] (fun v wr => ∃ L : List Ce, OwnC wr w.heap.size v L ∧ SelC qs L ∧ B2 wr (w.heap.size + 1) mx my ∧ v.ownBlock ≠ some (w.heap.size + 1) ∧ Below w.heap.size w wr) (fun v _ => ps.length - lenV v)
      case atStart => exact ⟨[], OM, SelC.nil _, HX, hne, B1⟩
      case round =>
        clear OM HX hne B1 hlt hk
        obtain ⟨L, OM, SL, HX, hne, B1⟩ := hrel
        have hLle := SL.le
        rw [HQL.out] at hLle
        obtain ⟨A3, c3, rfl, hw3⟩ := id OM
        by_cases hlt : L.length < ps.length
        · obtain ⟨wo, hwo⟩ : ∃ wo : World, wo = wr := ⟨_, rfl⟩
          subst hwo
          go_wp2_with fail
          go_loopw [6, 7] (fun be i wr => ∃ (bI : Int) (k : Nat), k ≤ ps.length ∧ be = .int .i64 bI ∧ i = .int .i64 k ∧ Hid (BestC qs L k bI) ∧ OwnC wr w.heap.size (.slice A3 L.length c3) L ∧ B2 wr (w.heap.size + 1) mx my ∧ Below w.heap.size w wr) (fun _ i _ => ps.length - (intOf i).toNat)
          case atStart => exact ⟨-1, 0, Nat.zero_le _, rfl, rfl, BestC.start _ _, OM, HX, B1⟩
          case round =>
            clear OM HX B1 hw3
            obtain ⟨bI, k, hk, rfl, rfl, HBE, OM, HX, B1⟩ := hrel
            by_cases hkl : k < ps.length
            · have R1 : RdC wr (some ⟨b, off, none⟩) ps := hr.belo B1
              obtain ⟨b', off', hb', c0, c1⟩ := R1.at_ hkl
              obtain ⟨rfl, rfl⟩ : b = b' ∧ off = off' := by injection hb' with e; injection e with e1 e2; exact ⟨e1, e2⟩
              clear hb'
              have hkq : k < qs.length := by rw [HQL.out]; exact hkl
              have hqe := HQK.out k hkl hkq
              obtain ⟨q, hq⟩ : ∃ q, ps[k] = q := ⟨_, rfl⟩
              have HQ := Lib.hid hq
              have hqB := HB.out q (by rw [← hq]; exact List.getElem_mem hkl)
              rw [hq] at c0 c1 hqe
              clear hq
              obtain ⟨x, y⟩ := q
              unfold inBd at hqB
              simp only at c0 c1 hqB
              obtain ⟨p1, p2, p3, p4⟩ := hqB
              unfold subC at hqe
              simp only at hqe
              have HQE := Lib.hid hqe
              clear hqe
              obtain ⟨x0, x1, x2, x3⟩ := HX.parts
              have hkI : (k : Int) < (ps.length : Int) := by omega
              go_wp2_with fail
              have z1 := HX.lt
              have z2 := World.block_lt_of_cell? wr _ c0
              simp only at z2
              go_region
              have OW1 : OwnC (wr.alloc (.cells #[.int .i64 (x - mx), .int .i64 (y - my)] 42)).drew w.heap.size (.slice A3 L.length c3) L := OM.alloc _
              have HX1 : B2 (wr.alloc (.cells #[.int .i64 (x - mx), .int .i64 (y - my)] 42)).drew (w.heap.size + 1) mx my := HX.belo (bl_alloc (Below.refl _ _) _).drew
              have BB1 : Below w.heap.size w (wr.alloc (.cells #[.int .i64 (x - mx), .int .i64 (y - my)] 42)).drew := (bl_alloc B1 _).drew
              have RR1 : RdC (wr.alloc (.cells #[.int .i64 (x - mx), .int .i64 (y - my)] 42)).drew (some ⟨b, off, none⟩) ps := R1.alloc _
              have e0 : (wr.alloc (.cells #[.int .i64 (x - mx), .int .i64 (y - my)] 42)).drew.cell? ⟨wr.heap.size, 0, none⟩ = some (.int .i64 (x - mx)) := cell_of_row _ _ _ _ _ _ (heap_alloc_new wr _)
              have e1 : (wr.alloc (.cells #[.int .i64 (x - mx), .int .i64 (y - my)] 42)).drew.cell? ⟨wr.heap.size, 1, none⟩ = some (.int .i64 (y - my)) := cell_of_row _ _ _ _ _ _ (heap_alloc_new wr _)
              have es : wr.heap.size < (wr.alloc (.cells #[.int .i64 (x - mx), .int .i64 (y - my)] 42)).drew.heap.size := by simp
              have bs2 : b < (wr.alloc (.cells #[.int .i64 (x - mx), .int .i64 (y - my)] 42)).drew.heap.size := by simp; omega
              have c0' : (wr.alloc (.cells #[.int .i64 (x - mx), .int .i64 (y - my)] 42)).drew.cell? ⟨b, off + k * 2, none⟩ = some (.int .i64 x) := (World.cell?_alloc_lt wr _ ⟨b, off + k * 2, none⟩ z2).trans c0
              have c1' : (wr.alloc (.cells #[.int .i64 (x - mx), .int .i64 (y - my)] 42)).drew.cell? ⟨b, off + k * 2 + 1, none⟩ = some (.int .i64 y) := (World.cell?_alloc_lt wr _ ⟨b, off + k * 2 + 1, none⟩ z2).trans c1
              have hLl : L.length ≤ 1000000 := by omega
              have CC := Lib.hid (fun W (R : RdC W A3 L) => l8Has_any A3 c3 L (x - mx, y - my) W R hLl)
              go_wp2_with fail
              generalize (wr.alloc (.cells #[.int .i64 (x - mx), .int .i64 (y - my)] 42)).drew = wq at *
              have ROM : RdC wq A3 L := OW1.rd
              have L0 : ∀ z : BW wq, z.wo.cell? ⟨wr.heap.size, 0, none⟩ = some (.int .i64 (x - mx)) := fun z => z.cell es e0
              have L1 : ∀ z : BW wq, z.wo.cell? ⟨wr.heap.size, 1, none⟩ = some (.int .i64 (y - my)) := fun z => z.cell es e1
              have L2 : ∀ z : BW wq, z.wo.cell? ⟨b, off + k * 2, none⟩ = some (.int .i64 x) := fun z => z.cell bs2 c0'
              have L3 : ∀ z : BW wq, z.wo.cell? ⟨b, off + k * 2 + 1, none⟩ = some (.int .i64 y) := fun z => z.cell bs2 c1'
              cases hm : decide ((x - mx, y - my) ∈ L) with
              | true =>
                have HMM := Lib.hid hm
                clear hm
                (refine region_bw (by kernel_rfl) (by kernel_rfl) ?_; (repeat (first | go_big_quiet_skip | (go_big_quiet_want; go_big_quiet_op; first | go_big_quiet_on | (refine ⟨.bool true, fun zz => ?_, ?_⟩; (go_at_call 25; exact zz.on' (CC.out _ (ROM.belo zz.ok)) (congrArg Value.bool HMM.out)); go_big_quiet_on)))); refine wpQuiet_nil ?_; intro wz hw'; obtain ⟨zw, hw''⟩ := hw'; subst hw'')
                go_wp2_with fail
                go_roundw
                case rel =>
                  refine ⟨bI, k + 1, by omega, rfl, by go_num, ?_, OW1.belo zw.ok, HX1.belo zw.ok, bl_go BB1 zw.ok⟩
                  exact HBE.out.skip hkq (by rw [HQE.out]; exact of_decide_eq_true HMM.out)
                case measure => simp [intOf]; omega
              | false =>
                have HMM := Lib.hid hm
                clear hm
                rcases HBE.out.bd with hbi | ⟨i, hbi, hiq, hik⟩
                · subst hbi
                  (refine region_bw (by kernel_rfl) (by kernel_rfl) ?_; (repeat (first | go_big_quiet_skip | (go_big_quiet_want; go_big_quiet_op; first | go_big_quiet_on | (refine ⟨.bool false, fun zz => ?_, ?_⟩; (go_at_call 25; exact zz.on' (CC.out _ (ROM.belo zz.ok)) (congrArg Value.bool HMM.out)); go_big_quiet_on)))); refine wpQuiet_nil ?_; intro wz hw'; obtain ⟨zw, hw''⟩ := hw'; subst hw'')
                  go_wp2_with fail
                  go_roundw
                  case rel =>
                    refine ⟨k, k + 1, by omega, rfl, by go_num, ?_, OW1.belo zw.ok, HX1.belo zw.ok, bl_go BB1 zw.ok⟩
                    exact HBE.out.first hkq (by rw [HQE.out]; exact of_decide_eq_false HMM.out)
                  case measure => simp [intOf]; omega
                · subst hbi
                  have hip : i < ps.length := by omega
                  have hiI : (i : Int) < (ps.length : Int) := by omega
                  have hi0 : decide ((i : Int) < 0) = false := by simp
                  obtain ⟨b', off', hb', d0, d1⟩ := RR1.at_ hip
                  obtain ⟨rfl, rfl⟩ : b = b' ∧ off = off' := by injection hb' with e; injection e with e1 e2; exact ⟨e1, e2⟩
                  clear hb'
                  have hqi := HQK.out i hip hiq
                  obtain ⟨t, ht⟩ : ∃ t, ps[i] = t := ⟨_, rfl⟩
                  rw [ht] at d0 d1 hqi
                  clear ht
                  obtain ⟨u, v⟩ := t
                  simp only at d0 d1
                  have HQI := Lib.hid hqi
                  clear hqi
                  have L4 : ∀ z : BW wq, z.wo.cell? ⟨b, off + i * 2, none⟩ = some (.int .i64 u) := fun z => z.cell bs2 d0
                  have L5 : ∀ z : BW wq, z.wo.cell? ⟨b, off + i * 2 + 1, none⟩ = some (.int .i64 v) := fun z => z.cell bs2 d1
                  have HLT : Hid (ltC qs[k] qs[i] = ltC (x, y) (u, v)) := by
                    show _ = _
                    rw [HQE.out, HQI.out]
                    exact subC_lt (mx, my) (x, y) (u, v)
                  cases hl : ltC (x, y) (u, v) with
                  | true =>
                    have HL := Lib.hid hl
                    clear hl
                    (refine region_bw (by kernel_rfl) (by kernel_rfl) ?_; (repeat (first | go_big_quiet_skip | (go_big_quiet_want; go_big_quiet_op; first | go_big_quiet_on | (refine ⟨.bool false, fun zz => ?_, ?_⟩; (go_at_call 25; exact zz.on' (CC.out _ (ROM.belo zz.ok)) (congrArg Value.bool HMM.out)); go_big_quiet_on) | (refine ⟨.bool true, fun zz => ?_, ?_⟩; (go_at_call 51; exact zz.on' (l8Less_any x y u v _) (congrArg Value.bool HL.out)); go_big_quiet_on)))); refine wpQuiet_nil ?_; intro wz hw'; obtain ⟨zw, hw''⟩ := hw'; subst hw'')
                    go_wp2_with fail
                    go_roundw
                    case rel =>
                      refine ⟨k, k + 1, by omega, rfl, by go_num, ?_, OW1.belo zw.ok, HX1.belo zw.ok, bl_go BB1 zw.ok⟩
                      exact HBE.out.better hkq hiq (by rw [HQE.out]; exact of_decide_eq_false HMM.out) (HLT.out.trans HL.out)
                    case measure => simp [intOf]; omega
                  | false =>
                    have HL := Lib.hid hl
                    clear hl
                    (refine region_bw (by kernel_rfl) (by kernel_rfl) ?_; (repeat (first | go_big_quiet_skip | (go_big_quiet_want; go_big_quiet_op; first | go_big_quiet_on | (refine ⟨.bool false, fun zz => ?_, ?_⟩; (go_at_call 25; exact zz.on' (CC.out _ (ROM.belo zz.ok)) (congrArg Value.bool HMM.out)); go_big_quiet_on) | (refine ⟨.bool false, fun zz => ?_, ?_⟩; (go_at_call 51; exact zz.on' (l8Less_any x y u v _) (congrArg Value.bool HL.out)); go_big_quiet_on)))); refine wpQuiet_nil ?_; intro wz hw'; obtain ⟨zw, hw''⟩ := hw'; subst hw'')
                    go_wp2_with fail
                    go_roundw
                    case rel =>
                      refine ⟨i, k + 1, by omega, rfl, by go_num, ?_, OW1.belo zw.ok, HX1.belo zw.ok, bl_go BB1 zw.ok⟩
                      exact HBE.out.keep hkq hiq (HLT.out.trans HL.out)
                    case measure => simp [intOf]; omega
            · obtain rfl : k = ps.length := by omega
              have HBE2 : BestC qs L qs.length bI := by rw [HQL.out]; exact HBE.out
              obtain ⟨i, hiq, rfl, SL2⟩ := HBE2.done SL HQN.out (by rw [HQL.out]; exact hlt)
              have hip : i < ps.length := by rw [← HQL.out]; exact hiq
              have R1 : RdC wr (some ⟨b, off, none⟩) ps := hr.belo B1
              obtain ⟨b', off', hb', d0, d1⟩ := R1.at_ hip
              obtain ⟨rfl, rfl⟩ : b = b' ∧ off = off' := by injection hb' with e; injection e with e1 e2; exact ⟨e1, e2⟩
              clear hb'
              have hqi := HQK.out i hip hiq
              obtain ⟨t, ht⟩ : ∃ t, ps[i] = t := ⟨_, rfl⟩
              have hqB := HB.out t (by rw [← ht]; exact List.getElem_mem hip)
              rw [ht] at d0 d1 hqi
              clear ht HBE HBE2
              obtain ⟨x, y⟩ := t
              unfold inBd at hqB
              unfold subC at hqi
              simp only at d0 d1 hqB hqi
              obtain ⟨p1, p2, p3, p4⟩ := hqB
              rw [hqi] at SL2
              clear hqi
              obtain ⟨x0, x1, x2, x3⟩ := HX.parts
              have hiI : (i : Int) < (ps.length : Int) := by omega
              have z1 := HX.lt
              have z2 := World.block_lt_of_cell? wr _ d0
              simp only at z2
              have hsz := B1.size
              have OW1 : OwnC (wr.alloc (.cells #[.int .i64 (x - mx), .int .i64 (y - my)] 42)).drew w.heap.size (.slice A3 L.length c3) L := OM.alloc _
              have HX1 : B2 (wr.alloc (.cells #[.int .i64 (x - mx), .int .i64 (y - my)] 42)).drew (w.heap.size + 1) mx my := HX.belo (bl_alloc (Below.refl _ _) _).drew
              have BB1 : Below w.heap.size w (wr.alloc (.cells #[.int .i64 (x - mx), .int .i64 (y - my)] 42)).drew := (bl_alloc B1 _).drew
              have e0 : (wr.alloc (.cells #[.int .i64 (x - mx), .int .i64 (y - my)] 42)).drew.cell? ⟨wr.heap.size, 0, none⟩ = some (.int .i64 (x - mx)) := cell_of_row _ _ _ _ _ _ (heap_alloc_new wr _)
              have e1 : (wr.alloc (.cells #[.int .i64 (x - mx), .int .i64 (y - my)] 42)).drew.cell? ⟨wr.heap.size, 1, none⟩ = some (.int .i64 (y - my)) := cell_of_row _ _ _ _ _ _ (heap_alloc_new wr _)
              have hLl : L.length ≤ 1000000000000 := by omega
              have HLL := Lib.hid hlt
              have wx : IntKind.i64.wrap (x - mx) = x - mx := IntWalk.i64_in _ (by omega)
              have wy : IntKind.i64.wrap (y - my) = y - my := IntWalk.i64_in _ (by omega)
              clear HX
              have d0A : (wr.alloc (.cells #[.int .i64 (x - mx), .int .i64 (y - my)] 42)).drew.cell? ⟨b, off + i * 2, none⟩ = some (.int .i64 x) := (World.cell?_alloc_lt wr _ ⟨b, off + i * 2, none⟩ z2).trans d0
              have d1A : (wr.alloc (.cells #[.int .i64 (x - mx), .int .i64 (y - my)] 42)).drew.cell? ⟨b, off + i * 2 + 1, none⟩ = some (.int .i64 y) := (World.cell?_alloc_lt wr _ ⟨b, off + i * 2 + 1, none⟩ z2).trans d1
              go_wp2_with fail
              have d0lt : b < w.heap.size := by have := World.block_lt_of_cell? w _ c0w.out; simpa using this
              have hbo : (Value.slice A3 L.length c3).ownBlock ≠ some b := fun e => by have := own_base_lt OM b e; omega
              go_region_held3 (fun w' => (w'.cell? ⟨w.heap.size + 1, 0, none⟩ = some (.int .i64 mx) ∧ w'.cell? ⟨w.heap.size + 1, 1, none⟩ = some (.int .i64 my)) ∧ (w'.cell? ⟨b, off + i * 2, none⟩ = some (.int .i64 x) ∧ w'.cell? ⟨b, off + i * 2 + 1, none⟩ = some (.int .i64 y)))
                (first | exact ⟨⟨y0, y1⟩, ⟨v0, v1⟩⟩ | exact ⟨⟨x0, x1⟩, ⟨d0, d1⟩⟩ | go_keep)
                ((refine step_app_cell _ (by rfl) _ _ (by rfl) w.heap.size _ L (by rfl) OW1 (x - mx) (y - my) wr.heap.size (by rfl) e0 e1 hLl (by simp; omega) ?_; intro g4 c4 w4 o4 G4 e4; have HX4 := HX1.grown G4 hne; obtain ⟨y0, y1, -, -⟩ := HX4.parts; have v0 := (World.cell?_of_block (w := (wr.alloc (.cells #[.int .i64 (x - mx), .int .i64 (y - my)] 42)).drew) (a := ⟨b, off + i * 2, none⟩) (G4.block b (by simp; omega) (fun e => hbo e.symm))).trans d0A; have v1 := (World.cell?_of_block (w := (wr.alloc (.cells #[.int .i64 (x - mx), .int .i64 (y - my)] 42)).drew) (a := ⟨b, off + i * 2 + 1, none⟩) (G4.block b (by simp; omega) (fun e => hbo e.symm))).trans d1A))
              go_wp2_with fail
              go_roundw
              case rel =>
                refine ⟨L ++ [(x - mx, y - my)], by simpa using o4, SL2, HX4, ?_, BB1.grown G4 (by simp; omega) (fun kk hkk => own_base_lt OW1 kk hkk)⟩
                intro e5
                have e6 : g4 = w.heap.size + 1 := by simpa [Value.ownBlock] using e5
                rcases e4 with e4 | e4
                · exact hne (e6 ▸ e4)
                · simp at e4; omega
              case measure => simp [lenV]; have := HLL.out; omega
        · have hLq : qs.length ≤ L.length := by rw [HQL.out]; omega
          have HE := Lib.hid (SL.done hLq)
          have hLl : L.length = ps.length := by omega
          have HF : Hid (L = mvd ps) := by show _ = _; rw [HE.out, HQV.out]
          go_wp2
          go_ret
          rw [← HF.out]
          exact OM.newRdK B1 (Nat.le_refl _)
end Go.Proofs.Ytohbnogmeldmpaa
