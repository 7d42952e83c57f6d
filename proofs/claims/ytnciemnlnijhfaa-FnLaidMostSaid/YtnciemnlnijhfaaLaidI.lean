/- Contract: the program's LaidMost. -/
import Derived.Test.YtnciemnlnijhfaaTryI
import Derived.Test.YtnciemnlnijhfaaLaidK
import Derived.Laws.EntriesVeiled
namespace Go.Proofs.Ytnciemnlnijhfaa
open Go.RowKit

theorem try_vals {nb : Nat → List Nat} {n : Nat} : ∀ (f : Nat) (M : Nat → Option Nat) (c : Nat) (S : Nat → Bool), (∀ l s, M l = some s → s < n) → c < n → ∀ l s, (tryF nb f M c S).1 l = some s → s < n
  | 0, M, c, S, hM, _ => hM
  | f + 1, M, c, S, hM, hc => by
    have hupd : ∀ (N : Nat → Option Nat) t, (∀ l s, N l = some s → s < n) → ∀ l s, updM N t c l = some s → s < n := fun N t hN l s e => by
      unfold updM at e
      split at e
      · injection e with e; omega
      · exact hN l s e
    have key : ∀ (ts : List Nat) (M : Nat → Option Nat) (S : Nat → Bool), (∀ l s, M l = some s → s < n) → ∀ l s, (tryT (tryF nb f) c ts M S).1 l = some s → s < n := by
      intro ts
      induction ts with
      | nil => intro M S hM; exact hM
      | cons t ts ih =>
        intro M S hM
        cases hS : S t with
        | true => rw [tryT_met hS]; exact ih M S hM
        | false =>
          cases hMt : M t with
          | none => rw [tryT_free hS hMt]; exact hupd M t hM
          | some old =>
            rw [tryT_old hS hMt]
            have hr := try_vals (nb := nb) f M old (updB S t) hM (hM t old hMt)
            cases hrec : (tryF nb f M old (updB S t)).2.2 with
            | true => rw [if_pos rfl]; exact hupd _ t hr
            | false => rw [if_neg (by simp)]; exact ih _ _ hr
    exact key (nb c) M S hM
theorem try_all {W T : Int} {n c0 : Nat} {bs : List Bool} {A : Option Addr} {bo bm br bv bk : Nat} (h1 : 1 ≤ W) (h2 : W ≤ 6) (h3 : 1 ≤ T) (h4 : T ≤ 6) (hn : bs.length = n) (hWT : (n : Int) = W * T) (h36 : n ≤ 36) : ∀ f, TryOk W T n c0 bs A bo bm br bv bk f
  | 0 => fun _ _ S _ _ _ _ _ _ _ h => by omega
  | f + 1 => try_step h1 h2 h3 h4 hn hWT h36 (try_all h1 h2 h3 h4 hn hWT h36 f)
theorem al_new1 (w : World) (v : Value) (t : TypeId) {n : Nat} (h : w.heap.size = n) : (w.alloc (.cells #[v] t)).cell? ⟨n, 0, none⟩ = some v := by subst h; exact cell_of_row _ _ _ _ _ _ (heap_alloc_new w _)
theorem al_old {w : World} {p : Addr} {v : Value} (o : Obj) (h : w.cell? p = some v) : (w.alloc o).cell? p = some v := (World.cell?_alloc_lt w o p (World.block_lt_of_cell? w _ h)).trans h
/-- what LaidMost keeps -/
structure Ent (W T : Int) (n c0 : Nat) (bs : List Bool) (A : Option Addr) (bo br bv bk : Nat) (w : World) : Prop where
  box : C3 w br (.int .i64 W) (.int .i64 T) (.slice A n c0)
  ov : w.cell? ⟨bv, 0, none⟩ = some (.map (some bo))
  ck : w.cell? ⟨bk, 0, none⟩ = some (.func (.func 52) #[] #[.pointer (some ⟨br, 0, none⟩), .pointer (some ⟨bv, 0, none⟩), .pointer (some ⟨bk, 0, none⟩)])
  rd : Rd w A (bs.map .bool)
  d1 : br ≠ bo
  d3 : bv ≠ bo
  d5 : bk ≠ bo
  lo : bo < w.heap.size
  hA : ∀ ad, A = some ad → ad.block ≠ bo ∧ ad.block < w.heap.size
section
variable {W T : Int} {n c0 : Nat} {bs : List Bool} {A : Option Addr} {bo bm br bv bk : Nat} {w w' : World}
theorem Ent.belo (h : Ent W T n c0 bs A bo br bv bk w) (hb : Below w.heap.size w w') : Ent W T n c0 bs A bo br bv bk w' :=
  ⟨h.box.belo hb, ((bcell hb).1 bv 0 (World.block_lt_of_cell? w _ h.ov)).trans h.ov, ((bcell hb).1 bk 0 (World.block_lt_of_cell? w _ h.ck)).trans h.ck, h.rd.belo hb, h.d1, h.d3, h.d5, Nat.lt_of_lt_of_le h.lo hb.size, fun ad ha => ⟨(h.hA ad ha).1, Nat.lt_of_lt_of_le (h.hA ad ha).2 hb.size⟩⟩
theorem Ent.tst (h : Ent W T n c0 bs A bo br bv bk w) : Tst W T n c0 bs A bo w.heap.size br bv bk (w.alloc (.map #[] 0)) := by
  have h2 := h.belo (bl_alloc (Below.refl _ _) (.map #[] 0))
  have k1 := h.box.lt
  have k2 := World.block_lt_of_cell? w _ h.ov
  have k3 := World.block_lt_of_cell? w _ h.ck
  have k4 := h.lo
  simp only at k2 k3
  exact ⟨h2.box, h2.ov, h2.ck, h2.rd, h.d1, by omega, h.d3, by omega, h.d5, by omega, by omega, fun ad ha => ⟨(h.hA ad ha).1, by have := (h.hA ad ha).2; omega⟩⟩
theorem Ent.of_tst (h : Tst W T n c0 bs A bo bm br bv bk w') (k : Ent W T n c0 bs A bo br bv bk w) (hs : w.heap.size ≤ w'.heap.size) : Ent W T n c0 bs A bo br bv bk w' :=
  ⟨h.box, h.ov, h.ck, h.rd, h.d1, h.d3, h.d5, Nat.lt_of_lt_of_le k.lo hs, fun ad ha => ⟨(k.hA ad ha).1, Nat.lt_of_lt_of_le (k.hA ad ha).2 hs⟩⟩
theorem G2.below {B : Nat} (h : G2 w w' bo bm) (h1 : B ≤ bo) (h2 : B ≤ bm) (h3 : B ≤ w.heap.size) : Below B w w' :=
  ⟨h.os, h.tape, h.output, h.size, fun i hi => h.block i (by omega) (by omega) (by omega)⟩
end
/-- the loop of LaidMost -/
def LoopI (W T : Int) (n c : Nat) (bs : List Bool) (A : Option Addr) (bo res : Nat) (DD : List Nat) (A6 : Option Addr) (w : World) (v5 v16 : Value) (wr : World) : Prop :=
  ∃ (k q n1 : Nat) (M : Nat → Option Nat), k ≤ DD.length ∧ v16 = .int .i64 k ∧ v5 = .int .i64 q ∧ (runF (nbN W T bs) (n + 1) (DD.drop k) M q).2 = res ∧ OMI wr bo n1 M ∧ n1 ≤ 100 * k ∧ (∀ l s, M l = some s → s < n) ∧ Ent W T n c bs A bo w.heap.size (bo + 1) (bo + 1 + 1) wr ∧ Below w.heap.size w wr ∧ q ≤ k ∧ Rd wr A6 ((DD.map fun i : Nat => (i : Int)).map (.int .i64))
set_option maxRecDepth 100000 in
set_option maxHeartbeats 4000000 in
theorem iLaidMost_any (W T : Int) (A : Option Addr) (c : Nat) (bs : List Bool) (w : World) (hr : Rd w A (bs.map .bool)) (hn : bs.length ≤ maxLen) :
    Calls Try.prog 11 #[.agg #[.int .i64 W, .int .i64 T, .slice A bs.length c]] w fun e w' => e = .returned (.int .i64 (laidZ W T bs)) ∧ Below w.heap.size w w' := by
  have X0 := C3.new w (.int .i64 W) (.int .i64 T) (.slice A bs.length c) 25
  have R0 := hr.alloc (.cells #[.int .i64 W, .int .i64 T, .slice A bs.length c] 25)
  have B0 := bl_alloc (Below.refl w.heap.size w) (.cells #[.int .i64 W, .int .i64 T, .slice A bs.length c] 25)
  have cV := fun (z : World) (R : Rd z A (bs.map .bool)) => iRegionValid_any W T A c bs z R hn
  cases hv : validB W T bs with
  | false =>
    rw [show laidZ W T bs = -1 by unfold laidZ; rw [hv]; rfl]
    have HV := Lib.hid hv
    have CV := Lib.hid cV
    clear hv cV hr hn
    go_enter Try.func11, Try.ntmps11
    go_wp2_with fail
    refine (CV.out _ R0).mono ?_
    rintro e w1 ⟨rfl, b1⟩
    rw [HV.out]
    go_wp2
    go_ret
    exact ⟨rfl, bl_go B0 b1⟩
  | true =>
    rw [show laidZ W T bs = (laidN W T bs : Int) by unfold laidZ; rw [if_pos hv]]
    obtain ⟨h1, h2, h3, h4, hn36, h6⟩ := valid_len hv
    obtain ⟨n, hbn⟩ : ∃ n, bs.length = n := ⟨_, rfl⟩
    have hn1 : 1 ≤ n := by have := (mul_bd h1 h2 h3 h4).1; omega
    have h36 : n ≤ 36 := by omega
    have HLT := Lib.hid (fun ad (ha : A = some ad) => hr.lt ha (by intro e; rw [List.map_eq_nil_iff] at e; rw [e] at hbn; simp at hbn; omega))
    have cC := fun (z : World) (R : Rd z A (bs.map .bool)) => coloured_any W T true A c bs z R h1 h2 hn36
    rw [hbn] at cV cC X0 R0 B0 ⊢
    rw [darkNn_eq] at cC
    have CV := Lib.hid cV
    have CC := Lib.hid cC
    have HV := Lib.hid hv
    have HRES := Lib.hid (show (runF (nbN W T bs) (n + 1) ((darkNn W bs).drop 0) (fun _ => none) 0).2 = laidN W T bs by unfold laidN; rw [hbn, List.drop_zero])
    have HDM := Lib.hid (fun d (h : d ∈ darkNn W bs) => (show d < n by rw [← hbn]; exact (darkNn_mem.1 h).1))
    have HDl : (darkNn W bs).length ≤ 36 := by
      unfold darkNn
      exact Nat.le_trans (List.length_filter_le _ _) (by simpa using hn36)
    have CT := Lib.hid (fun (bo bm br bv bk : Nat) => try_all (A := A) (c0 := c) (bo := bo) (bm := bm) (br := br) (bv := bv) (bk := bk) h1 h2 h3 h4 hbn (by rw [← hbn]; exact h6) h36 (n + 1))
    have HVL := Lib.hid (fun M c S (hM : ∀ l s, M l = some s → s < n) (hc : c < n) => try_vals (nb := nbN W T bs) (n + 1) M c S hM hc)
    have HU0 := Lib.hid (show unm (fun _ => false) n ≤ n by unfold unm; exact Nat.le_trans List.countP_le_length (by simp))
    generalize laidN W T bs = res at *
    clear hv cV cC hr hn h6 hbn
    generalize hDD : darkNn W bs = DD at *
    clear hDD
    go_enter Try.func11, Try.ntmps11
    go_wp2_with fail
    refine (CV.out _ R0).mono ?_
    rintro e w1 ⟨rfl, b1⟩
    rw [HV.out]
    have R1 := R0.belo b1
    have X1 := X0.belo b1
    have B1 := bl_go B0 b1
    have hz1 : w.heap.size < w1.heap.size := X1.lt
    clear R0 X0 B0 b1 CV
    have hmm := @run_makeMap Try.prog
    have b5 := bl_alloc (bl_alloc (bl_alloc (Below.refl w1.heap.size w1) (.map #[] 0)) (.cells #[.map (some w1.heap.size)] 70)) (.cells #[.func (.func 52) #[] #[.pointer (some ⟨w.heap.size, 0, none⟩), .pointer (some ⟨w1.heap.size + 1, 0, none⟩), .pointer (some ⟨w1.heap.size + 1 + 1, 0, none⟩)]] 71)
    have O5 : OMI (((w1.alloc (.map #[] 0)).alloc (.cells #[.map (some w1.heap.size)] 70)).alloc (.cells #[.func (.func 52) #[] #[.pointer (some ⟨w.heap.size, 0, none⟩), .pointer (some ⟨w1.heap.size + 1, 0, none⟩), .pointer (some ⟨w1.heap.size + 1 + 1, 0, none⟩)]] 71)) w1.heap.size 0 (fun _ => none) :=
      ((OMI.made w1).kept (World.grownBy_alloc _ _ none) (by simp)).kept (World.grownBy_alloc _ _ none) (by simp)
    have E5 : Ent W T n c bs A w1.heap.size w.heap.size (w1.heap.size + 1) (w1.heap.size + 1 + 1) (((w1.alloc (.map #[] 0)).alloc (.cells #[.map (some w1.heap.size)] 70)).alloc (.cells #[.func (.func 52) #[] #[.pointer (some ⟨w.heap.size, 0, none⟩), .pointer (some ⟨w1.heap.size + 1, 0, none⟩), .pointer (some ⟨w1.heap.size + 1 + 1, 0, none⟩)]] 71)) :=
      ⟨X1.belo b5, al_old _ (al_new1 _ _ _ (by simp)), al_new1 _ _ _ (by simp), R1.belo b5, by omega, by omega, by omega, by simp; omega, fun ad ha => by have := HLT.out ad ha; simp; omega⟩
    have B5 := bl_go B1 b5
    have HBO := Lib.hid hz1
    clear b5 R1 B1
    obtain ⟨x0, x1, x2⟩ := id E5.box
    obtain ⟨y0, y1, y2⟩ := id X1
    go_wp2_with fail
    clear x0 x1 x2 y0 y1 y2 X1
    generalize hbo : w1.heap.size = bo at *
    generalize ((w1.alloc (.map #[] 0)).alloc (.cells #[.map (some bo)] 70)).alloc (.cells #[.func (.func 52) #[] #[.pointer (some ⟨w.heap.size, 0, none⟩), .pointer (some ⟨bo + 1, 0, none⟩), .pointer (some ⟨bo + 1 + 1, 0, none⟩)]] 71) = w5 at *
    clear hbo
    refine (CC.out _ E5.rd).mono ?_
    rintro e w6 ⟨A6, rfl, hw6, b6⟩
    simp only [List.length_map]
    have E6 := E5.belo b6
    have O6 := O5.kept (below_none b6) (by simp)
    have B6 := bl_go B5 b6
    have L6 := hw6.rd
    have HA6 := Lib.hid (fun ad (h : A6 = some ad) => (show ad.block ≠ bo by have := hw6.1 ad h; have := E5.lo; omega))
    clear E5 O5 B5 hw6 b6 CC
    go_wp2_with fail
    go_loopw [5, 16] (fun v5 v16 wr => LoopI W T n c bs A bo res DD A6 w v5 v16 wr) (fun _ v16 _ => DD.length - (intOf v16).toNat)
    case atStart => exact ⟨0, 0, 0, fun _ => none, Nat.zero_le _, rfl, rfl, HRES.out, O6, Nat.zero_le _, (fun l s h => by cases h), E6, B6, Nat.le_refl _, L6⟩
    case round =>
      clear E6 O6 B6 L6
      obtain ⟨k, q, n1, M, hk, rfl, rfl, hR, O7, hn7, hVM, E7, B7, hqk, L7⟩ := hrel
      have HR := Lib.hid hR
      have HVM := Lib.hid hVM
      clear hR hVM
      obtain ⟨wo, hwo⟩ : ∃ wo : World, wo = wr := ⟨_, rfl⟩
      subst hwo
      by_cases hlt : k < DD.length
      · have hkI : (k : Int) < (DD.length : Int) := by omega
        obtain ⟨b, o, rfl, hcell⟩ := L7.atEM (k := k) (by simpa using hlt)
        simp only [List.getElem_map] at hcell
        have HDR := Lib.hid (drop_at hlt)
        have hdn := HDM.out _ (List.getElem_mem hlt)
        generalize DD[k] = d at hcell HDR hdn
        have hbl := World.block_lt_of_cell? wo _ hcell
        simp only at hbl
        have T7 := E7.tst
        have O8 := O7.kept (World.grownBy_alloc wo (.map #[] 0) none) (by simp)
        have CK := CT.out bo wo.heap.size w.heap.size (bo + 1) (bo + 1 + 1) (wo.alloc (.map #[] 0)) M (fun _ => false) d n1 0 T7 O8 (MMB.made wo) hdn (by have := HU0.out; omega) (by have := HU0.out; omega) (by omega) HVM.out
        have hv2 := HVL.out M d (fun _ => false) HVM.out hdn
        have hRq : (runF (nbN W T bs) (n + 1) (DD.drop (k + 1)) (tryF (nbN W T bs) (n + 1) M d (fun _ => false)).1 (if (tryF (nbN W T bs) (n + 1) M d (fun _ => false)).2.2 = true then q + 1 else q)).2 = res := by
          rw [← HR.out, HDR.out]; rfl
        generalize tryF (nbN W T bs) (n + 1) M d (fun _ => false) = r at CK hv2 hRq
        obtain ⟨r1, r2, r3⟩ := r
        have CK2 := Lib.hid CK
        have HRQ := Lib.hid hRq
        have HV2 := Lib.hid hv2
        have xk := E7.ck
        clear CK hRq hv2
        go_wp2_with fail
        refine CK2.out.mono ?_
        rintro e w8 ⟨n2, m2, rfl, O9, -, hn2, -, -, G9⟩
        have b8 : Below w.heap.size w w8 := (bl_alloc B7 (.map #[] 0)).trans (G9.below (by have := HBO.out; omega) (by have := B7.size; omega) (by have := B7.size; simp; omega))
        have E9 := Ent.of_tst (T7.g2 G9) E7 (by have := G9.size; simp at this; omega)
        have L9 := G9.rd (L7.alloc (.map #[] 0)) (fun ad ha => ⟨HA6.out ad ha, by injection ha with ha; subst ha; show b ≠ wo.heap.size; omega⟩)
        clear T7 O8 CK2 G9 O7 E7 L7 xk
        cases r3 with
        | true =>
          have HR9 := Lib.hid (show (runF (nbN W T bs) (n + 1) (DD.drop (k + 1)) r1 (q + 1)).2 = res by have := HRQ.out; simpa using this)
          go_wp2_with fail
          go_roundw
          case rel => exact ⟨k + 1, q + 1, n2, r1, by omega, by go_num, by go_num, HR9.out, O9, by omega, HV2.out, E9, b8, by omega, L9⟩
          case measure => simp [intOf]; omega
        | false =>
          have HR9 := Lib.hid (show (runF (nbN W T bs) (n + 1) (DD.drop (k + 1)) r1 q).2 = res by have := HRQ.out; simpa using this)
          go_wp2_with fail
          go_roundw
          case rel => exact ⟨k + 1, q, n2, r1, by omega, by go_num, rfl, HR9.out, O9, by omega, HV2.out, E9, b8, by omega, L9⟩
          case measure => simp [intOf]; omega
      · obtain rfl : k = DD.length := by omega
        have hge : ¬ ((DD.length : Int) < (DD.length : Int)) := by omega
        have HR9 := Lib.hid (show q = res by have h := HR.out; rw [List.drop_length] at h; exact h)
        go_wp2_with fail
        go_ret
        exact ⟨ret_i (by rw [HR9.out]), B7⟩
end Go.Proofs.Ytnciemnlnijhfaa
