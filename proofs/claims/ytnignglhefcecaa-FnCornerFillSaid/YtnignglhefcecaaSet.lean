
/- Contracts: copies of lists of truths; a region with a cell or without it. -/
import Derived.Test.YtnignglhefcecaaBoxes
import Derived.Test.YtnignglhefcecaaCellApp
import Derived.Test.YtnignglhefcecaaStep
namespace Go.Proofs.Ytnignglhefcecaa
open Go.RowKit

theorem set3 {w : World} {b g o : Nat} {u0 u1 u2 v : Value} (h : w.cell? ⟨b, o, none⟩ = some v) (hb : b < g) : (((w.setCell ⟨g, 0, none⟩ u0).setCell ⟨g, 1, none⟩ u1).setCell ⟨g, 2, none⟩ u2).cell? ⟨b, o, none⟩ = some v := by
  rw [World.cell?_setCell_other _ _ _ _ (by intro e; injection e with e; omega), World.cell?_setCell_other _ _ _ _ (by intro e; injection e with e; omega), World.cell?_setCell_other _ _ _ _ (by intro e; injection e with e; omega)]; exact h
theorem al_cell {w : World} {o : Obj} {p : Addr} {v : Value} (h : w.cell? p = some v) : (w.alloc o).cell? p = some v := (World.cell?_alloc_lt w o p (World.block_lt_of_cell? w _ h)).trans h
theorem dr_cell {w : World} {p : Addr} {v : Value} (h : w.cell? p = some v) : w.drew.cell? p = some v := h
theorem kb1 {w w' : World} {p : Addr} {v : Value} (hb : Below w.drew.heap.size w.drew w') (h : w.cell? p = some v) : w'.cell? p = some v := (hb.cell (World.block_lt_of_cell? w _ h)).trans h
theorem kb2 {w w' : World} {o : Obj} {p : Addr} {v : Value} (hb : Below (w.alloc o).drew.heap.size (w.alloc o).drew w') (h : w.cell? p = some v) : w'.cell? p = some v :=
  (hb.cell (World.block_lt_of_cell? (w.alloc o) _ (al_cell h))).trans (al_cell h)
/-- a new list of truths that may be written -/
def NewWB (xs : List Bool) (w : World) (e : Ending) (w' : World) : Prop :=
  ∃ A : Option Addr, e = .returned (.slice A xs.length xs.length) ∧ Wr w' w.heap.size 4 A (xs.map .bool) ∧ Below w.heap.size w w'
set_option maxRecDepth 100000 in
set_option maxHeartbeats 1000000 in
theorem cloneB0_any (ad : Addr) (c : Nat) (bs : List Bool) (w : World) (hr : Rd w (some ad) (bs.map .bool)) (hne : bs ≠ []) (hn : bs.length ≤ 1000000) :
    Calls Try.prog 62 #[.slice (some ad) bs.length c] w fun e w' => ∃ (A' : Option Addr) (c' : Nat), e = .returned (.slice A' bs.length c') ∧ OwnB w' w.heap.size (.slice A' bs.length c') bs ∧ bs.length ≤ c' ∧ Below w.heap.size w w' := by
  obtain ⟨i0, hi, hz0, hz1, hz2⟩ := info_parts Try.infoB
  have HZ := Lib.hid (And.intro hz0 (And.intro hz1 hz2))
  have hnil : ∀ w, (binOp .eql 25 (.slice (some ad) bs.length c) (.slice none 0 0)).run Try.prog w = .ok (.bool false) w := fun w => Lib.run_eql_slice_nil w 25 4 _ _ _ _ _ Try.underlying25
  clear hz0 hz1 hz2
  have hown0 : (w.alloc (.cells #[] 4)).ownsRow w.heap.size 4 1 (.slice (some ⟨w.heap.size, 0, none⟩) 0 0) 0 [] := World.ownsRow_lit w #[] 0 (Nat.le_refl _) (by simp) (by simp)
  obtain ⟨ad', e', hcell⟩ := (hr.alloc (.cells #[] 4)) (by simpa using hne)
  have HC := Lib.hid (show ∀ j y, (bs.map Value.bool)[j]? = some y → (w.alloc (.cells #[] 4)).cell? (ad.add j) = some y from fun j y hy => by injection e' with e'; rw [e']; exact hcell j y hy)
  clear hcell e' hr
  have h0 : 0 < bs.length := List.length_pos_iff.2 hne
  go_enter Try.func62, Try.ntmps62
  go_wp2_with (at_builtin; refine wpList_append_own _ rfl _ _ 25 rfl w.heap.size 4 i0 (.bool false) 1 1 Try.underlying25 hi HZ.out.1 HZ.out.2.1 HZ.out.2.2 rfl (by decide) _ _ _ rfl hown0 ad bs.length c (bs.map .bool) rfl (by simp) HC.out (by intro y hy; obtain ⟨b, _, rfl⟩ := List.mem_map.1 hy; rfl) (by unfold maxLen; omega) (by omega) (by simp) ?_; intro v' w3 hown3 hg3 _)
  simp only [Nat.zero_add, List.nil_append] at hown3
  obtain ⟨g, cap, rfl, hg, hlt⟩ := hown3.form h0
  go_ret
  refine ⟨_, _, rfl, ⟨_, _, rfl, hown3⟩, ?_, ?_⟩
  · rcases hown3.2 with ⟨e, e2⟩ | ⟨g, cap, cur, e, _, _, h3, _⟩
    · omega
    · injection e with _ _ e3; omega
  · exact ((Below.refl w.heap.size w).alloc (Nat.le_refl _) _).grown hg3 (by simp) (fun k hk => by have h2 : some w.heap.size = some k := hk; injection h2 with h2; omega)
set_option maxHeartbeats 1000000 in
theorem clipB_any (A : Option Addr) (n c : Nat) (w : World) (h : n ≤ c) :
    Calls Try.prog 61 #[.slice A n c] w fun e w' => e = .returned (.slice A n n) ∧ w = w' := by
  go_enter Try.func61, Try.ntmps61
  go_wp2
  go_ret
  exact ⟨rfl, rfl⟩
set_option maxHeartbeats 1000000 in
theorem cloneB_any (ad : Addr) (c : Nat) (bs : List Bool) (w : World) (hr : Rd w (some ad) (bs.map .bool)) (hne : bs ≠ []) (hn : bs.length ≤ 1000000) :
    Calls Try.prog 50 #[.slice (some ad) bs.length c] w (NewWB bs w) := by
  go_enter Try.func50, Try.ntmps50
  go_wp2_with fail
  refine (cloneB0_any ad c bs _ hr hne hn).mono ?_
  rintro e w1 ⟨A', c', rfl, hown, hc, hb⟩
  go_wp2_with (go_at_call 61; refine (clipB_any _ _ _ _ hc).mono ?_; rintro e w' ⟨rfl, rfl⟩)
  go_ret
  obtain ⟨A2, c2, e2, hw⟩ := hown
  exact ⟨A', rfl, Wr.of_own hw, hb⟩
/-- a region, and whether there is one -/
def SetRet (W T : Int) (bs : List Bool) (ok : Bool) (w : World) (e : Ending) (w' : World) : Prop :=
  ∃ (A : Option Addr) (c : Nat), e = .returned (.tuple #[.agg #[.int .i64 W, .int .i64 T, .slice A bs.length c], .bool ok]) ∧ Wr w' w.heap.size 4 A (bs.map .bool) ∧ Below w.heap.size w w'
set_option maxRecDepth 100000 in
set_option maxHeartbeats 1000000 in
theorem iRegionSet_ok (W T : Int) (A : Option Addr) (c k : Nat) (bs : List Bool) (v : Bool) (w : World) (hr : Rd w A (bs.map .bool)) (hv : validB W T bs = true) (hk : k < bs.length) (hv2 : validB W T (bs.set k v) = true) :
    Calls Try.prog 21 #[.agg #[.int .i64 W, .int .i64 T, .slice A bs.length c], .int .i64 k, .bool v] w (SetRet W T (bs.set k v) true w) := by
  obtain ⟨h1, h2, h3, h4, h5, h6⟩ := valid_len hv
  have hi : inB (k : Int) 0 ((bs.length : Int) - 1) = true := inB_t (by omega) (by omega)
  have HH := Lib.hid (fun w => by have := has_any W T A bs.length c k w (by omega); rw [hi] at this; exact this)
  have X0 := C3.new w (.int .i64 W) (.int .i64 T) (.slice A bs.length c) 27
  have X1 := X0.alloc (.cells #[.int .i64 0, .int .i64 0, .slice none 0 0] 27)
  have R1 := (hr.alloc (.cells #[.int .i64 W, .int .i64 T, .slice A bs.length c] 27)).alloc (.cells #[.int .i64 0, .int .i64 0, .slice none 0 0] 27)
  have hm : bs.length ≤ maxLen := by unfold maxLen; omega
  obtain ⟨b, off, rfl, -⟩ := hr.atEM hk
  have hne : bs ≠ [] := by intro e; subst e; simp at hk
  have HV := Lib.hid hv
  have HV2 := Lib.hid hv2
  have HN := Lib.hid hne
  clear hi h6 hv hv2 hne X0 hr
  go_enter Try.func21, Try.ntmps21
  go_wp2_with fail
  refine (iRegionValid_any _ _ _ _ _ _ R1 hm).mono ?_
  rintro e w1 ⟨rfl, b1⟩
  rw [HV.out]
  have B1 := bl_go (bl_alloc (bl_alloc (Below.refl w.heap.size w) (.cells #[.int .i64 W, .int .i64 T, .slice (some ⟨b, off, none⟩) bs.length c] 27)) (.cells #[.int .i64 0, .int .i64 0, .slice none 0 0] 27)) b1
  have X2 := X1.belo b1
  have R2 := R1.belo b1
  have K2 : w1.heap[w.heap.size + 1]? = some (.cells #[.int .i64 0, .int .i64 0, .slice none 0 0] 27 (0, 0)) := (b1.block _ (by simp)).trans (by have := heap_alloc_new (w.alloc (.cells #[.int .i64 W, .int .i64 T, .slice (some ⟨b, off, none⟩) bs.length c] 27)) (.cells #[.int .i64 0, .int .i64 0, .slice none 0 0] 27); simpa using this)
  obtain ⟨x0, x1, x2⟩ := id X2
  clear X1 R1 b1
  go_wp2_with fail
  refine (HH.out _).mono ?_
  rintro e w2 ⟨rfl, b2⟩
  have B2 := bl_go B1 b2
  have X3 := X2.belo b2
  have R3 := R2.belo b2
  have K3 := (b2.block (w.heap.size + 1) (by
    rcases Nat.lt_or_ge (w.heap.size + 1) w1.heap.size with h | h
    · exact h
    · rw [Array.getElem?_eq_none h] at K2; cases K2)).trans K2
  clear x0 x1 x2 X2 R2 K2 b2 B1
  obtain ⟨x0, x1, x2⟩ := id X3
  have s0 := World.block_lt_of_cell? w2 _ x0
  simp only at s0
  go_wp2_with fail
  have hb5 : bs.length ≤ 1000000 := by omega
  go_region_held3 (fun w' => w'.cell? ⟨w.heap.size, 0, none⟩ = some (.int .i64 W) ∧ w'.cell? ⟨w.heap.size, 1, none⟩ = some (.int .i64 T) ∧ w'.cell? ⟨w.heap.size, 2, none⟩ = some (.slice (some ⟨b, off, none⟩) bs.length c))
    (first | (with_reducible exact ⟨x0, x1, x2⟩) | (with_reducible exact ⟨dr_cell x0, dr_cell x1, dr_cell x2⟩) | (with_reducible exact ⟨kb1 b3 x0, kb1 b3 x1, kb1 b3 x2⟩) | (with_reducible exact ⟨al_cell (kb1 b3 x0), al_cell (kb1 b3 x1), al_cell (kb1 b3 x2)⟩) | (with_reducible exact ⟨al_cell x0, al_cell x1, al_cell x2⟩) | (with_reducible exact ⟨dr_cell (al_cell x0), dr_cell (al_cell x1), dr_cell (al_cell x2)⟩) | (with_reducible exact ⟨al_cell (dr_cell x0), al_cell (dr_cell x1), al_cell (dr_cell x2)⟩) | (with_reducible exact ⟨kb2 b3 x0, kb2 b3 x1, kb2 b3 x2⟩) | (with_reducible exact ⟨set3 (kb2 b3 x0) s0, set3 (kb2 b3 x1) s0, set3 (kb2 b3 x2) s0⟩) | go_keep)
    ((go_at_call 50; first | ((with_reducible refine (cloneB_any ⟨b, off, none⟩ c bs _ R3.drew HN.out hb5).mono ?_); rintro e w3 ⟨A3, rfl, q3, b3⟩) | ((with_reducible refine (cloneB_any ⟨b, off, none⟩ c bs _ (R3.alloc _).drew HN.out hb5).mono ?_); rintro e w3 ⟨A3, rfl, q3, b3⟩; obtain ⟨n0, n1, n2, f0, f1, f2⟩ := blk3 ((b3.block w2.heap.size (by simp)).trans (heap_alloc_new w2 _)))))
  · have Q := q3.belo (bl_alloc (Below.refl w3.heap.size w3) (.cells #[.int .i64 W, .int .i64 T, .slice A3 bs.length bs.length] 27))
    have X := C3.new w3 (.int .i64 W) (.int .i64 T) (.slice A3 bs.length bs.length) 27
    have s3 : w2.heap.size ≤ w3.heap.size := b3.size
    have s1 : w.heap.size + 1 < w2.heap.size := by
      rcases Nat.lt_or_ge (w.heap.size + 1) w2.heap.size with h | h
      · exact h
      · rw [Array.getElem?_eq_none h] at K3; cases K3
    have KZ := (((Below.refl w3.heap.size w3).alloc (Nat.le_refl _) (.cells #[.int .i64 W, .int .i64 T, .slice A3 bs.length bs.length] 27)).block (w.heap.size + 1) (by omega)).trans ((b3.block (w.heap.size + 1) s1).trans K3)
    have BX := bl_go (bl_go B2.drew b3) (bl_alloc (Below.refl w3.heap.size w3) (.cells #[.int .i64 W, .int .i64 T, .slice A3 bs.length bs.length] 27))
    have HPG := Lib.hid (show ∀ ad, A3 = some ad → ¬ (w3.heap.size = ad.block) from fun ad e => by
      have := q3.rd.lt e (by intro h; exact HN.out (by simpa using h)); omega)
    have hpw : w.heap.size + 1 < w3.heap.size := by omega
    clear q3 b3 R3 X3 K3 B2 HH x0 x1 x2
    generalize w3.alloc (.cells #[.int .i64 W, .int .i64 T, .slice A3 bs.length bs.length] 27) = wx at *
    generalize w3.heap.size = pb at *
    have Q := Q.lower (lo' := w2.heap.size) (Nat.le_refl _)
    obtain ⟨g, rfl, hg1, hg2, hfz⟩ := Q.form (by intro e; exact HN.out (by simpa using e))
    have hpg := HPG.out _ rfl
    have hgp := fun e => hpg (Eq.symm e)
    have f := hfz k
    have ck := Q.rd.cellEM hk
    simp only [Nat.zero_add] at ck
    have kI : (k : Int) < (bs.length : Int) := by omega
    have HRV := Lib.hid (fun z (R : Rd z (some ⟨g, 0, none⟩) ((bs.set k v).map .bool)) => by
      have := iRegionValid_any W T (some ⟨g, 0, none⟩) bs.length (bs.set k v) z R (by rw [List.length_set]; exact hm)
      rw [List.length_set, HV2.out] at this; exact this)
    have QS := Q.store k (.bool v)
    rw [← List.map_set] at QS
    have XS := X.set (p := ⟨g, k, none⟩) hgp (.bool v)
    have KS : (wx.setCell ⟨g, k, none⟩ (.bool v)).heap[w.heap.size + 1]? = some (.cells #[.int .i64 0, .int .i64 0, .slice none 0 0] 27 (0, 0)) := by
      rw [Below.heap_setCell _ _ _ _ (by simp; omega)]; exact KZ
    have BS : Below w.heap.size w (wx.setCell ⟨g, k, none⟩ (.bool v)) := BX.setCell (by simp; omega) _
    obtain ⟨x0, x1, x2⟩ := id X
    clear hfz Q KZ
    go_wp2_with fail
    clear x0 x1 x2 f ck X BX
    generalize wx.setCell ⟨g, k, none⟩ (.bool v) = wy at *
    refine (HRV.out _ QS.rd).mono ?_
    rintro e w5 ⟨rfl, b5⟩
    have Q5 := QS.belo b5
    have K5 := (b5.block (w.heap.size + 1) (by
      rcases Nat.lt_or_ge (w.heap.size + 1) wy.heap.size with h | h
      · exact h
      · rw [Array.getElem?_eq_none h] at KS; cases KS)).trans KS
    have B5 := bl_go BS b5
    obtain ⟨x0, x1, x2⟩ := XS.belo b5
    obtain ⟨g0, g1, g2, f0, f1, f2⟩ := blk3 K5
    clear QS KS BS b5 K5
    go_wp2_with fail
    refine bodyPost_ret (v := .tuple #[.agg #[.int .i64 W, .int .i64 T, .slice (some ⟨g, 0, none⟩) bs.length bs.length], .bool true]) (by simp [results, Try.results21, go_sem, g0, g1, g2]) rfl ⟨some ⟨g, 0, none⟩, bs.length, by rw [List.length_set], ?_, ?_⟩
    · refine (Q5.lower (by omega)).keep fun g' hg' hg2' => ?_
      have hgg : g = g' := by injection hg' with h; injection h
      subst hgg
      rw [Below.heap_setCell _ _ _ _ (by simp; omega), Below.heap_setCell _ _ _ _ (by simp; omega), Below.heap_setCell _ _ _ _ (by simp; omega)]
    · exact ((B5.setCell (by simp) _).setCell (by simp) _).setCell (by simp) _
  · have s1 : w.heap.size + 1 < w2.heap.size := by
      rcases Nat.lt_or_ge (w.heap.size + 1) w2.heap.size with h | h
      · exact h
      · rw [Array.getElem?_eq_none h] at K3; cases K3
    have hz : (w2.alloc (.cells #[.int .i64 0, .int .i64 0, .slice none 0 0] 27)).drew.heap.size = w2.heap.size + 1 := by simp
    have s3 : w2.heap.size + 1 ≤ w3.heap.size := by have := b3.size; omega
    have KB := (b3.block w2.heap.size (by omega)).trans (heap_alloc_new w2 _)
    have KZ0 := (b3.block (w.heap.size + 1) (by omega)).trans ((((Below.refl w2.heap.size w2).alloc (Nat.le_refl _) (.cells #[.int .i64 0, .int .i64 0, .slice none 0 0] 27)).block (w.heap.size + 1) s1).trans K3)
    have hlo := q3.1
    have HPG := Lib.hid (show ∀ ad, A3 = some ad → ¬ (w2.heap.size = ad.block) from fun ad e => by have := hlo ad e; omega)
    have X : C3 (((w3.setCell ⟨w2.heap.size, 0, none⟩ (.int .i64 W)).setCell ⟨w2.heap.size, 1, none⟩ (.int .i64 T)).setCell ⟨w2.heap.size, 2, none⟩ (.slice A3 bs.length bs.length)) w2.heap.size (.int .i64 W) (.int .i64 T) (.slice A3 bs.length bs.length) := by
      have e1 := heap_setCell_same w3 w2.heap.size 0 _ _ (.int .i64 W) KB
      have e2 := heap_setCell_same _ w2.heap.size 1 _ _ (.int .i64 T) e1
      have e3 := heap_setCell_same _ w2.heap.size 2 _ _ (.slice A3 bs.length bs.length) e2
      obtain ⟨y0, y1, y2, -⟩ := blk3 (by simpa using e3)
      exact ⟨y0, y1, y2⟩
    have KZ : (((w3.setCell ⟨w2.heap.size, 0, none⟩ (.int .i64 W)).setCell ⟨w2.heap.size, 1, none⟩ (.int .i64 T)).setCell ⟨w2.heap.size, 2, none⟩ (.slice A3 bs.length bs.length)).heap[w.heap.size + 1]? = some (.cells #[.int .i64 0, .int .i64 0, .slice none 0 0] 27 (0, 0)) := by
      rw [Below.heap_setCell _ _ _ _ (by simp; omega), Below.heap_setCell _ _ _ _ (by simp; omega), Below.heap_setCell _ _ _ _ (by simp; omega)]; exact KZ0
    have BX : Below w.heap.size w (((w3.setCell ⟨w2.heap.size, 0, none⟩ (.int .i64 W)).setCell ⟨w2.heap.size, 1, none⟩ (.int .i64 T)).setCell ⟨w2.heap.size, 2, none⟩ (.slice A3 bs.length bs.length)) := (((bl_go (bl_alloc B2 (.cells #[.int .i64 0, .int .i64 0, .slice none 0 0] 27)).drew b3).setCell (by simp; omega) _).setCell (by simp; omega) _).setCell (by simp; omega) _
    have Q : Wr (((w3.setCell ⟨w2.heap.size, 0, none⟩ (.int .i64 W)).setCell ⟨w2.heap.size, 1, none⟩ (.int .i64 T)).setCell ⟨w2.heap.size, 2, none⟩ (.slice A3 bs.length bs.length)) w2.heap.size 4 A3 (bs.map .bool) := by
      refine (q3.lower (by omega)).keep fun g' hg' hg2' => ?_
      have := HPG.out _ hg'
      simp only at this
      rw [Below.heap_setCell _ _ _ _ (by simp; omega), Below.heap_setCell _ _ _ _ (by simp; omega), Below.heap_setCell _ _ _ _ (by simp; omega)]
    clear q3 b3 R3 X3 K3 B2 HH x0 x1 x2 KB KZ0 hlo hz n0 n1 n2 f0 f1 f2
    generalize ((w3.setCell ⟨w2.heap.size, 0, none⟩ (.int .i64 W)).setCell ⟨w2.heap.size, 1, none⟩ (.int .i64 T)).setCell ⟨w2.heap.size, 2, none⟩ (.slice A3 bs.length bs.length) = wx at *
    generalize w2.heap.size = pb at *
    have hpw : w.heap.size + 1 < pb := s1
    obtain ⟨g, rfl, hg1, hg2, hfz⟩ := Q.form (by intro e; exact HN.out (by simpa using e))
    have hpg := HPG.out _ rfl
    have hgp := fun e => hpg (Eq.symm e)
    have f := hfz k
    have ck := Q.rd.cellEM hk
    simp only [Nat.zero_add] at ck
    have kI : (k : Int) < (bs.length : Int) := by omega
    have HRV := Lib.hid (fun z (R : Rd z (some ⟨g, 0, none⟩) ((bs.set k v).map .bool)) => by
      have := iRegionValid_any W T (some ⟨g, 0, none⟩) bs.length (bs.set k v) z R (by rw [List.length_set]; exact hm)
      rw [List.length_set, HV2.out] at this; exact this)
    have QS := Q.store k (.bool v)
    rw [← List.map_set] at QS
    have XS := X.set (p := ⟨g, k, none⟩) hgp (.bool v)
    have KS : (wx.setCell ⟨g, k, none⟩ (.bool v)).heap[w.heap.size + 1]? = some (.cells #[.int .i64 0, .int .i64 0, .slice none 0 0] 27 (0, 0)) := by
      rw [Below.heap_setCell _ _ _ _ (by simp; omega)]; exact KZ
    have BS : Below w.heap.size w (wx.setCell ⟨g, k, none⟩ (.bool v)) := BX.setCell (by simp; omega) _
    obtain ⟨x0, x1, x2⟩ := id X
    clear hfz Q KZ
    go_wp2_with fail
    clear x0 x1 x2 f ck X BX
    generalize wx.setCell ⟨g, k, none⟩ (.bool v) = wy at *
    refine (HRV.out _ QS.rd).mono ?_
    rintro e w5 ⟨rfl, b5⟩
    have Q5 := QS.belo b5
    have K5 := (b5.block (w.heap.size + 1) (by
      rcases Nat.lt_or_ge (w.heap.size + 1) wy.heap.size with h | h
      · exact h
      · rw [Array.getElem?_eq_none h] at KS; cases KS)).trans KS
    have B5 := bl_go BS b5
    obtain ⟨x0, x1, x2⟩ := XS.belo b5
    obtain ⟨g0, g1, g2, f0, f1, f2⟩ := blk3 K5
    clear QS KS BS b5 K5
    go_wp2_with fail
    refine bodyPost_ret (v := .tuple #[.agg #[.int .i64 W, .int .i64 T, .slice (some ⟨g, 0, none⟩) bs.length bs.length], .bool true]) (by simp [results, Try.results21, go_sem, g0, g1, g2]) rfl ⟨some ⟨g, 0, none⟩, bs.length, by rw [List.length_set], ?_, ?_⟩
    · refine (Q5.lower (by omega)).keep fun g' hg' hg2' => ?_
      have hgg : g = g' := by injection hg' with h; injection h
      subst hgg
      rw [Below.heap_setCell _ _ _ _ (by simp; omega), Below.heap_setCell _ _ _ _ (by simp; omega), Below.heap_setCell _ _ _ _ (by simp; omega)]
    · exact ((B5.setCell (by simp) _).setCell (by simp) _).setCell (by simp) _
end Go.Proofs.Ytnignglhefcecaa
