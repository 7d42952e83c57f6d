/- Contract: the program's PuzzleText. -/
import Derived.Test.YtnciemnlnijhfaaTextS
import Derived.Test.YtnciemnlnijhfaaShelfJ
namespace Go.Proofs.Ytnciemnlnijhfaa
open Go.RowKit

theorem extraJ : Go.Proofs.Builder.Extra Try.prog Try.laysJoin_ren where
  sizeBuilder := by kernel_rfl
  liesBuilder := by kernel_rfl
  t5 := Try.underlying5
  a5 := Try.isAgg5
  z5 := Try.sizeOf5
  v5 := Try.zeroValue5
  infoByte := by kernel_rfl
  cellsByte := by kernel_rfl
  sizeByte := by kernel_rfl
  neB5 := by decide
theorem join_any (bk o c : Nat) (xs : List ByteArray) (sep : ByteArray) (w : World) (hcells : ∀ (j : Nat) x, xs[j]? = some x → w.cell? ⟨bk, o + j, none⟩ = some (.string x)) (hbk : bk < w.heap.size) (hN : xs.length ≤ 140737488355328) (hcap : xs.length ≤ c) (hlen : (Lib.join (xs.map (·.data.toList)) sep.data.toList).length ≤ 140737488355328) :
    Calls Try.prog 131 #[.slice (some ⟨bk, o, none⟩) xs.length c, .string sep] w fun e w' => e = .returned (.string ⟨(Lib.join (xs.map (·.data.toList)) sep.data.toList).toArray⟩) ∧ Below w.heap.size w w' :=
  Any.strings_Join Try.laysJoin extraJ bk o c xs sep w hcells hbk hN hcap hlen
/-- the rows' texts -/
def rowsJ (W T : Nat) (ds : List Int) (j : Nat) : List ByteArray := (List.range j).map fun i => ⟨(rowT W ds (T - 1 - i) W).toArray⟩
theorem rowsJ_len (W T : Nat) (ds : List Int) (j : Nat) : (rowsJ W T ds j).length = j := by unfold rowsJ; simp
theorem rowsJ_succ (W T : Nat) (ds : List Int) (j : Nat) : rowsJ W T ds (j + 1) = rowsJ W T ds j ++ [⟨(rowT W ds (T - 1 - j) W).toArray⟩] := by unfold rowsJ; rw [List.range_succ, List.map_append]; rfl
theorem join_done (W T : Nat) (ds : List Int) (h1 : 1 ≤ T) (h6 : T ≤ 6) : Lib.join ((rowsJ W T ds T).map (·.data.toList)) [47] = doneT W T ds T := by
  rcases (show T = 1 ∨ T = 2 ∨ T = 3 ∨ T = 4 ∨ T = 5 ∨ T = 6 from by omega) with rfl | rfl | rfl | rfl | rfl | rfl <;>
    simp [rowsJ, doneT, Lib.join, List.intercalate, List.range_succ]
set_option maxHeartbeats 1000000 in
theorem sign_any (A' : Option Addr) (c' n k bd : Nat) (ds : List Int) (w : World) (hr' : Rd w A' (ds.map (.int .i64))) (hd : w.cell? ⟨bd, 0, none⟩ = some (.slice A' n c')) (hn : ds.length = n) (hk : k < n) (h1 : -1 ≤ ds.getD k 0) (h2 : ds.getD k 0 ≤ 6) :
    Calls Try.prog 95 #[.int .i64 k, .pointer (some ⟨bd, 0, none⟩)] w fun e w' => e = .returned (.int .u8 ((sgT (ds.getD k 0)).toNat : Int)) ∧ w = w' := by
  obtain ⟨b, off, rfl, hc⟩ := hr'.atEM (k := k) (by omega)
  have e : ds.getD k 0 = ds[k]'(by omega) := by rw [List.getD_eq_getElem?_getD, List.getElem?_eq_getElem (by omega)]; rfl
  rw [e] at h1 h2 ⊢
  obtain ⟨d, hdd⟩ : ∃ d, ds[k]'(by omega) = d := ⟨_, rfl⟩
  rw [hdd] at hc h1 h2 ⊢
  clear hdd e hn
  have hkI : (k : Int) < (n : Int) := by omega
  by_cases hneg : d < 0
  · obtain rfl : d = -1 := by omega
    have HS := Lib.hid (show ((sgT (-1)).toNat : Int) = 46 from rfl)
    go_enter Try.func95, Try.ntmps95
    go_wp2
    go_ret
    exact ⟨by rw [HS.out]; rfl, rfl⟩
  · obtain ⟨m, rfl⟩ := Int.eq_ofNat_of_zero_le (show 0 ≤ d by omega)
    have hm : m ≤ 6 := by omega
    have HS := Lib.hid (show ((sgT (m : Int)).toNat : Int) = 48 + (m : Int) by rw [sg_pos rfl, UInt8.toNat_ofNat']; omega)
    have hw1 : IntKind.u8.wrap (m : Int) = (m : Int) := by revert m; intro m; intros; rcases (show m = 0 ∨ m = 1 ∨ m = 2 ∨ m = 3 ∨ m = 4 ∨ m = 5 ∨ m = 6 from by omega) with rfl | rfl | rfl | rfl | rfl | rfl | rfl <;> decide
    have hw2 : IntKind.u8.wrap (48 + (m : Int)) = 48 + (m : Int) := by rcases (show m = 0 ∨ m = 1 ∨ m = 2 ∨ m = 3 ∨ m = 4 ∨ m = 5 ∨ m = 6 from by omega) with rfl | rfl | rfl | rfl | rfl | rfl | rfl <;> decide
    go_enter Try.func95, Try.ntmps95
    go_wp2
    go_ret
    exact ⟨by rw [HS.out]; rfl, rfl⟩
theorem Try.infoT : (Try.prog.info? 9).map (fun i => (i.zero, i.size, i.bytes)) = some (some (.string ⟨#[]⟩), 1, 16) := by kernel_rfl
theorem Try.infoU : (Try.prog.info? 5).map (fun i => (i.zero, i.size, i.bytes)) = some (some (.int .u8 0), 1, 1) := by kernel_rfl
/-- texts that the call owns -/
def OwnT (w : World) (base : Nat) (v : Value) (xs : List ByteArray) : Prop :=
  ∃ (A : Option Addr) (c : Nat), v = .slice A xs.length c ∧ w.ownsRow base 9 1 v xs.length (xs.map .string)
theorem OwnT.nil (w : World) (base : Nat) : OwnT w base (.slice none 0 0) [] := ⟨none, 0, rfl, World.ownsRow_nil _ _ _ _⟩
theorem OwnT.belo {w w' : World} {base : Nat} {v : Value} {xs : List ByteArray} (h : OwnT w base v xs) (hb : Below w.heap.size w w') : OwnT w' base v xs := by
  obtain ⟨A, c, e, h⟩ := h; exact ⟨A, c, e, own_below h hb (Nat.le_refl _)⟩
theorem OwnT.keepB {w0 w1 z : World} {base : Nat} {v : Value} {xs : List ByteArray} (h : OwnT w0 base v xs) (hb : Below w0.heap.size w0 w1) (hz : Below w0.heap.size w1 z) : OwnT z base v xs := by
  obtain ⟨A, c, e, h⟩ := h; exact ⟨A, c, e, own_below h (hb.trans hz) (Nat.le_refl _)⟩
section
variable {ops : Array Oper} {rest : List Oper} {o : Oper} {a : Act} {Q : Exit → Act → World → Prop}
theorem app_str (w : World) (hgd : o.guard = none) (s x : Operand) (ho : o.op = .call { callee := .builtin .append, args := #[s, x], argTypes := #[122, 122] })
    (base : Nat) (v : Value) (xs : List ByteArray) (hs : a.eval s = v) (hown : OwnT w base v xs) (u : ByteArray) (hx : a.eval x = .slice (some ⟨w.heap.size, 0, none⟩) 1 1) (hn : xs.length ≤ 1000000000000) (hbase : base ≤ w.heap.size)
    (h : ∀ (v' : Value) (w' : World), OwnT w' base v' (xs ++ [u]) → Below base (w.alloc (.cells #[.string u] 9)) w' → wpList Try.prog ops Q rest (a.put o.dst v') w') :
    wpList Try.prog ops Q (o :: rest) a (w.alloc (.cells #[.string u] 9)) := by
  obtain ⟨i0, hi, hz0, hz1, hz2⟩ := info_parts Try.infoT
  obtain ⟨A, c, e, hown⟩ := hown
  refine wpList_append_own _ hgd s x 122 ho base 9 i0 (.string ⟨#[]⟩) 1 16 Try.underlying122 hi hz0 hz1 hz2 rfl (by decide) v _ _ hs (hown.alloc _) ⟨w.heap.size, 0, none⟩ 1 1 [.string u] hx rfl ?_ ?_ ?_ ?_ ?_ ?_
  · intro j y hj
    match j, hj with
    | 0, hj => simp at hj; subst hj; simp [Addr.add]
  · intro y hy; simp at hy; subst hy; rfl
  · unfold maxLen; omega
  · omega
  · simp; omega
  · intro v' w' h1 h2 _
    have e1 : xs.map Value.string ++ [.string u] = (xs ++ [u]).map .string := by simp
    rw [e1] at h1
    obtain ⟨g, cap, rfl, _, _⟩ := h1.form (by omega)
    refine h _ w' ⟨_, _, by simp; exact ⟨rfl, rfl⟩, ?_⟩ ((Below.refl base _).grown h2 (by simp; omega) (fun k hk => (hown.lt k hk).1))
    have e2 : (xs ++ [u]).length = xs.length + 1 := by simp
    rw [e2]; exact h1
end
/-- a row's signs, the first x of them written -/
def rowU (W : Nat) (ds : List Int) (y x : Nat) : List Value := (rowT W ds y x).map (fun u => Value.int .u8 (u.toNat : Int)) ++ List.replicate (W - x) (.int .u8 0)
theorem rowU_len (W : Nat) (ds : List Int) (y x : Nat) (h : x ≤ W) : (rowU W ds y x).length = W := by unfold rowU; rw [List.length_append, List.length_map, rowT_len, List.length_replicate]; omega
theorem rowU_set (W : Nat) (ds : List Int) (y x : Nat) (h : x < W) : (rowU W ds y x).set x (.int .u8 ((sgT (ds.getD (y * W + x) 0)).toNat : Int)) = rowU W ds y (x + 1) := by
  unfold rowU
  have hl : ((rowT W ds y x).map (fun u => Value.int .u8 (u.toNat : Int))).length = x := by rw [List.length_map, rowT_len]
  rw [List.set_append_right _ _ (by rw [hl]; exact Nat.le_refl _), hl, Nat.sub_self, rowT_succ, List.map_append]
  obtain ⟨m, hm⟩ : ∃ m, W - x = m + 1 := ⟨W - x - 1, by omega⟩
  rw [hm, List.replicate_succ, List.set_cons_zero, show W - (x + 1) = m by omega]
  simp
theorem make_u8 (W : World) (n : Nat) (hn : n ≤ 1000000) : ∃ w' : World, (Instr.makeSlice 22 (.int .i64 n) (.int .i64 n)).run Try.prog W = .ok (.slice (some ⟨W.heap.size, 0, none⟩) n n) w' ∧ Wr w' W.heap.size 5 (some ⟨W.heap.size, 0, none⟩) (List.replicate n (.int .u8 0)) ∧ Below W.heap.size W w' ∧ W.heap.size < w'.heap.size := by
  obtain ⟨i0, hi, hz0, hz1, hz2⟩ := info_parts Try.infoU
  obtain ⟨w', hrun, r1, r2⟩ := run_make_full (P := Try.prog) W W.heap.size 22 5 i0 (.int .u8 0) 1 Try.underlying22 hi hz0 hz1 .i64 .i64 n (by rw [hz2]; omega) (by unfold maxLen; omega) (Nat.le_refl _)
  refine ⟨w', hrun, ?_, ((Below.refl W.heap.size W).grown r2 (Nat.le_refl _) (fun k hk => by cases hk)), own_lt r1 _ rfl⟩
  have h0 := Wr.of_own r1
  rw [show (Value.int .u8 0).cells = #[.int .u8 0] from rfl, toList_madeCells_one] at h0
  simpa using h0
theorem rowU_zero (W : Nat) (ds : List Int) (y : Nat) : rowU W ds y 0 = List.replicate W (.int .u8 0) := by unfold rowU rowT; simp
theorem conv_row {w : World} {g lo W y : Nat} {ds : List Int} (h : Wr w lo 5 (some ⟨g, 0, none⟩) (rowU W ds y W)) :
    (convert 22 9 (.slice (some ⟨g, 0, none⟩) W W)).run Try.prog w = .ok (.string ⟨(rowT W ds y W).toArray⟩) w := by
  have e := run_convert_bytes_back (P := Try.prog) w 22 9 5 ⟨g, 0, none⟩ W (rowT W ds y W) Try.underlying22 Try.underlying5 Try.underlying9 (fun j hj => by
    have hl := rowU_len W ds y W (Nat.le_refl _)
    have hj' : j < W := by rw [rowT_len] at hj; exact hj
    have h2 := h.rd.cellE (k := j) (by rw [hl]; exact hj')
    rw [Nat.zero_add] at h2
    rw [add_ofs, Nat.zero_add, h2]
    unfold rowU
    rw [List.getElem_append_left (by rw [List.length_map]; exact hj)]
    simp)
  rw [rowT_len] at e
  exact e
set_option maxRecDepth 100000 in
set_option maxHeartbeats 8000000 in
theorem rowsText_any (W T N : Nat) (A A' : Option Addr) (n c c' bd : Nat) (ds : List Int) (w : World) (h1 : 1 ≤ W) (h2 : W ≤ 6) (h3 : 1 ≤ T) (h4 : T ≤ 6) (hN : W * T = N) (hN36 : N ≤ 36) (hl : ds.length = N)
    (hr' : Rd w A' (ds.map (.int .i64))) (hd : w.cell? ⟨bd, 0, none⟩ = some (.slice A' N c')) (hdg : ∀ k, k < N → -1 ≤ ds.getD k 0 ∧ ds.getD k 0 ≤ 6) :
    Calls Try.prog 94 #[.agg #[.int .i64 W, .int .i64 T, .slice A n c], .func (.func 95) #[] #[.pointer (some ⟨bd, 0, none⟩)]] w fun e w' => e = .returned (.string ⟨(doneT W T ds T).toArray⟩) ∧ Below w.heap.size w w' := by
  have HDG := Lib.hid hdg
  have HN := Lib.hid hN
  have HL := Lib.hid hl
  clear hdg hN hl
  have X0 := C3.new w (.int .i64 W) (.int .i64 T) (.slice A n c) 25
  have B0 := bl_alloc (Below.refl w.heap.size w) (.cells #[.int .i64 W, .int .i64 T, .slice A n c] 25)
  have O0 : OwnT (w.alloc (.cells #[.int .i64 W, .int .i64 T, .slice A n c] 25)) (w.heap.size + 1) (.slice none 0 0) (rowsJ W T ds (T - T)) := by rw [Nat.sub_self]; exact OwnT.nil _ _
  have z0 : w.heap.size + 1 ≤ (w.alloc (.cells #[.int .i64 W, .int .i64 T, .slice A n c] 25)).heap.size := by simp
  obtain ⟨x0, x1, x2⟩ := id X0
  go_enter Try.func94, Try.ntmps94
  go_wp2_with fail
  generalize w.alloc (.cells #[.int .i64 W, .int .i64 T, .slice A n c] 25) = wa at *
  clear x0 x1 x2
  go_loopw [5, 6] (fun v5 v6 wr => ∃ r : Nat, r ≤ T ∧ v6 = .int .i64 ((r : Int) - 1) ∧ OwnT wr (w.heap.size + 1) v5 (rowsJ W T ds (T - r)) ∧ Below w.heap.size w wr ∧ C3 wr w.heap.size (.int .i64 W) (.int .i64 T) (.slice A n c) ∧ w.heap.size + 1 ≤ wr.heap.size) (fun _ v6 _ => (intOf v6 + 1).toNat)
  case atStart => exact ⟨T, Nat.le_refl _, rfl, O0, B0, X0, z0⟩
  case round =>
    clear X0 B0 O0 z0
    obtain ⟨r, hrT, rfl, O1, B1, X1, z1⟩ := hrel
    obtain ⟨x0, x1, x2⟩ := id X1
    rcases Nat.eq_zero_or_pos r with rfl | hr0
    · have ez : (((0 : Nat) : Int) - 1) = -1 := rfl
      rw [ez]
      rw [Nat.sub_zero] at O1
      obtain ⟨A3, c3, rfl, o3⟩ := O1
      have hjl := rowsJ_len W T ds T
      have hne : (rowsJ W T ds T).map Value.string ≠ [] := by intro e; have := congrArg List.length e; rw [List.length_map, hjl] at this; simp at this; omega
      have R3 := Rd.own o3
      obtain ⟨g3, e3, hg3⟩ : ∃ g, A3 = some ⟨g, 0, none⟩ ∧ (rowsJ W T ds T).length ≤ c3 := by
        rcases o3.2 with ⟨e, -⟩ | ⟨g, cap, cur, hv, -, -, h5, -⟩
        · injection e with _ e2; rw [hjl] at e2; omega
        · injection hv with ha _ hc; subst hc; exact ⟨g, ha, h5⟩
      subst e3
      have hcells : ∀ (j : Nat) x, (rowsJ W T ds T)[j]? = some x → wr.cell? ⟨g3, 0 + j, none⟩ = some (.string x) := fun j x hx => by
        obtain ⟨hj, e⟩ := List.getElem?_eq_some_iff.1 hx
        rw [R3.cellEM hj, e]
      have hbk : g3 < wr.heap.size := R3.lt rfl hne
      have hdl := doneT_len W T ds T
      have hmul : T * (W + 1) ≤ 6 * 7 := Nat.mul_le_mul h4 (by omega)
      have CJ := Lib.hid (join_any g3 0 c3 (rowsJ W T ds T) ⟨#[47]⟩ wr hcells hbk (by omega) hg3 (by rw [show (⟨#[47]⟩ : ByteArray).data.toList = [47] from rfl, join_done W T ds h3 h4]; omega))
      have HJ := Lib.hid (show Lib.join ((rowsJ W T ds T).map (·.data.toList)) (⟨#[47]⟩ : ByteArray).data.toList = doneT W T ds T from join_done W T ds h3 h4)
      clear hcells hdl hmul hne hjl R3 o3
      go_wp2_with fail
      refine CJ.out.mono ?_
      rintro e w2 ⟨rfl, b2⟩
      rw [HJ.out]
      go_wp2
      go_ret
      exact ⟨rfl, bl_go B1 b2⟩
    · obtain ⟨y, rfl⟩ : ∃ y, r = y + 1 := ⟨r - 1, by omega⟩
      have ey : (((y + 1 : Nat) : Int) - 1) = (y : Int) := by omega
      rw [ey]
      have E1 := Lib.hid (show T - 1 - (T - (y + 1)) = y by omega)
      have E2 := Lib.hid (show T - y = (T - (y + 1)) + 1 by omega)
      clear ey
      have yT : y < T := by omega
      obtain ⟨w3, hrun, R3, b3, z3⟩ := make_u8 wr W (by omega)
      rw [← rowU_zero W ds y] at R3
      have B3 := bl_go B1 b3
      have X3 := X1.belo b3
      have HO := Lib.hid (fun (z : World) (hb : Below wr.heap.size w3 z) => O1.keepB b3 hb)
      go_wp2_with fail
      clear hrun x0 x1 x2 B1 X1 O1
      generalize wr.heap.size = gr at *
      obtain ⟨wp, hwp⟩ : ∃ wp : World, wp = w3 := ⟨_, rfl⟩
      subst hwp
      go_loopw [8, 21] (fun _ v21 wr => ∃ x : Nat, x ≤ W ∧ v21 = .int .i64 x ∧ Wr wr gr 5 (some ⟨gr, 0, none⟩) (rowU W ds y x) ∧ Below gr wp wr) (fun _ v21 _ => W - (intOf v21).toNat)
      case atStart => exact ⟨0, Nat.zero_le _, rfl, R3, Below.refl _ _⟩
      case round =>
        clear R3
        obtain ⟨x, hxW, rfl, R4, B4⟩ := hrel
        have B5 : Below w.heap.size w wr := B3.trans (B4.mono (by omega))
        have X5 : C3 wr w.heap.size (.int .i64 W) (.int .i64 T) (.slice A n c) := X3.below B4 (by omega)
        obtain ⟨x0, x1, x2⟩ := id X5
        by_cases hx : x < W
        · obtain ⟨yw, hyw⟩ : ∃ yw, y * W = yw := ⟨_, rfl⟩
          have hlt : yw + x < N := by
            rw [← HN.out, ← hyw]
            have : (y + 1) * W ≤ T * W := Nat.mul_le_mul_right _ yT
            rw [Nat.succ_mul, Nat.mul_comm T W] at this
            omega
          have hym : ((y : Int) * (W : Int)) = (yw : Int) := by rw [← hyw]; simp
          have hdk := HDG.out (yw + x) hlt
          have CSG := Lib.hid (sign_any A' c' N (yw + x) bd ds wr (hr'.belo B5) (((bcell B5).1 _ _ (by have := World.block_lt_of_cell? w _ hd; simpa using this)).trans hd) HL.out hlt hdk.1 hdk.2)
          have HSET := Lib.hid (show (rowU W ds y x).set x (.int .u8 ((sgT (ds.getD (yw + x) 0)).toNat : Int)) = rowU W ds y (x + 1) by rw [← hyw]; exact rowU_set W ds y x hx)
          have hlen := rowU_len W ds y x hxW
          obtain ⟨g', e', -, -, hfr⟩ := R4.form (by intro e; rw [e] at hlen; simp at hlen; omega)
          injection e' with e'
          injection e' with e'
          subst e'
          have hf := hfr x
          have hc2 := R4.rd.cellE (k := x) (by rw [hlen]; exact hx)
          rw [Nat.zero_add] at hc2
          obtain ⟨ov, hc3⟩ : ∃ ov, wr.cell? ⟨gr, x, none⟩ = some ov := ⟨_, hc2⟩
          obtain ⟨k, hk⟩ : ∃ k, yw + x = k := ⟨_, rfl⟩
          have hkc : ((yw : Int) + (x : Int)) = (k : Int) := by omega
          rw [hk] at CSG HSET hlt
          have hxI : (x : Int) < (W : Int) := by omega
          clear hyw hdk hfr hlen hc2
          generalize ((sgT (ds.getD k 0)).toNat : Int) = sv at *
          have h36 : k ≤ 36 := by omega
          have h0k : yw ≤ 36 := by omega
          clear hk
          go_wp2_with fail
          refine CSG.out.mono ?_
          rintro e w7 ⟨rfl, rfl⟩
          go_wp2_with fail
          have R7 := R4.store x (.int .u8 sv)
          rw [HSET.out] at R7
          go_roundw
          case rel => exact ⟨x + 1, by omega, by go_num, R7, B4.setCell (Nat.le_refl _) _⟩
          case measure => simp [intOf]; omega
        · obtain rfl : x = W := by omega
          have hcv := conv_row R4
          have O5 := HO.out wr B4
          have hsl : (rowsJ x T ds (T - (y + 1))).length ≤ 1000000000000 := by rw [rowsJ_len]; omega
          have hsz : w.heap.size + 1 ≤ wr.heap.size := by have := B4.size; omega
          have HSU := Lib.hid (rowsJ_succ x T ds (T - (y + 1)))
          go_wp2_with (at_builtin; refine app_str _ rfl _ _ rfl (w.heap.size + 1) _ _ rfl O5 _ rfl hsl hsz ?_; intro v8 w8 O8 B8)
          have b8 : Below (w.heap.size + 1) wr w8 := ((Below.refl _ _).alloc hsz _).trans B8
          have B9 := B5.trans (b8.mono (by omega))
          have X9 := X5.below b8 (by omega)
          have O9 : OwnT w8 (w.heap.size + 1) v8 (rowsJ x T ds (T - y)) := by rw [E2.out, HSU.out, E1.out]; exact O8
          have z9 : w.heap.size + 1 ≤ w8.heap.size := by have := b8.size; omega
          go_roundw
          case rel => exact ⟨y, by omega, rfl, O9, B9, X9, z9⟩
          case measure => simp [intOf]
set_option maxHeartbeats 2000000 in
theorem iPuzzleText_no (W T : Int) (A A' : Option Addr) (c c' : Nat) (bs : List Bool) (ds : List Int) (w : World) (hr : Rd w A (bs.map .bool)) (hr' : Rd w A' (ds.map (.int .i64))) (hn : bs.length ≤ maxLen) (hv : puzVB W T bs ds = false) :
    Calls Try.prog 40 #[.agg #[.int .i64 W, .int .i64 T, .slice A bs.length c], .slice A' ds.length c'] w fun e w' => e = .returned (.string ⟨#[]⟩) ∧ Below w.heap.size w w' := by
  have CV := Lib.hid (fun (z : World) (R : Rd z A (bs.map .bool)) (R' : Rd z A' (ds.map (.int .i64))) => by have := iPuzzleValid_any W T A A' c c' bs ds z R R' hn; rw [hv] at this; exact this)
  clear hv
  have B0 := bl_alloc (bl_alloc (Below.refl w.heap.size w) (.cells #[.int .i64 W, .int .i64 T, .slice A bs.length c] 25)) (.cells #[.slice A' ds.length c'] 39)
  go_enter Try.func40, Try.ntmps40
  go_wp2_with fail
  refine (CV.out _ (hr.belo B0) (hr'.belo B0)).mono ?_
  rintro e w2 ⟨rfl, b2⟩
  go_wp2
  go_ret
  exact ⟨rfl, bl_go B0 b2⟩
set_option maxRecDepth 100000 in
set_option maxHeartbeats 2000000 in
theorem iPuzzleText_ok (W T : Nat) (A A' : Option Addr) (c c' : Nat) (bs : List Bool) (ds : List Int) (w : World) (hr : Rd w A (bs.map .bool)) (hr' : Rd w A' (ds.map (.int .i64))) (hn : bs.length ≤ maxLen) (hv : puzVB W T bs ds = true) :
    Calls Try.prog 40 #[.agg #[.int .i64 W, .int .i64 T, .slice A bs.length c], .slice A' ds.length c'] w fun e w' => e = .returned (.string ⟨(doneT W T ds T).toArray⟩) ∧ Below w.heap.size w w' := by
  have CV := Lib.hid (fun (z : World) (R : Rd z A (bs.map .bool)) (R' : Rd z A' (ds.map (.int .i64))) => by have := iPuzzleValid_any W T A A' c c' bs ds z R R' hn; rw [hv] at this; exact this)
  unfold puzVB at hv
  simp only [Bool.and_eq_true] at hv
  obtain ⟨hv, hp⟩ := hv
  obtain ⟨h1, h2, h3, h4, h5, h6⟩ := valid_len hv
  obtain ⟨hdl, hdig⟩ := dig_of hp
  have hwt : W * T = ds.length := by
    have : ((W * T : Nat) : Int) = (W : Int) * (T : Int) := by simp
    omega
  have hdg : ∀ k, k < ds.length → -1 ≤ ds.getD k 0 ∧ ds.getD k 0 ≤ 6 := fun k hk => by
    rw [List.getD_eq_getElem?_getD, List.getElem?_eq_getElem hk, Option.getD_some]
    have hkb : k < bs.length := by omega
    have := hdig k hkb hk
    cases hb : bs[k] with
    | true => have := this.1 hb; omega
    | false => have := this.2 hb; omega
  have CR := Lib.hid (fun (z : World) (bd : Nat) (R' : Rd z A' (ds.map (.int .i64))) (hd : z.cell? ⟨bd, 0, none⟩ = some (.slice A' ds.length c')) => rowsText_any W T ds.length A A' bs.length c c' bd ds z (by omega) (by omega) (by omega) (by omega) hwt (by omega) rfl R' hd hdg)
  clear hv hp hdig hwt hdg h6 hdl
  have X0 := (C3.new w (.int .i64 W) (.int .i64 T) (.slice A bs.length c) 25).alloc (.cells #[.slice A' ds.length c'] 39)
  have B0 := bl_alloc (bl_alloc (Below.refl w.heap.size w) (.cells #[.int .i64 W, .int .i64 T, .slice A bs.length c] 25)) (.cells #[.slice A' ds.length c'] 39)
  have D0 : ((w.alloc (.cells #[.int .i64 W, .int .i64 T, .slice A bs.length c] 25)).alloc (.cells #[.slice A' ds.length c'] 39)).cell? ⟨w.heap.size + 1, 0, none⟩ = some (.slice A' ds.length c') := by
    have := cell_of_row _ _ 0 _ _ _ (heap_alloc_new (w.alloc (.cells #[.int .i64 W, .int .i64 T, .slice A bs.length c] 25)) (.cells #[.slice A' ds.length c'] 39))
    simp at this ⊢
  go_enter Try.func40, Try.ntmps40
  go_wp2_with fail
  refine (CV.out _ (hr.belo B0) (hr'.belo B0)).mono ?_
  rintro e w2 ⟨rfl, b2⟩
  have B2 := bl_go B0 b2
  obtain ⟨x0, x1, x2⟩ := X0.belo b2
  have D2 : w2.cell? ⟨w.heap.size + 1, 0, none⟩ = some (.slice A' ds.length c') := ((bcell b2).1 _ _ (by simp)).trans D0
  go_wp2_with fail
  refine (CR.out _ _ (hr'.belo B2) D2).mono ?_
  rintro e w3 ⟨rfl, b3⟩
  go_wp2
  go_ret
  exact ⟨rfl, bl_go B2 b3⟩
/-- both write the same text -/
theorem text_both (W T : Int) (bs : List Bool) (ds : List Int) (hn : bs.length ≤ maxLen) (hn' : ds.length ≤ maxLen) : ∃ s0 : ByteArray,
    (∀ (w : World) (A A' : Option Addr) (c c' : Nat), Rd w A (bs.map .bool) → Rd w A' (ds.map (.int .i64)) → Calls Try.prog 37 #[.agg #[.int .i64 W, .int .i64 T, .slice A bs.length c], .slice A' ds.length c'] w fun e w' => e = .returned (.string s0) ∧ Below w.heap.size w w') ∧
    (∀ (w : World) (A A' : Option Addr) (c c' : Nat), Rd w A (bs.map .bool) → Rd w A' (ds.map (.int .i64)) → Calls Try.prog 40 #[.agg #[.int .i64 W, .int .i64 T, .slice A bs.length c], .slice A' ds.length c'] w fun e w' => e = .returned (.string s0) ∧ Below w.heap.size w w') := by
  cases hv : puzVB W T bs ds with
  | false => exact ⟨⟨#[]⟩, fun w A A' c c' R R' => sPuzzleText_no W T A A' c c' bs ds w R R' hn hn' hv, fun w A A' c c' R R' => iPuzzleText_no W T A A' c c' bs ds w R R' hn hv⟩
  | true =>
    have hvb : validB W T bs = true := by unfold puzVB at hv; simp only [Bool.and_eq_true] at hv; exact hv.1
    obtain ⟨h1, h2, h3, h4, -, -⟩ := valid_len hvb
    obtain ⟨Wn, rfl⟩ := Int.eq_ofNat_of_zero_le (show 0 ≤ W by omega)
    obtain ⟨Tn, rfl⟩ := Int.eq_ofNat_of_zero_le (show 0 ≤ T by omega)
    refine ⟨⟨(doneT Wn Tn ds Tn).toArray⟩, fun w A A' c c' R R' => ?_, fun w A A' c c' R R' => iPuzzleText_ok Wn Tn A A' c c' bs ds w R R' hn hv⟩
    refine (sPuzzleText_ok Wn Tn A A' c c' bs ds w R R' hn hn' hv).mono ?_
    rintro e w' ⟨⟨s, hs, rfl⟩, b⟩
    exact ⟨by rw [hs.eq (show TxtB ⟨(doneT Wn Tn ds Tn).toArray⟩ _ from rfl)], b⟩
end Go.Proofs.Ytnciemnlnijhfaa
