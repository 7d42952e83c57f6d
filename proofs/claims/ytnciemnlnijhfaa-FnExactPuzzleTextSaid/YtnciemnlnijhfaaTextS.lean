/- Contract: the reference's PuzzleText. -/
import Derived.Test.YtnciemnlnijhfaaPuzzle
import Derived.Test.YtnciemnlnijhfaaMemE
import Derived.Laws.IdiomStrings
namespace Go.Proofs.Ytnciemnlnijhfaa
open Go.RowKit

/-- the sign of a number, a row, and rows from the north -/
def sgT (d : Int) : UInt8 := if d < 0 then 46 else UInt8.ofNat (48 + d.toNat)
def rowT (W : Nat) (ds : List Int) (y : Nat) (x : Nat) : List UInt8 := (List.range x).map fun i => sgT (ds.getD (y * W + i) 0)
def doneT (W T : Nat) (ds : List Int) : Nat → List UInt8
  | 0 => []
  | j + 1 => doneT W T ds j ++ (rowT W ds (T - 1 - j) W ++ if 0 < T - 1 - j then [47] else [])
theorem rowT_succ (W : Nat) (ds : List Int) (y x : Nat) : rowT W ds y (x + 1) = rowT W ds y x ++ [sgT (ds.getD (y * W + x) 0)] := by
  unfold rowT; rw [List.range_succ, List.map_append]; rfl
theorem ba_append (a b : ByteArray) : (a ++ b).data.toList = a.data.toList ++ b.data.toList := by simp
/-- a text reads so -/
def TxtB (s : ByteArray) (l : List UInt8) : Prop := s.data.toList = l
theorem TxtB.app {s : ByteArray} {l : List UInt8} (h : TxtB s l) (m : List UInt8) : TxtB (s ++ ⟨m.toArray⟩) (l ++ m) := by
  unfold TxtB at *; rw [ba_append, h]
theorem TxtB.eq {s t : ByteArray} {l : List UInt8} (h : TxtB s l) (k : TxtB t l) : s = t := by
  unfold TxtB at *
  obtain ⟨⟨a⟩⟩ := s
  obtain ⟨⟨b⟩⟩ := t
  simp at h k
  rw [h, k]
theorem conv_one (w : World) (n : Nat) (hn : n ≤ 9) : (convert 22 9 (.slice (some ⟨w.heap.size, 0, none⟩) 1 1)).run Try.prog (w.alloc (.cells #[.int .u8 (48 + (n : Int))] 5)) = .ok (.string ⟨#[UInt8.ofNat (48 + n)]⟩) (w.alloc (.cells #[.int .u8 (48 + (n : Int))] 5)) :=
  run_convert_bytes_back _ 22 9 5 ⟨w.heap.size, 0, none⟩ 1 [UInt8.ofNat (48 + n)] Try.underlying22 Try.underlying5 Try.underlying9 (fun j hj => by
    have h0 : j = 0 := by simpa using hj
    subst h0
    rw [add_zero', cell_of_row _ _ 0 _ _ _ (heap_alloc_new w _)]
    simp
    omega)
set_option maxRecDepth 100000 in
set_option maxHeartbeats 1000000 in
theorem number_any (n : Nat) (hn : n ≤ 9) (w : World) :
    Calls Try.prog 91 #[.int .i64 n] w fun e w' => e = .returned (.string ⟨[UInt8.ofNat (48 + n)].toArray⟩) ∧ Below w.heap.size w w' := by
  have hw : IntKind.u8.wrap (48 + (n : Int)) = 48 + (n : Int) := by
    revert n; decide +kernel
  have hc := conv_one w n hn
  go_enter Try.func91, Try.ntmps91
  go_wp2
  go_ret
  exact ⟨rfl, bl_alloc (Below.refl _ _) _⟩
/-- what stands so far: j rows, and x signs of the next one -/
def TxtJ (W T : Nat) (ds : List Int) (j x : Nat) : List UInt8 := doneT W T ds j ++ rowT W ds (T - 1 - j) x
theorem TxtJ.zero (W T : Nat) (ds : List Int) (j : Nat) : TxtJ W T ds j 0 = doneT W T ds j := by unfold TxtJ rowT; simp
theorem TxtJ.succ (W T : Nat) (ds : List Int) (j x : Nat) : TxtJ W T ds j (x + 1) = TxtJ W T ds j x ++ [sgT (ds.getD ((T - 1 - j) * W + x) 0)] := by
  unfold TxtJ; rw [rowT_succ, List.append_assoc]
theorem TxtJ.row (W T : Nat) (ds : List Int) (j : Nat) (h : 0 < T - 1 - j) : doneT W T ds (j + 1) = TxtJ W T ds j W ++ [47] := by
  unfold TxtJ; rw [doneT, if_pos h, List.append_assoc]
theorem TxtJ.last (W T : Nat) (ds : List Int) (j : Nat) (h : ¬ 0 < T - 1 - j) : doneT W T ds (j + 1) = TxtJ W T ds j W := by
  unfold TxtJ; rw [doneT, if_neg h, List.append_nil]
theorem rowT_len (W : Nat) (ds : List Int) (y x : Nat) : (rowT W ds y x).length = x := by unfold rowT; simp
theorem doneT_len (W T : Nat) (ds : List Int) : ∀ j, (doneT W T ds j).length ≤ j * (W + 1)
  | 0 => by simp [doneT]
  | j + 1 => by
    have := doneT_len W T ds j
    rw [doneT, List.length_append, List.length_append, rowT_len, Nat.succ_mul]
    split <;> simp <;> omega
theorem TxtJ_len {W T : Nat} {ds : List Int} {j x : Nat} (hW : W ≤ 6) (hj : j ≤ 6) (hx : x ≤ 6) : (TxtJ W T ds j x).length ≤ 100 := by
  unfold TxtJ
  rw [List.length_append, rowT_len]
  have h1 := doneT_len W T ds j
  have h2 : j * (W + 1) ≤ 6 * 7 := Nat.mul_le_mul hj (by omega)
  omega
theorem TxtB.size {s : ByteArray} {l : List UInt8} (h : TxtB s l) : s.size = l.length := by
  unfold TxtB at h; rw [← h]; rfl
theorem sg_pos {d : Int} {n : Nat} (h : d = (n : Int)) : sgT d = UInt8.ofNat (48 + n) := by subst h; unfold sgT; rw [if_neg (by omega)]; simp
theorem sg_neg {d : Int} (h : d = -1) : sgT d = 46 := by subst h; rfl
/-- the signs of a valid puzzle -/
theorem dig_of {bs : List Bool} {ds : List Int} (h : puzB bs ds = true) : ds.length = bs.length ∧ ∀ k (h1 : k < bs.length) (h2 : k < ds.length), (bs[k] = true → 0 ≤ ds[k] ∧ ds[k] ≤ 6) ∧ (bs[k] = false → ds[k] = -1) := by
  unfold puzB at h
  simp only [Bool.and_eq_true, decide_eq_true_eq] at h
  refine ⟨h.1, fun k h1 h2 => ?_⟩
  have h3 := h.2
  unfold digsB at h3
  rw [List.all_eq_true] at h3
  have h4 := h3 k (List.mem_range.2 h2)
  rw [List.getD_eq_getElem?_getD, List.getElem?_eq_getElem h1, List.getD_eq_getElem?_getD, List.getElem?_eq_getElem h2] at h4
  simp only [Option.getD_some] at h4
  constructor
  · intro hb
    rw [hb] at h4
    by_cases hd : 0 ≤ ds[k] ∧ ds[k] ≤ 6
    · exact hd
    · rw [digOk_tf (by omega)] at h4; cases h4
  · intro hb
    rw [hb] at h4
    by_cases hd : ds[k] = -1
    · exact hd
    · rw [digOk_ff hd] at h4; cases h4
set_option maxRecDepth 100000 in
set_option maxHeartbeats 4000000 in
theorem sPuzzleText_no (W T : Int) (A A' : Option Addr) (c c' : Nat) (bs : List Bool) (ds : List Int) (w : World) (hr : Rd w A (bs.map .bool)) (hr' : Rd w A' (ds.map (.int .i64))) (hn : bs.length ≤ maxLen) (hn' : ds.length ≤ maxLen) (hv : puzVB W T bs ds = false) :
    Calls Try.prog 37 #[.agg #[.int .i64 W, .int .i64 T, .slice A bs.length c], .slice A' ds.length c'] w fun e w' => e = .returned (.string ⟨#[]⟩) ∧ Below w.heap.size w w' := by
  have CV := Lib.hid (fun (z : World) (R : Rd z A (bs.map .bool)) (R' : Rd z A' (ds.map (.int .i64))) => by have := sPuzzleValid_any W T A A' c c' bs ds z R R' hn hn'; rw [hv] at this; exact this)
  clear hv
  have X0 := C3.new w (.int .i64 W) (.int .i64 T) (.slice A bs.length c) 25
  have B0 := bl_alloc (Below.refl w.heap.size w) (.cells #[.int .i64 W, .int .i64 T, .slice A bs.length c] 25)
  have R0 := hr.alloc (.cells #[.int .i64 W, .int .i64 T, .slice A bs.length c] 25)
  have R0' := hr'.alloc (.cells #[.int .i64 W, .int .i64 T, .slice A bs.length c] 25)
  obtain ⟨t, ht⟩ : ∃ t, IntKind.i64.wrap (T - 1) = t := ⟨_, rfl⟩
  have e0 : TxtB ⟨#[]⟩ [] := rfl
  obtain ⟨x0, x1, x2⟩ := id X0
  go_enter Try.func37, Try.ntmps37
  go_wp2_with fail
  generalize w.alloc (.cells #[.int .i64 W, .int .i64 T, .slice A bs.length c] 25) = wa at *
  clear x0 x1 x2
  go_loopw [5, 6] (fun v5 v6 wr => v5 = .string ⟨#[]⟩ ∧ v6 = .int .i64 t ∧ Below w.heap.size w wr ∧ C3 wr w.heap.size (.int .i64 W) (.int .i64 T) (.slice A bs.length c)) (fun _ _ _ => 0)
  case atStart => exact ⟨rfl, rfl, B0, X0⟩
  case round =>
    clear X0 B0 R0 R0'
    obtain ⟨rfl, rfl, B1, X1⟩ := hrel
    obtain ⟨x0, x1, x2⟩ := id X1
    cases hd : decide (0 ≤ t) with
    | true =>
      go_wp2_with fail
      refine (CV.out _ (hr.belo B1) (hr'.belo B1)).mono ?_
      rintro e w2 ⟨rfl, b2⟩
      go_wp2
      go_ret
      exact ⟨rfl, bl_go B1 b2⟩
    | false =>
      go_wp2
      go_ret
      exact ⟨rfl, B1⟩
set_option maxRecDepth 100000 in
set_option maxHeartbeats 8000000 in
theorem sPuzzleText_ok (W T : Nat) (A A' : Option Addr) (c c' : Nat) (bs : List Bool) (ds : List Int) (w : World) (hr : Rd w A (bs.map .bool)) (hr' : Rd w A' (ds.map (.int .i64))) (hn : bs.length ≤ maxLen) (hn' : ds.length ≤ maxLen) (hv : puzVB W T bs ds = true) :
    Calls Try.prog 37 #[.agg #[.int .i64 W, .int .i64 T, .slice A bs.length c], .slice A' ds.length c'] w fun e w' => (∃ s, TxtB s (doneT W T ds T) ∧ e = .returned (.string s)) ∧ Below w.heap.size w w' := by
  have CV := Lib.hid (fun (z : World) (R : Rd z A (bs.map .bool)) (R' : Rd z A' (ds.map (.int .i64))) => by have := sPuzzleValid_any W T A A' c c' bs ds z R R' hn hn'; rw [hv] at this; exact this)
  unfold puzVB at hv
  simp only [Bool.and_eq_true] at hv
  obtain ⟨hv, hp⟩ := hv
  obtain ⟨h1, h2, h3, h4, h5, h6⟩ := valid_len hv
  obtain ⟨hdl, hdig⟩ := dig_of hp
  have w6 : W ≤ 6 := by omega
  have t6 : T ≤ 6 := by omega
  have hwt : bs.length = W * T := by
    have : ((W * T : Nat) : Int) = (W : Int) * (T : Int) := by simp
    omega
  have HW := Lib.hid hwt
  have HD := Lib.hid hdl
  have HG := Lib.hid hdig
  clear hv hp h6 hwt hdl hdig
  have X0 := C3.new w (.int .i64 W) (.int .i64 T) (.slice A bs.length c) 25
  have B0 := bl_alloc (Below.refl w.heap.size w) (.cells #[.int .i64 W, .int .i64 T, .slice A bs.length c] 25)
  have e0 : TxtB ⟨#[]⟩ (doneT W T ds (T - T)) := by rw [Nat.sub_self]; rfl
  obtain ⟨x0, x1, x2⟩ := id X0
  go_enter Try.func37, Try.ntmps37
  go_wp2_with fail
  generalize w.alloc (.cells #[.int .i64 W, .int .i64 T, .slice A bs.length c] 25) = wa at *
  clear x0 x1 x2
  go_loopw [5, 6] (fun v5 v6 wr => ∃ (r : Nat) (s : ByteArray), r ≤ T ∧ v6 = .int .i64 ((r : Int) - 1) ∧ v5 = .string s ∧ TxtB s (doneT W T ds (T - r)) ∧ Below w.heap.size w wr ∧ C3 wr w.heap.size (.int .i64 W) (.int .i64 T) (.slice A bs.length c)) (fun _ v6 _ => (intOf v6 + 1).toNat)
  case atStart => exact ⟨T, ⟨#[]⟩, Nat.le_refl _, rfl, rfl, e0, B0, X0⟩
  case round =>
    clear X0 B0 e0
    obtain ⟨r, s, hrT, rfl, rfl, HS, B1, X1⟩ := hrel
    obtain ⟨x0, x1, x2⟩ := id X1
    rcases Nat.eq_zero_or_pos r with rfl | hr0
    · have ez : (((0 : Nat) : Int) - 1) = -1 := rfl
      rw [ez]
      go_wp2
      go_ret
      exact ⟨⟨s, HS, rfl⟩, B1⟩
    · obtain ⟨y, rfl⟩ : ∃ y, r = y + 1 := ⟨r - 1, by omega⟩
      have ey : (((y + 1 : Nat) : Int) - 1) = (y : Int) := by omega
      rw [ey]
      have E1 := Lib.hid (show T - 1 - (T - (y + 1)) = y by omega)
      have E2 := Lib.hid (show T - y = (T - (y + 1)) + 1 by omega)
      have HT0 : TxtB s (TxtJ W T ds (T - (y + 1)) 0) := by rw [TxtJ.zero]; exact HS
      clear ey
      have yT : y < T := by omega
      go_wp2_with fail
      refine (CV.out _ (hr.belo B1) (hr'.belo B1)).mono ?_
      rintro e w2 ⟨rfl, b2⟩
      have B2 := bl_go B1 b2
      have X2 := X1.belo b2
      clear B1 X1 b2 x0 x1 x2 HS
      obtain ⟨x0, x1, x2⟩ := id X2
      go_wp2_with fail
      clear x0 x1 x2
      go_loopw [5, 7, 8] (fun v5 v7 _ wr => ∃ (x : Nat) (s : ByteArray), x ≤ W ∧ v7 = .int .i64 x ∧ v5 = .string s ∧ TxtB s (TxtJ W T ds (T - (y + 1)) x) ∧ Below w.heap.size w wr ∧ C3 wr w.heap.size (.int .i64 W) (.int .i64 T) (.slice A bs.length c)) (fun _ v7 _ _ => W - (intOf v7).toNat)
      case atStart => exact ⟨0, s, Nat.zero_le _, rfl, rfl, HT0, B2, X2⟩
      case round =>
        clear B2 X2 HT0
        obtain ⟨x, s, hxW, rfl, rfl, HS, B2, X2⟩ := hrel
        obtain ⟨x0, x1, x2⟩ := id X2
        have hsz : s.size ≤ 100 := by rw [HS.size]; exact TxtJ_len w6 (by omega) (by omega)
        by_cases hx : x < W
        · obtain ⟨yw, hyw⟩ : ∃ yw, y * W = yw := ⟨_, rfl⟩
          have hlt : yw + x < bs.length := by
            rw [HW.out, ← hyw]
            have : (y + 1) * W ≤ T * W := Nat.mul_le_mul_right _ yT
            rw [Nat.succ_mul, Nat.mul_comm T W] at this
            omega
          have hltd : yw + x < ds.length := by rw [HD.out]; exact hlt
          have hym : ((y : Int) * (W : Int)) = (yw : Int) := by rw [← hyw]; simp
          have h36 : yw + x ≤ 36 := by omega
          obtain ⟨b, off, e1, cb⟩ := (hr.belo B2).atEM hlt
          obtain ⟨b', off', e2, cd⟩ := (hr'.belo B2).atEM hltd
          subst e1
          subst e2
          have hdg := HG.out (yw + x) hlt hltd
          have HSN := Lib.hid (show TxtJ W T ds (T - (y + 1)) (x + 1) = TxtJ W T ds (T - (y + 1)) x ++ [sgT (ds[yw + x])] by
            rw [TxtJ.succ, E1.out, hyw, List.getD_eq_getElem?_getD, List.getElem?_eq_getElem hltd]; rfl)
          clear hyw
          obtain ⟨d, hdd⟩ : ∃ d, ds[yw + x] = d := ⟨_, rfl⟩
          rw [hdd] at cd hdg HSN
          clear hdd
          have hkI : ((yw : Int) + (x : Int)) < (bs.length : Int) := by omega
          have hkI2 : ((yw : Int) + (x : Int)) < (ds.length : Int) := by omega
          have hkn : ((yw : Int) + (x : Int)).toNat = yw + x := by omega
          cases hb : bs[yw + x] with
          | true =>
            rw [hb] at cb
            obtain ⟨g1, g2⟩ := hdg.1 hb
            obtain ⟨n, rfl⟩ := Int.eq_ofNat_of_zero_le g1
            have HSG := Lib.hid (sg_pos (d := (n : Int)) (n := n) rfl)
            clear hb hdg g1
            go_wp2_with fail
            refine (number_any n (by omega) _).mono ?_
            rintro e w3 ⟨rfl, b3⟩
            have B3 := bl_go B2 b3
            have X3 := X2.belo b3
            have hz1 : (⟨[UInt8.ofNat (48 + n)].toArray⟩ : ByteArray).size = 1 := rfl
            clear x0 x1 x2
            obtain ⟨x0, x1, x2⟩ := id X3
            have HA : TxtB (s ++ ⟨[UInt8.ofNat (48 + n)].toArray⟩) (TxtJ W T ds (T - (y + 1)) (x + 1)) := by rw [HSN.out, HSG.out]; exact HS.app _
            generalize (⟨[UInt8.ofNat (48 + n)].toArray⟩ : ByteArray) = sx at *
            go_wp2_with fail
            go_roundw
            case rel => exact ⟨x + 1, _, by omega, by go_num, rfl, HA, B3, X3⟩
            case measure => simp [intOf]; omega
          | false =>
            rw [hb] at cb
            have g1 := hdg.2 hb
            subst g1
            clear hb hdg
            have HA := HS.app [46]
            rw [show (46 : UInt8) = sgT (-1) from rfl, ← HSN.out] at HA
            go_wp2_with fail
            exact ⟨⟨x + 1, _, by omega, by go_num, rfl, HA, B2, X2⟩, by simp [intOf]; omega⟩
        · obtain rfl : x = W := by omega
          by_cases hy : 0 < y
          · have yI : (0 : Int) < (y : Int) := by omega
            have HR := Lib.hid (TxtJ.row x T ds (T - (y + 1)) (by rw [E1.out]; exact hy))
            have HA := HS.app [47]
            rw [← HR.out, ← E2.out] at HA
            go_wp2_with fail
            exact ⟨⟨y, _, by omega, rfl, rfl, HA, B2, X2⟩, by simp [intOf]⟩
          · have yI : (y : Int) ≤ 0 := by omega
            have HR := Lib.hid (TxtJ.last x T ds (T - (y + 1)) (by rw [E1.out]; exact hy))
            clear hy
            go_wp2_with fail
            exact ⟨⟨y, s, by omega, rfl, rfl, by rw [E2.out, HR.out]; exact HS, B2, X2⟩, by simp [intOf]⟩
end Go.Proofs.Ytnciemnlnijhfaa
