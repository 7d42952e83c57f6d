
/- FnPushOne: joined from TilI, TilC, Dark, TilM. -/
import Derived.Test.YtafmpgikdhlknaaGreatQA
import Derived.Test.YtafmpgikdhlknaaGreatMemE
import Derived.Test.YtafmpgikdhlknaaGreatSet
import Derived.Test.YtafmpgikdhlknaaGreatStep
import Derived.Test.YtafmpgikdhlknaaGreatGb
import Derived.Maps.OwnOps
import Derived.Maps.OwnSet
import Derived.Laws.IdiomStrings
import Derived.Test.YtafmpgikdhlknaaGreatColour
import Derived.Test.YtafmpgikdhlknaaGreatApp
import Derived.Laws.EntriesVeiled
import Derived.Deep.RegionHeld3
/- Contract: the closure that counts tilings and knows what it has counted. -/
namespace Go.Proofs.YtafmpgikdhlknaaGreat
open Go.RowKit

theorem Tryz.infoU8 : (Tryz.prog.info? 5).map (fun i => (i.zero, i.size, i.bytes)) = some (some (.int .u8 0), 1, 1) := by kernel_rfl
theorem keyS : Maps.Keyed Tryz.prog 9 := Maps.string_keyed Tryz.underlying9
theorem zeroI64 (w : World) : (zeroValue 3).run Tryz.prog w = .ok (.int .i64 0) w := by kernel_rfl
def kS (l : List UInt8) : Lit := .string l
theorem kS_lit (l : List UInt8) : WideAt.IsKeyLit (kS l) := by unfold kS; simp [WideAt.IsKeyLit]
theorem keyS_of {l : List UInt8} (h : l.length ≤ 1000) : keyOf Tryz.prog 9 (.string ⟨l.toArray⟩) = some (kS l) := by
  have := Go.WideMaps.keyOf_string_mk (P := Tryz.prog) (k := 9) Tryz.underlying9 (s := ⟨l.toArray⟩) (by unfold maxLen; simp [ByteArray.size]; omega)
  simpa [kS] using this
/-- block b of w is a map that tells counts -/
def KM (W T : Int) (bs : List Bool) (w : World) (b n : Nat) : Prop := ∃ D : DataW Unit, w.ownsMap Tryz.prog 9 (plainElem Tryz.prog 3) b n D ∧
  ∀ (c : Nat) (cov : List Bool), cov.length = bs.length → c < bs.length → firstB (freeL bs cov) = c → Maps.has D (kS (keyB c cov)) = true → ∀ z, D.atKey (kS (keyB c cov)) z = .lit (.int .i64 (tilN W T (freeL bs cov)))
theorem KM.kept {W T : Int} {bs : List Bool} {w w' : World} {b n : Nat} {row : Option Nat} (h : KM W T bs w b n) (hg : w.grownBy w' row) (hne : some b ≠ row) : KM W T bs w' b n := by
  obtain ⟨D, h1, h2⟩ := h; exact ⟨D, h1.kept hg hne, h2⟩
theorem KM.mono {W T : Int} {bs : List Bool} {w : World} {b n n' : Nat} (h : KM W T bs w b n) (hn : n ≤ n') : KM W T bs w b n' := by
  obtain ⟨D, h1, h2⟩ := h; exact ⟨D, h1.mono hn, h2⟩
theorem KM.lt {W T : Int} {bs : List Bool} {w : World} {b n : Nat} (h : KM W T bs w b n) : b < w.heap.size := by obtain ⟨D, h1, h2⟩ := h; exact h1.lt
theorem KM.made (W T : Int) (bs : List Bool) (w : World) : KM W T bs (w.alloc (.map #[] 0)) w.heap.size 0 := ⟨_, World.ownsMap_made w _ _ _, fun _ _ _ _ _ h => by cases h⟩
section
variable {w : World} {ops : Array Oper} {rest : List Oper} {o : Oper} {a : Act} {Q : Exit → Act → World → Prop}
set_option maxRecDepth 100000 in
theorem upd_k {W T : Int} {bs : List Bool} {b n c : Nat} {cov : List Bool} (h : KM W T bs w b n) (hn : n < 2000000000) (hcl : cov.length = bs.length) (hc : c < bs.length) (h36 : bs.length ≤ 36) (hf : firstB (freeL bs cov) = c) (hg : o.guard = none) (m x v : Operand) (hop : o.op = Op.mapUpdate 113 m x v) (hm : a.eval m = .map (some b))
    (hx : a.eval x = .string ⟨(keyB c cov).toArray⟩) (hv : a.eval v = .int .i64 (tilN W T (freeL bs cov)))
    (hK : ∀ w', KM W T bs w' b (n + 1) → w.grownBy w' (some b) → wpList Tryz.prog ops Q rest (a.put o.dst undef) w') : wpList Tryz.prog ops Q (o :: rest) a w := by
  obtain ⟨D, h1, h2⟩ := h
  have hkl : (keyB c cov).length ≤ 1000 := by unfold keyB; simp; omega
  have hb := tilN_bd (W := W) (T := T) (freeL bs cov)
  have hwf : (Lit.int .i64 (tilN W T (freeL bs cov))).wf = true := by
    obtain ⟨b1, b2⟩ := hb
    simp [Lit.wf, IntKind.min, IntKind.max, IntKind.bits, IntKind.signed] <;> omega
  refine wpList_mapUpdate_own w hg m x v 113 hop 9 3 keyS Tryz.underlying113 _ b n D hm h1 (by unfold maxLen; omega) _ _ _ hx hv (keyS_of hkl) _ _ (plainElem_int Tryz.underlying3 hwf) (fun w' h3 h4 => hK w' ⟨_, h3, fun c' cov' l1 l2 l3 l4 z => ?_⟩ h4)
  by_cases e : keyB c' cov' = keyB c cov
  · obtain ⟨e1, e2⟩ := key_inj (by omega) (by omega) e
    subst e1
    rw [e, Maps.atKey_put_same h1.isMap (kS_lit _)]
    rw [free_of_key hcl l1 e2.symm (firstB_pre hf) (firstB_pre l3)]
  · have hne : kS (keyB c' cov') ≠ kS (keyB c cov) := fun x => e (by unfold kS at x; injection x)
    rw [Maps.has_put_other hne] at l4
    rw [Maps.atKey_put_other hne]
    exact h2 c' cov' l1 l2 l3 l4 z
set_option maxRecDepth 100000 in
theorem look_hit {W T : Int} {bs : List Bool} {b n c : Nat} {cov : List Bool} {D : DataW Unit} (h1 : w.ownsMap Tryz.prog 9 (plainElem Tryz.prog 3) b n D) (hkl : (keyB c cov).length ≤ 1000) (hh : Maps.has D (kS (keyB c cov)) = true) (h2 : ∀ z, D.atKey (kS (keyB c cov)) z = .lit (.int .i64 (tilN W T (freeL bs cov)))) (hg : o.guard = none) (m x : Operand) (hop : o.op = Op.lookup 113 m x true) (hm : a.eval m = .map (some b))
    (hx : a.eval x = .string ⟨(keyB c cov).toArray⟩) (hK : wpList Tryz.prog ops Q rest (a.put o.dst (.tuple #[.int .i64 (tilN W T (freeL bs cov)), .bool true])) w) : wpList Tryz.prog ops Q (o :: rest) a w := by
  refine wpList_lookup_own_ok_int w hg m x 113 hop 9 3 .i64 keyS Tryz.underlying113 Tryz.underlying3 (zeroI64 w) b n D hm h1 _ _ hx (keyS_of hkl) (fun q hq _ => ?_)
  have hqs : q = tilN W T (freeL bs cov) := by
    have e2 : (DataW.lit (.int .i64 q) : DataW Unit) = .lit (.int .i64 (tilN W T (freeL bs cov))) := hq.symm.trans (h2 _)
    injection e2 with e2
    injection e2
  rw [hh, hqs]
  exact hK
set_option maxRecDepth 100000 in
theorem look_miss {b n c : Nat} {cov : List Bool} {D : DataW Unit} (h1 : w.ownsMap Tryz.prog 9 (plainElem Tryz.prog 3) b n D) (hkl : (keyB c cov).length ≤ 1000) (hh : Maps.has D (kS (keyB c cov)) = false) (hg : o.guard = none) (m x : Operand) (hop : o.op = Op.lookup 113 m x true) (hm : a.eval m = .map (some b))
    (hx : a.eval x = .string ⟨(keyB c cov).toArray⟩) (hK : ∀ q : Int, wpList Tryz.prog ops Q rest (a.put o.dst (.tuple #[.int .i64 q, .bool false])) w) : wpList Tryz.prog ops Q (o :: rest) a w := by
  refine wpList_lookup_own_ok_int w hg m x 113 hop 9 3 .i64 keyS Tryz.underlying113 Tryz.underlying3 (zeroI64 w) b n D hm h1 _ _ hx (keyS_of hkl) (fun q _ _ => ?_)
  rw [hh]
  exact hK q
/-- a list of bytes of the call's own -/
def OwnU (w : World) (base : Nat) (v : Value) (xs : List Int) : Prop := ∃ (A : Option Addr) (c : Nat), v = .slice A xs.length c ∧ w.ownsRow base 5 1 v xs.length (xs.map (.int .u8))
theorem app_u8 (w : World) (hgd : o.guard = none) (s x : Operand) (ho : o.op = .call { callee := .builtin .append, args := #[s, x], argTypes := #[22, 22] })
    (base : Nat) (v : Value) (xs : List Int) (m : Nat) (hm : xs.length = m) (hs : a.eval s = v) (hown : OwnU w base v xs) (u : Int) (hx : a.eval x = .slice (some ⟨w.heap.size, 0, none⟩) 1 1) (hn : m ≤ 1000000000000) (hbase : base ≤ w.heap.size)
    (h : ∀ (g c' : Nat) (w' : World), OwnU w' base (.slice (some ⟨g, 0, none⟩) (m + 1) c') (xs ++ [u]) → Below base w w' → wpList Tryz.prog ops Q rest (a.put o.dst (.slice (some ⟨g, 0, none⟩) (m + 1) c')) w') :
    wpList Tryz.prog ops Q (o :: rest) a (w.alloc (.cells #[.int .u8 u] 5)) := by
  obtain ⟨i0, hi, hz0, hz1, hz2⟩ := info_parts Tryz.infoU8
  subst hm
  obtain ⟨A, c, e, hown⟩ := hown
  refine wpList_append_own _ hgd s x 22 ho base 5 i0 (.int .u8 0) 1 1 Tryz.underlying22 hi hz0 hz1 hz2 rfl (by decide) v _ _ hs (hown.alloc _) ⟨w.heap.size, 0, none⟩ 1 1 [.int .u8 u] hx rfl ?_ ?_ ?_ ?_ ?_ ?_
  · intro j y hj
    match j, hj with
    | 0, hj => simp at hj; subst hj; simp [Addr.add]
  · intro y hy; simp at hy; subst hy; rfl
  · unfold maxLen; omega
  · omega
  · simp; omega
  · intro v' w' h1 h2 _
    have e1 : xs.map (Value.int .u8) ++ [.int .u8 u] = (xs ++ [u]).map (.int .u8) := by simp
    rw [e1] at h1
    obtain ⟨g, cap, rfl, _, _⟩ := h1.form (by omega)
    have e2 : (xs ++ [u]).length = xs.length + 1 := by simp
    refine h _ _ w' ⟨_, _, by rw [e2], by rw [e2]; exact h1⟩ ?_
    refine ((Below.refl base w).alloc hbase _).grown h2 (by simp; omega) (fun k hk => (hown.lt k hk).1)
end
/-- the bytes of a key, so far -/
def keyT (c : Nat) (cov : List Bool) (j : Nat) : List Int := ((keyB c cov).take (j + 1)).map fun u => (u.toNat : Int)
theorem keyT_zero {c : Nat} {cov : List Bool} (h : c < 256) : keyT c cov 0 = [(c : Int)] := by
  unfold keyT keyB
  simp [UInt8.toNat_ofNat']
  omega
theorem keyB_len (c : Nat) (cov : List Bool) : (keyB c cov).length = cov.length - c + 1 := by unfold keyB; simp
theorem keyT_step {c : Nat} {cov : List Bool} {j : Nat} (h : c + j < cov.length) : keyT c cov (j + 1) = keyT c cov j ++ [if cov[c + j] = true then (49 : Int) else 48] := by
  unfold keyT
  have hl := keyB_len c cov
  rw [List.take_succ_eq_append_getElem (i := j + 1) (by omega), List.map_append]
  congr 1
  have e : (keyB c cov)[j + 1]'(by omega) = bitU cov[c + j] := by
    unfold keyB
    simp
  simp only [List.map_cons, List.map_nil, e]
  cases cov[c + j] <;> rfl
theorem keyT_len {c : Nat} {cov : List Bool} {j : Nat} (h : c + j ≤ cov.length) : (keyT c cov j).length = j + 1 := by
  unfold keyT
  rw [List.length_map, List.length_take, keyB_len]
  omega
theorem keyT_all {c : Nat} {cov : List Bool} : keyT c cov (cov.length - c) = (keyB c cov).map fun u => (u.toNat : Int) := by
  unfold keyT
  rw [List.take_of_length_le (by rw [keyB_len]; omega)]
/-- the key as a text -/
theorem conv_key {w : World} {g cap : Nat} {l : List UInt8} (h : Rd w (some ⟨g, 0, none⟩) ((l.map fun u => (u.toNat : Int)).map (.int .u8))) :
    (convert 22 9 (.slice (some ⟨g, 0, none⟩) l.length cap)).run Tryz.prog w = .ok (.string ⟨l.toArray⟩) w :=
  run_convert_bytes_back w 22 9 5 ⟨g, 0, none⟩ cap l Tryz.underlying22 Tryz.underlying5 Tryz.underlying9 (fun j hj => by
    have h2 := h.cellEM (k := j) (by simpa using hj)
    rw [Nat.zero_add] at h2
    rw [add_ofs, Nat.zero_add, h2]
    simp)
end Go.Proofs.YtafmpgikdhlknaaGreat

/- Contract: the closure that counts tilings: the walk. -/
namespace Go.Proofs.YtafmpgikdhlknaaGreat
open Go.RowKit

/-- what the closure finds -/
structure Cst (W T : Int) (n c0 : Nat) (bs : List Bool) (A : Option Addr) (bo br bv bk : Nat) (w : World) : Prop where
  box : C3 w br (.int .i64 W) (.int .i64 T) (.slice A n c0)
  ov : w.cell? ⟨bv, 0, none⟩ = some (.map (some bo))
  ck : w.cell? ⟨bk, 0, none⟩ = some (.func (.func 127) #[] #[.pointer (some ⟨br, 0, none⟩), .pointer (some ⟨bv, 0, none⟩), .pointer (some ⟨bk, 0, none⟩)])
  rd : Rd w A (bs.map .bool)
  d1 : br ≠ bo
  d3 : bv ≠ bo
  d5 : bk ≠ bo
  hA : ∀ ad, A = some ad → ad.block ≠ bo
theorem Cst.gb {W T : Int} {n c0 : Nat} {bs : List Bool} {A : Option Addr} {bo br bv bk : Nat} {w w' : World} (h : Cst W T n c0 bs A bo br bv bk w) (hg : w.grownBy w' (some bo)) : Cst W T n c0 bs A bo br bv bk w' :=
  ⟨h.box.gb hg h.d1, gb_cell hg h.d3 h.ov, gb_cell hg h.d5 h.ck, h.rd.grownBelow hg (fun _ ad e e2 => h.hA ad e (by injection e2)), h.d1, h.d3, h.d5, h.hA⟩
def bud : Nat → Nat
  | 0 => 1
  | f + 1 => 2 * bud f + 1
def CntR (W T : Int) (bs : List Bool) (bo n1 f : Nat) (res : Int) (w : World) (e : Ending) (w' : World) : Prop := ∃ n2 : Nat, e = .returned (.int .i64 res) ∧ KM W T bs w' bo n2 ∧ n2 ≤ n1 + bud f ∧ w.grownBy w' (some bo)
def CntOk (W T : Int) (n c0 : Nat) (bs : List Bool) (A : Option Addr) (bo br bv bk f : Nat) : Prop :=
  ∀ (w : World) (cov : List Bool) (cell : Nat) (A0 : Option Addr) (q0 n1 : Nat), Cst W T n c0 bs A bo br bv bk w → KM W T bs w bo n1 → Rd w A0 (cov.map .bool) → (∀ ad, A0 = some ad → ad.block ≠ bo) → cov.length = n → n ≤ q0 → cell ≤ n → cnt (freeL bs cov) ≤ f → f ≤ 24 → n1 + bud f ≤ 1000000000 →
    (∀ k (hk : k < (freeL bs cov).length), k < cell → (freeL bs cov)[k] = false) →
    Calls Tryz.prog 127 #[.slice A0 n q0, .int .i64 cell, .pointer (some ⟨br, 0, none⟩), .pointer (some ⟨bv, 0, none⟩), .pointer (some ⟨bk, 0, none⟩)] w (CntR W T bs bo n1 f (tilN W T (freeL bs cov)) w)
theorem bud_pos (f : Nat) : 1 ≤ bud f := by cases f <;> simp [bud]
theorem cntP {F : List Bool} {k : Nat} (hk : k < F.length) (h : F[k] = true) : 1 ≤ cnt F := by
  have := cnt_set_lt F k hk h
  have := (cnt_le (F.set k false)).1
  omega
/-- the loop that writes the key -/
def LoopK (k : Nat) (cov : List Bool) (w : World) (v8 v55 : Value) (wr : World) : Prop := ∃ j g c : Nat, j ≤ cov.length - k ∧ v55 = .int .i64 j ∧ v8 = .slice (some ⟨g, 0, none⟩) (j + 1) c ∧ OwnU wr w.heap.size v8 (keyT k cov j) ∧ Below w.heap.size w wr
theorem OwnU.belo {w w' : World} {base : Nat} {v : Value} {xs : List Int} (h : OwnU w base v xs) (hb : Below w.heap.size w w') : OwnU w' base v xs := by
  obtain ⟨A, c, e, h⟩ := h; exact ⟨A, c, e, own_below h hb (Nat.le_refl _)⟩
theorem OwnU.rd {w : World} {base g m c : Nat} {xs : List Int} (h : OwnU w base (.slice (some ⟨g, 0, none⟩) m c) xs) : Rd w (some ⟨g, 0, none⟩) (xs.map (.int .u8)) ∧ base ≤ g := by
  obtain ⟨A, c', e, h⟩ := h
  injection e with e1 e2 e3
  subst e1; subst e2; subst e3
  exact ⟨Rd.own h, (h.lt g rfl).1⟩
theorem gb_setN {w0 w : World} {row : Option Nat} (h : w0.grownBy w row) (b k : Nat) (u : Value) (hb : w0.heap.size ≤ b) : w0.grownBy (w.setCell ⟨b, k, none⟩ u) row :=
  ⟨h.os, h.tape, h.output, by simp; exact h.size, fun i hi hr => (Below.heap_setCell w ⟨b, k, none⟩ u i (by show i ≠ b; omega)).trans (h.block i hi hr)⟩
theorem til_sum (W T : Int) (F : List Bool) (c k : Nat) (hk : k ≤ 2) : 0 ≤ sumB W T 2 (tilN W T) F c k ∧ sumB W T 2 (tilN W T) F c k ≤ 33554432 := by
  have h := sumB_bd W T 2 24 F c k hk
  have e : (2 : Int) * 2 ^ 24 = 33554432 := by decide
  rw [e] at h
  exact h
theorem below_noneT {w w' : World} (h : Below w.heap.size w w') : w.grownBy w' none := ⟨h.os, h.tape, h.output, h.size, fun i hi _ => h.block i hi⟩
/-- the loop over both ways -/
def LoopC (W T : Int) (bs : List Bool) (F : List Bool) (bo k n1 B : Nat) (w3 : World) (v13 v78 : Value) (wr : World) : Prop := ∃ q n2 : Nat, q ≤ 2 ∧ v78 = .int .i64 q ∧ v13 = .int .i64 (sumB W T 2 (tilN W T) F k q) ∧ KM W T bs wr bo n2 ∧ n2 ≤ n1 + q * B ∧ w3.grownBy wr (some bo)
set_option maxRecDepth 100000 in
set_option maxHeartbeats 8000000 in
theorem count_step {W T : Int} {n c0 : Nat} {bs : List Bool} {A : Option Addr} {bo br bv bk f : Nat} (h1 : 1 ≤ W) (h2 : W ≤ 6) (h3 : 1 ≤ T) (h4 : T ≤ 6) (hn : bs.length = n) (hWT : W * T = (n : Int))
    (ih : ∀ f', f = f' + 1 → CntOk W T n c0 bs A bo br bv bk f') : CntOk W T n c0 bs A bo br bv bk f := by
  intro w cov cell A0 q0 n1 S HK0 hcov hA0 hcl hq0 hcell hcnt hf hn1 hpre
  have n36 : n ≤ 36 ∧ 1 ≤ n := by have := mul_bd h1 h2 h3 h4; omega
  obtain ⟨n36, n1n⟩ := n36
  have HN := Lib.hid hn
  have HCL := Lib.hid hcl
  have HWT := Lib.hid hWT
  have HIH := Lib.hid ih
  have HPRE := Lib.hid hpre
  have HCNT := Lib.hid hcnt
  have hFl : (freeL bs cov).length = n := by rw [freeL_len (by omega)]; exact hn
  have HFL := Lib.hid hFl
  obtain ⟨b0, o0, rfl, -⟩ := hcov.atEM (k := 0) (by omega)
  have hb0 : b0 ≠ bo := hA0 _ rfl
  have hlo := HK0.lt
  clear hn hcl hWT ih hpre hcnt hFl hA0
  obtain ⟨cr, cv, ck, hr, -, -, -, -⟩ := id S
  obtain ⟨r0, r1, r2⟩ := id cr
  go_enter Tryz.func127, Tryz.ntmps127
  go_wp2_with fail
  go_loop [1] (fun v => ∃ k : Nat, k ≤ n ∧ v = .int .i64 k ∧ Hid (∀ j (hj : j < (freeL bs cov).length), j < k → (freeL bs cov)[j] = false)) (fun v => n - (intOf v).toNat)
  case atStart => exact ⟨cell, hcell, rfl, HPRE.out⟩
  case round =>
    obtain ⟨k, hk, rfl, HK⟩ := hrel
    by_cases hlt : k < n
    · have kb : k < bs.length := by have := HN.out; omega
      have kc : k < cov.length := by have := HCL.out; omega
      obtain ⟨b, off, rfl, cb⟩ := hr.atEM kb
      have cw := hcov.cellEM kc
      have HG := Lib.hid (freeL_get kb kc)
      have kI : (k : Int) < (n : Int) := by omega
      cases hb : bs[k] with
      | false =>
        rw [hb] at cb
        have HF := Lib.hid (show (freeL bs cov)[k]'(by rw [HFL.out]; exact hlt) = false by rw [HG.out, hb]; rfl)
        clear hb
        go_wp2_with fail
        go_round
        case rel =>
          refine ⟨k + 1, by omega, by go_num, fun j hj hj2 => ?_⟩
          rcases Nat.lt_or_ge j k with h | h
          · exact HK.out j hj h
          · obtain rfl : j = k := by omega
            exact HF.out
        case measure => simp [intOf]; omega
      | true =>
        rw [hb] at cb
        cases hc : cov[k] with
        | true =>
          rw [hc] at cw
          have HF := Lib.hid (show (freeL bs cov)[k]'(by rw [HFL.out]; exact hlt) = false by rw [HG.out, hb, hc]; rfl)
          clear hb hc
          go_wp2_with fail
          go_round
          case rel =>
            refine ⟨k + 1, by omega, by go_num, fun j hj hj2 => ?_⟩
            rcases Nat.lt_or_ge j k with h | h
            · exact HK.out j hj h
            · obtain rfl : j = k := by omega
              exact HF.out
          case measure => simp [intOf]; omega
        | false =>
          rw [hc] at cw
          have HF := Lib.hid (show (freeL bs cov)[k]'(by rw [HFL.out]; exact hlt) = true by rw [HG.out, hb, hc]; rfl)
          clear hb hc
          have hkn : ((k : Int) == (n : Int)) = false := by rw [beq_eq_false_iff_ne]; omega
          have hfp := cntP (by rw [HFL.out]; exact hlt) HF.out
          obtain ⟨f', rfl⟩ : ∃ f', f = f' + 1 := ⟨f - 1, by have := HCNT.out; omega⟩
          have HFIRST := Lib.hid (firstB_eq (F := freeL bs cov) (c := k) (by rw [HFL.out]; omega) HK.out (fun _ => HF.out))
          have HREC := Lib.hid (tilN_rec (W := W) (T := T) (F := freeL bs cov) (c := k) (by have := HCNT.out; omega) HFIRST.out (by rw [HFL.out]; exact hlt))
          have hwr : IntKind.u8.wrap (k : Int) = (k : Int) := by unfold IntKind.wrap; simp [IntKind.bits, IntKind.signed]; omega
          obtain ⟨i8, hi8, hz0, hz1, hz2⟩ := info_parts Tryz.infoU8
          have hb8 : i8.bytes * (n + 1) ≤ 281474976710656 := by rw [hz2]; omega
          have HZ := Lib.hid (And.intro hz0 (And.intro hz1 hz2))
          clear hfp hz0 hz1 hz2
          have hqk : ¬ q0 = k := by omega
          have hqk2 : ¬ k = q0 := by omega
          have hkq : k ≤ q0 := by omega
          have hk256 : k < 256 := by omega
          go_wp2_with (first
            | (at_make; refine wpList_make_own _ rfl _ _ 22 rfl w.heap.size 5 i8 (.int .u8 0) 1 Tryz.underlying22 hi8 HZ.out.1 HZ.out.2.1 .i64 .i64 _ (n + 1) rfl rfl (by simp) hb8 (by unfold maxLen; omega) (Nat.le_refl _) ?_; intro w2 own2 g2; have O2 : OwnU w2 w.heap.size (.slice (some ⟨w.heap.size, 0, none⟩) 0 (n + 1)) [] := ⟨_, _, rfl, own2⟩; have z2 := g2.size)
            | (at_builtin; refine app_u8 _ rfl _ _ rfl w.heap.size _ [] 0 rfl rfl O2 (k : Int) rfl (by omega) z2 ?_; intro g3 c3 w3 O3 b3))
          have B3 : Below w.heap.size w w3 := ((Below.refl w.heap.size w).grown g2 (Nat.le_refl _) (fun k hk => by cases hk)).trans b3
          have O3' : OwnU w3 w.heap.size (.slice (some ⟨g3, 0, none⟩) (0 + 1) c3) (keyT k cov 0) := by rw [keyT_zero hk256]; exact O3
          have hbl0 := World.block_lt_of_cell? w _ cw
          simp only at hbl0
          clear O2 O3 own2 g2 b3 z2 cb cw r0 r1 r2 cr cv ck hr hkn hb8 hi8 HZ hwr
          go_loopw [8, 55] (fun v8 v55 wr => LoopK k cov w v8 v55 wr) (fun _ v55 _ => n - (intOf v55).toNat)
          case atStart => exact ⟨0, g3, c3, Nat.zero_le _, rfl, rfl, O3', B3⟩
          case round =>
            clear O3' B3
            obtain ⟨j, g, cc, hj, rfl, rfl, OK, BK⟩ := hrel
            have hj' : j ≤ n - k := by have := HCL.out; omega
            obtain ⟨wo, hwo⟩ : ∃ wo : World, wo = wr := ⟨_, rfl⟩
            subst hwo
            by_cases hjn : j < n - k
            · have hkj : k + j < cov.length := by have := HCL.out; omega
              have cw := ((bcell BK).1 b0 (o0 + (k + j)) hbl0).trans (hcov.cellEM hkj)
              rw [← Nat.add_assoc] at cw
              have hlen := keyT_len (c := k) (cov := cov) (j := j) (by omega)
              have HST := Lib.hid (keyT_step (c := k) (cov := cov) (j := j) hkj)
              have HLN := Lib.hid hlen
              have hjI : (j : Int) < (n : Int) - (k : Int) := by omega
              have hjI2 : (j : Int) < ((n - k : Nat) : Int) := by omega
              have zK := BK.size
              have hv : cov[k + j] = true ∨ cov[k + j] = false := by cases cov[k + j] <;> simp
              clear hlen
              rcases hv with hv | hv
              · rw [hv] at cw
                have HV := Lib.hid hv
                clear hv
                go_wp2_with (at_builtin; refine app_u8 _ rfl _ _ rfl w.heap.size _ (keyT k cov j) (j + 1) HLN.out rfl OK 49 rfl (by omega) zK ?_; intro g4 c4 w4 O4 b4)
                go_roundw
                case rel => exact ⟨j + 1, g4, c4, by have := HCL.out; omega, by go_num, rfl, by rw [HST.out, HV.out, if_pos rfl]; exact O4, BK.trans b4⟩
                case measure => simp [intOf]; omega
              · rw [hv] at cw
                have HV := Lib.hid hv
                clear hv
                go_wp2_with (at_builtin; refine app_u8 _ rfl _ _ rfl w.heap.size _ (keyT k cov j) (j + 1) HLN.out rfl OK 48 rfl (by omega) zK ?_; intro g4 c4 w4 O4 b4)
                go_roundw
                case rel => exact ⟨j + 1, g4, c4, by have := HCL.out; omega, by go_num, rfl, by rw [HST.out, HV.out, if_neg (by simp)]; exact O4, BK.trans b4⟩
                case measure => simp [intOf]; omega
            · obtain rfl : j = n - k := by omega
              have hge : ¬ (((n - k : Nat) : Int) < (n : Int) - (k : Int)) := by omega
              have hge2 : ¬ (((n - k : Nat) : Int) < ((n - k : Nat) : Int)) := by omega
              have hkl : (keyB k cov).length = n - k + 1 := by rw [keyB_len, HCL.out]
              have HKL := Lib.hid hkl
              have hOK2 : OwnU wo w.heap.size (.slice (some ⟨g, 0, none⟩) (n - k + 1) cc) ((keyB k cov).map fun u => (u.toNat : Int)) := by
                rw [← keyT_all, HCL.out]; exact OK
              obtain ⟨hrk, hgk⟩ := OwnU.rd hOK2
              have hconv := conv_key (cap := cc) hrk
              rw [hkl] at hconv
              have GB : w.grownBy wo (some bo) := gb_below (World.grownBy.refl _ _) BK
              have S2 := S.gb GB
              have HS2 := Lib.hid S2
              have K2 := HK0.kept (below_noneT BK) (by simp)
              obtain ⟨D, hD1, hD2⟩ := id K2
              have HDV := Lib.hid (fun hh => hD2 k cov (HCL.out.trans HN.out.symm) kb HFIRST.out hh)
              have HRK := Lib.hid hrk
              have hgo : g ≠ bo := by omega
              have hzo := BK.size
              obtain ⟨-, xv, -, -, -, -, -, -⟩ := id S2
              clear hkl hOK2 OK K2 hrk hD2 S2
              cases hh : Maps.has D (kS (keyB k cov)) with
              | true =>
                have HH := Lib.hid hh
                clear hh
                go_wp2_with (at_lookup; refine look_hit (W := W) (T := T) (bs := bs) hD1 (by rw [HKL.out]; omega) HH.out (HDV.out HH.out) rfl _ _ rfl rfl rfl ?_)
                go_ret
                exact ⟨n1, rfl, HK0.kept (below_noneT BK) (by simp), by omega, GB⟩
              | false =>
                have HH := Lib.hid hh
                clear hh
                go_wp2_with (at_lookup; refine look_miss hD1 (by rw [HKL.out]; omega) HH.out rfl _ _ rfl rfl rfl ?_; intro q9)
                have h12 : Rd (wo.alloc (.cells #[.int .i64 1, .int .i64 2] 3)) (some ⟨wo.heap.size, 0, none⟩) (([1, 2] : List Int).map (.int .i64)) :=
                  Rd.own (World.ownsRow_lit (e := 3) (size := 1) wo #[.int .i64 1, .int .i64 2] 2 (Nat.le_refl _) (by unfold maxLen; omega) (by simp))
                have GA : wo.grownBy (wo.alloc (.cells #[.int .i64 1, .int .i64 2] 3)) (some bo) := gb_below (World.grownBy.refl _ _) (bl_alloc (Below.refl _ _) _)
                have K5 : KM W T bs (wo.alloc (.cells #[.int .i64 1, .int .i64 2] 3)) bo n1 := (HK0.kept (below_noneT BK) (by simp)).kept (below_noneT (bl_alloc (Below.refl _ _) _)) (by simp)
                have S5 := HS2.out.gb GA
                have cov5 : Rd (wo.alloc (.cells #[.int .i64 1, .int .i64 2] 3)) (some ⟨b0, o0, none⟩) (cov.map .bool) := (hcov.belo BK).alloc _
                have HRK5 := Lib.hid (HRK.out.alloc (.cells #[.int .i64 1, .int .i64 2] 3))
                have G5 := grownBy_trans' GB GA
                have hz5 : wo.heap.size < (wo.alloc (.cells #[.int .i64 1, .int .i64 2] 3)).heap.size := by simp
                have hbw : wo.heap.size ≠ bo := by omega
                clear GB GA hD1 HDV HRK xv HS2
                generalize wo.alloc (.cells #[.int .i64 1, .int .i64 2] 3) = w5 at *
                go_loopw [13, 78] (fun v13 v78 wr => LoopC W T bs (freeL bs cov) bo k n1 (bud f') w5 v13 v78 wr) (fun _ v78 _ => 2 - (intOf v78).toNat)
                case atStart => exact ⟨0, n1, by omega, rfl, rfl, K5, by omega, World.grownBy.refl _ _⟩
                case round =>
                  clear K5
                  obtain ⟨q, n2, hq, rfl, rfl, K6, hn2, G6⟩ := hrel
                  have HBU := Lib.hid (show bud (f' + 1) = 2 * bud f' + 1 from rfl)
                  have S6 := S5.gb G6
                  have cov6 := cov5.grownBelow G6 (fun _ ad ha e => by injection ha with ha; subst ha; exact hb0 (by simpa using e))
                  have hk6 := HRK5.out.grownBelow G6 (fun _ ad ha e => by injection ha with ha; subst ha; exact hgo (by simpa using e))
                  have l12 := h12.grownBelow G6 (fun _ ad ha e => by injection ha with ha; subst ha; exact hbw (by simpa using e))
                  obtain ⟨wq, hwq⟩ : ∃ wq : World, wq = wr := ⟨_, rfl⟩
                  subst hwq
                  have zq := G6.size
                  by_cases hq2 : q < 2
                  · obtain ⟨cr, cv, ck, hr, -, -, -, -⟩ := id S6
                    obtain ⟨r0, r1, r2⟩ := id cr
                    have cq := l12.cellEM (k := q) (by simpa using hq2)
                    rw [show ([1, 2] : List Int)[q]'(by simpa using hq2) = (q : Int) + 1 by rcases (show q = 0 ∨ q = 1 from by omega) with rfl | rfl <;> rfl] at cq
                    simp only [Nat.zero_add] at cq
                    obtain ⟨d, hd⟩ : ∃ d, (q : Int) + 1 = d := ⟨_, rfl⟩
                    have HSUM := Lib.hid (show sumB W T 2 (tilN W T) (freeL bs cov) k (q + 1) = sumB W T 2 (tilN W T) (freeL bs cov) k q + partB W T 2 (tilN W T) (freeL bs cov) k d by rw [← hd]; rfl)
                    have hd12 : d = 1 ∨ d = 2 := by omega
                    rw [hd] at cq
                    clear hd
                    obtain ⟨S0, hS0⟩ : ∃ S0, sumB W T 2 (tilN W T) (freeL bs cov) k q = S0 := ⟨_, rfl⟩
                    have hSb := til_sum W T (freeL bs cov) k q hq
                    rw [hS0] at hSb HSUM ⊢
                    clear hS0
                    obtain ⟨hSb1, hSb2⟩ := hSb
                    have HKW := Lib.hid (show (k : Int) < W * T by have := HWT.out; omega)
                    have qI : (q : Int) < 2 := by omega
                    have kI0 : (0 : Int) ≤ (k : Int) := by omega
                    have sbr := World.block_lt_of_cell? wq _ r0
                    have sbv := World.block_lt_of_cell? wq _ cv
                    have sbk := World.block_lt_of_cell? wq _ ck
                    have sb0 : b0 < wq.heap.size := by omega
                    simp only at sbr sbv sbk
                    have hsb := step_bd (W := W) (T := T) (c := (k : Int)) d h1 h2 h3 h4 kI0 HKW.out
                    have hsn := step_neq (W := W) (T := T) (c := (k : Int)) (d := d) h1 kI0
                    have HPF := Lib.hid (fun (hs : stepZ W T k d < 0 ∨ (freeL bs cov).getD (stepZ W T k d).toNat false = false) => part_f (W := W) (T := T) (rec := tilN W T) (by rw [HFL.out]; exact hlt) HF.out hs)
                    have HPT := Lib.hid (fun (s : Nat) (hs : stepZ W T k d = (s : Int)) (hF : (freeL bs cov).getD s false = true) => part_t (W := W) (T := T) (rec := tilN W T) (by rw [HFL.out]; exact hlt) HF.out hs hF)
                    have CS := Lib.hid (fun z => step_any W T (.slice (some ⟨b, off, none⟩) n c0) k d z h1 h2 h3 h4 kI0 HKW.out)
                    generalize stepZ W T k d = st at hsb hsn HPF HPT CS
                    rcases hsb with hs1 | ⟨hs0, hs1⟩
                    · subst hs1
                      have HS1 := Lib.hid (show sumB W T 2 (tilN W T) (freeL bs cov) k (q + 1) = S0 by rw [HSUM.out, HPF.out (.inl (by omega))]; omega)
                      go_wp2_with fail
                      refine (CS.out _).mono ?_
                      rintro e w6 ⟨rfl, b6⟩
                      go_wp2_with fail
                      go_roundw
                      case rel => exact ⟨q + 1, n2, by omega, by go_num, by rw [HS1.out], K6.kept (below_noneT b6) (by simp), by have := HBU.out; have := Nat.mul_le_mul_right (bud f') (show q ≤ q + 1 by omega); omega, gb_below G6 b6⟩
                      case measure => simp [intOf]; omega
                    · obtain ⟨sn, rfl⟩ := Int.eq_ofNat_of_zero_le hs0
                      have snn : sn < n := by have := HWT.out; omega
                      have sb : sn < bs.length := by have := HN.out; omega
                      have sc : sn < cov.length := by have := HCL.out; omega
                      have snI : (sn : Int) < (n : Int) := by omega
                      have cbs := hr.cellEM sb
                      have cws := cov6.cellEM sc
                      have HGS := Lib.hid (show (freeL bs cov).getD sn false = (bs[sn] && !cov[sn]) by rw [List.getD_eq_getElem?_getD, List.getElem?_eq_getElem (by rw [HFL.out]; exact snn)]; exact freeL_get sb sc)
                      have hne1 : sn ≠ k := by omega
                      have hvb : bs[sn] = true ∨ bs[sn] = false := by cases bs[sn] <;> simp
                      have hvc : cov[sn] = true ∨ cov[sn] = false := by cases cov[sn] <;> simp
                      have hfr : (bs[sn] = true ∧ cov[sn] = false) ∨ (bs[sn] && !cov[sn]) = false := by
                        rcases hvb with e1 | e1 <;> rcases hvc with e2 | e2 <;> simp [e1, e2]
                      have sblk := World.block_lt_of_cell? wq _ cbs
                      simp only at sblk
                      go_wp2_with fail
                      refine (CS.out _).mono ?_
                      rintro e w6 ⟨rfl, b6⟩
                      have bc := fun b o (h : b < wq.heap.size) => (bcell b6).1 b o h
                      have cbs6 := (bc b (off + sn) sblk).trans cbs
                      have cws6 := (bc b0 (o0 + sn) sb0).trans cws
                      have S7 := S6.gb (gb_below (World.grownBy.refl _ _) b6)
                      have K7 := K6.kept (below_noneT b6) (by simp)
                      have cov7 := cov6.belo b6
                      have G7 := gb_below G6 b6
                      obtain ⟨⟨y0, y1, y2⟩, yv, yk, -, -, -, -, -⟩ := id S7
                      clear cr cv ck hr r0 r1 r2 cq cbs cws S6 K6 cov6 G6 bc sbr sbv sbk
                      rcases hfr with ⟨e1, e2⟩ | hno
                      · rw [e1] at cbs6
                        rw [e2] at cws6
                        have HPV := Lib.hid (HPT.out sn rfl (by rw [HGS.out, e1, e2]; rfl))
                        have HFG := Lib.hid (show (freeL bs cov)[sn]'(by rw [HFL.out]; exact snn) = true by rw [freeL_get sb sc, e1, e2]; rfl)
                        clear e1 e2 hvb hvc
                        have CC := Lib.hid (cloneB0_any ⟨b0, o0, none⟩ q0 cov w6 cov7 (by intro e; rw [e] at kc; simp at kc) (by have := HCL.out; omega))
                        rw [HCL.out] at CC
                        have hF2 : freeL bs ((cov.set k true).set sn true) = ((freeL bs cov).set k false).set sn false := by
                          rw [freeL_set (by rw [List.length_set, HCL.out, HN.out]), freeL_set (by rw [HCL.out, HN.out])]
                        rw [← hF2] at HPV
                        have hcnt2 : cnt (freeL bs ((cov.set k true).set sn true)) ≤ f' := by
                          rw [hF2]
                          have c1 := cnt_set_lt (freeL bs cov) k (by rw [HFL.out]; exact hlt) HF.out
                          have c2 := cnt_set_le ((freeL bs cov).set k false) sn
                          have := HCNT.out
                          omega
                        have hpre2 : ∀ j (hj : j < (freeL bs ((cov.set k true).set sn true)).length), j < k + 1 → (freeL bs ((cov.set k true).set sn true))[j] = false := by
                          intro j hj hjk
                          have e : (freeL bs ((cov.set k true).set sn true))[j]? = (((freeL bs cov).set k false).set sn false)[j]? := by rw [hF2]
                          rw [List.getElem?_eq_getElem hj] at e
                          have hjF : j < (freeL bs cov).length := by rw [hF2] at hj; simpa using hj
                          rw [List.getElem?_eq_getElem (by simpa using hjF)] at e
                          injection e with e
                          rw [e, List.getElem_set, List.getElem_set]
                          split
                          · rfl
                          · split
                            · rfl
                            · exact HK.out j hjF (by omega)
                        have hcl2 : ((cov.set k true).set sn true).length = n := by rw [List.length_set, List.length_set]; exact HCL.out
                        have HI := Lib.hid (fun (z : World) (g7 c7 : Nat) (S8 : Cst W T n c0 bs (some ⟨b, off, none⟩) bo br bv bk z) (K8 : KM W T bs z bo n2) (R8 : Rd z (some ⟨g7, 0, none⟩) (((cov.set k true).set sn true).map .bool)) (hg7 : g7 ≠ bo) (hc7 : n ≤ c7) => by
                          have h := HIH.out f' rfl z ((cov.set k true).set sn true) (k + 1) (some ⟨g7, 0, none⟩) c7 n2 S8 K8 R8 (fun ad e => by injection e with e; subst e; exact hg7) hcl2 hc7 (by omega) hcnt2 (by omega) (by
                            have h1 := HBU.out
                            have h2 := Nat.mul_le_mul_right (bud f') (show q ≤ 1 by omega)
                            omega) hpre2
                          rw [show ((k + 1 : Nat) : Int) = (k : Int) + 1 by omega] at h
                          exact h)
                        have hv2 := tilN_bd (W := W) (T := T) (freeL bs ((cov.set k true).set sn true))
                        obtain ⟨T2, hT2⟩ : ∃ T2, tilN W T (freeL bs ((cov.set k true).set sn true)) = T2 := ⟨_, rfl⟩
                        rw [hT2] at HPV HI hv2
                        have HS1 := Lib.hid (show sumB W T 2 (tilN W T) (freeL bs cov) k (q + 1) = S0 + T2 by rw [HSUM.out, HPV.out])
                        obtain ⟨hv3, hv4⟩ := hv2
                        clear hT2 hF2 hcnt2 hpre2 hcl2 HPV HPT HPF HSUM
                        go_wp2_with fail
                        refine CC.out.mono ?_
                        rintro e w7 ⟨A7, c7, rfl, own7, hc7, b7⟩
                        obtain ⟨A7', c7', e7, own7'⟩ := own7
                        rw [HCL.out] at own7'
                        obtain ⟨g7, q7, e8, hg7, hg7s⟩ := own7'.form (by omega)
                        have eA : A7 = some ⟨g7, 0, none⟩ := by injection e8
                        subst eA
                        have W7 := Wr.of_own own7'
                        have hnn : cov.map Value.bool ≠ [] := by intro e; rw [List.map_eq_nil_iff] at e; rw [e] at kc; simp at kc
                        obtain ⟨g', hg', -, -, hfz⟩ := W7.form hnn
                        have hgg : g7 = g' := by injection hg' with hg'; injection hg'
                        subst hgg
                        have c71 := W7.rd.cellEM kc
                        have c72 := W7.rd.cellEM sc
                        rw [Nat.zero_add] at c71 c72
                        obtain ⟨u71, c71⟩ : ∃ u, w7.cell? ⟨g7, k, none⟩ = some u := ⟨_, c71⟩
                        obtain ⟨u72, c72⟩ : ∃ u, w7.cell? ⟨g7, sn, none⟩ = some u := ⟨_, c72⟩
                        have f71 := hfz k
                        have f72 := hfz sn
                        have sbk6 := World.block_lt_of_cell? w6 _ yk
                        simp only at sbk6
                        have yk7 := ((bcell b7).1 bk 0 sbk6).trans yk
                        have hbk1 : ¬ (bk = g7) := by omega
                        have hbk2 : ¬ (g7 = bk) := by omega
                        have hne2 : ¬ (k = sn) := fun e => hne1 e.symm
                        have hne3 : ¬ (sn = k) := hne1
                        have zlo : bo < w6.heap.size := K7.lt
                        have G8 : w6.grownBy ((w7.setCell ⟨g7, k, none⟩ (.bool true)).setCell ⟨g7, sn, none⟩ (.bool true)) (some bo) := gb_setN (gb_setN (gb_below (World.grownBy.refl _ _) b7) g7 k _ hg7) g7 sn _ hg7
                        have S8 := S7.gb G8
                        have K8 := K7.kept (gb_setN (gb_setN (below_noneT b7) g7 k (.bool true) hg7) g7 sn (.bool true) hg7) (by simp)
                        have R8 : Rd ((w7.setCell ⟨g7, k, none⟩ (.bool true)).setCell ⟨g7, sn, none⟩ (.bool true)) (some ⟨g7, 0, none⟩) (((cov.set k true).set sn true).map .bool) := by
                          rw [List.map_set, List.map_set]; exact ((W7.store k (.bool true)).store sn (.bool true)).rd
                        have CK8 := Lib.hid (HI.out _ g7 c7 S8 K8 R8 (by omega) hc7)
                        have G9 := grownBy_trans' G7 G8
                        clear own7' e7 e8 hfz W7 hnn S7 K7 S8 K8 R8 HI CC cov7 G8 y0 y1 y2 yv yk
                        go_wp2_with fail
                        refine CK8.out.mono ?_
                        rintro e w9 ⟨n3, rfl, K9, hn3, G10⟩
                        have HSM := Lib.hid (Nat.succ_mul q (bud f'))
                        go_wp2_with fail
                        go_roundw
                        case rel => exact ⟨q + 1, n3, by omega, by go_num, by rw [HS1.out], K9, by have := HSM.out; simp only [Nat.succ_eq_add_one] at this; omega, grownBy_trans' G9 G10⟩
                        case measure => simp [intOf]; omega
                      · have HS1 := Lib.hid (show sumB W T 2 (tilN W T) (freeL bs cov) k (q + 1) = S0 by rw [HSUM.out, HPF.out (.inr (by rw [Int.toNat_natCast, HGS.out]; exact hno))]; omega)
                        have HSM := Lib.hid (Nat.mul_le_mul_right (bud f') (show q ≤ q + 1 by omega))
                        rcases hvb with e1 | e1
                        · have e2 : cov[sn] = true := by rcases hvc with e | e; exact e; rw [e1, e] at hno; cases hno
                          rw [e1] at cbs6
                          rw [e2] at cws6
                          clear e1 e2 hno hvc
                          go_wp2_with fail
                          go_roundw
                          case rel => exact ⟨q + 1, n2, by omega, by go_num, by rw [HS1.out], K7, by have := HSM.out; omega, G7⟩
                          case measure => simp [intOf]; omega
                        · rw [e1] at cbs6
                          clear e1 hno hvc cws6
                          go_wp2_with fail
                          go_roundw
                          case rel => exact ⟨q + 1, n2, by omega, by go_num, by rw [HS1.out], K7, by have := HSM.out; omega, G7⟩
                          case measure => simp [intOf]; omega
                  · obtain rfl : q = 2 := by omega
                    have hge3 : ¬ ((2 : Int) < 2) := by omega
                    have HT2 := Lib.hid (show sumB W T 2 (tilN W T) (freeL bs cov) k 2 = tilN W T (freeL bs cov) from HREC.out.symm)
                    have hconv6 := conv_key (cap := cc) hk6
                    rw [HKL.out] at hconv6
                    have xv := S6.ov
                    rw [HT2.out]
                    clear hconv
                    go_wp2_with (at_mapUpdate; refine upd_k K6 (by have := HBU.out; omega) (HCL.out.trans HN.out.symm) kb (by have := HN.out; omega) HFIRST.out rfl _ _ _ rfl rfl rfl rfl ?_; intro w9 K9 g9)
                    go_ret
                    exact ⟨n2 + 1, rfl, K9, by have := HBU.out; omega, grownBy_trans' (grownBy_trans' G5 G6) g9⟩
    · obtain rfl : k = n := by omega
      have HT := Lib.hid (tilN_none (W := W) (T := T) (F := freeL bs cov) (firstB_eq (by rw [HFL.out]; omega) (fun j hj h2 => HK.out j hj (by rw [HFL.out] at hj; exact hj)) (fun h => by rw [HFL.out] at h; omega) |>.trans HFL.out.symm))
      have hkk : ((k : Int) == (k : Int)) = true := by simp
      go_wp2_with fail
      go_ret
      exact ⟨n1, ret_i (by rw [HT.out]), HK0, by omega, World.grownBy.refl _ _⟩
end Go.Proofs.YtafmpgikdhlknaaGreat

/- Contracts: dark cells. -/
namespace Go.Proofs.YtafmpgikdhlknaaGreat
open Go.RowKit

def darkB (W c : Int) : Bool := (c % W + c / W) % 2 == 0
/-- the numbers with a property, in order -/
def pickTo (p : Nat → Bool) (k : Nat) : List Int := ((List.range k).filter p).map fun i : Nat => (i : Int)
theorem pick_t {p : Nat → Bool} {k : Nat} (h : p k = true) : pickTo p (k + 1) = pickTo p k ++ [(k : Int)] := by
  unfold pickTo; rw [List.range_succ, List.filter_append]; simp [h]
theorem pick_f {p : Nat → Bool} {k : Nat} (h : p k = false) : pickTo p (k + 1) = pickTo p k := by
  unfold pickTo; rw [List.range_succ, List.filter_append]; simp [h]
theorem pick_len (p : Nat → Bool) (k : Nat) : (pickTo p k).length ≤ k := by
  unfold pickTo; rw [List.length_map]; have := List.length_filter_le p (List.range k); simpa using this
/-- whether a cell of the region is dark, or light -/
def isCol (W : Int) (bs : List Bool) (d : Bool) (i : Nat) : Bool := bs.getD i false && (darkB W i == d)
theorem isCol_f {W : Int} {bs : List Bool} {d : Bool} {k : Nat} (hk : k < bs.length) (h : bs[k] = false) : isCol W bs d k = false := by
  unfold isCol; rw [List.getD_eq_getElem?_getD, List.getElem?_eq_getElem hk]; simp [h]
theorem isCol_t {W : Int} {bs : List Bool} {d : Bool} {k : Nat} (hk : k < bs.length) (h : bs[k] = true) : isCol W bs d k = (darkB W k == d) := by
  unfold isCol; rw [List.getD_eq_getElem?_getD, List.getElem?_eq_getElem hk]; simp [h]
def darkL (W : Int) (bs : List Bool) (d : Bool) : List Int := pickTo (isCol W bs d) bs.length


/-- what is returned for a region that is not valid -/
def darkV (W T : Int) (bs : List Bool) : List Int := if validB W T bs = true then darkL W bs true else []

theorem darkV_len (W T : Int) (bs : List Bool) {n : Nat} (h : bs.length ≤ n) : (darkV W T bs).length ≤ n := by
  unfold darkV
  split
  · exact Nat.le_trans (pick_len _ _) h
  · simp
end Go.Proofs.YtafmpgikdhlknaaGreat

/- Contracts: the program's count of tilings, and TilingsMany. -/
namespace Go.Proofs.YtafmpgikdhlknaaGreat
open Go.RowKit

theorem count_all {W T : Int} {n c0 : Nat} {bs : List Bool} {A : Option Addr} {bo br bv bk : Nat} (h1 : 1 ≤ W) (h2 : W ≤ 6) (h3 : 1 ≤ T) (h4 : T ≤ 6) (hn : bs.length = n) (hWT : W * T = (n : Int)) : ∀ f, CntOk W T n c0 bs A bo br bv bk f
  | 0 => count_step h1 h2 h3 h4 hn hWT (fun f' h => by omega)
  | f + 1 => count_step h1 h2 h3 h4 hn hWT (fun f' h => by
      obtain rfl : f = f' := by omega
      exact count_all h1 h2 h3 h4 hn hWT f)
theorem free_none (bs : List Bool) : freeL bs (List.replicate bs.length false) = bs := by
  apply List.ext_getElem
  · rw [freeL_len (by simp)]
  · intro i h1 h2
    rw [freeL_get h2 (by simpa using h2)]
    simp
theorem al_newM (w : World) (v : Value) (t : TypeId) {n : Nat} (h : w.heap.size = n) : (w.alloc (.cells #[v] t)).cell? ⟨n, 0, none⟩ = some v := by subst h; exact cell_of_row _ _ _ _ _ _ (heap_alloc_new w _)
theorem al_oldM {w : World} {p : Addr} {v : Value} (o : Obj) (h : w.cell? p = some v) : (w.alloc o).cell? p = some v := (World.cell?_alloc_lt w o p (World.block_lt_of_cell? w _ h)).trans h
theorem make_boolM (W : World) (n : Nat) (hn : n ≤ 1000000) : ∃ w' : World, (Instr.makeSlice 23 (.int .i64 n) (.int .i64 n)).run Tryz.prog W = .ok (.slice (some ⟨W.heap.size, 0, none⟩) n n) w' ∧ Wr w' W.heap.size 4 (some ⟨W.heap.size, 0, none⟩) ((List.replicate n false).map .bool) ∧ Below W.heap.size W w' ∧ W.heap.size < w'.heap.size := by
  obtain ⟨i0, hi, hz0, hz1, hz2⟩ := info_parts Tryz.infoB
  obtain ⟨w', hrun, r1, r2⟩ := run_make_full (P := Tryz.prog) W W.heap.size 23 4 i0 (.bool false) 1 Tryz.underlying23 hi hz0 hz1 .i64 .i64 n (by rw [hz2]; omega) (by unfold maxLen; omega) (Nat.le_refl _)
  refine ⟨w', hrun, ?_, ((Below.refl W.heap.size W).grown r2 (Nat.le_refl _) (fun k hk => by cases hk)), own_lt r1 _ rfl⟩
  have h0 := Wr.of_own r1
  rw [show (Value.bool false).cells = #[.bool false] from rfl, toList_madeCells_one] at h0
  simpa using h0
theorem make_intM (W : World) (n : Nat) (hn : n ≤ 1000000) : ∃ w' : World, (Instr.makeSlice 29 (.int .i64 n) (.int .i64 n)).run Tryz.prog W = .ok (.slice (some ⟨W.heap.size, 0, none⟩) n n) w' ∧ Wr w' W.heap.size 3 (some ⟨W.heap.size, 0, none⟩) ((List.replicate n (0 : Int)).map (.int .i64)) ∧ Below W.heap.size W w' ∧ W.heap.size < w'.heap.size := by
  obtain ⟨i0, hi, hz0, hz1, hz2⟩ := info_parts Tryz.infoI
  obtain ⟨w', hrun, r1, r2⟩ := run_make_full (P := Tryz.prog) W W.heap.size 29 3 i0 (.int .i64 0) 1 Tryz.underlying29 hi hz0 hz1 .i64 .i64 n (by rw [hz2]; omega) (by unfold maxLen; omega) (Nat.le_refl _)
  refine ⟨w', hrun, ?_, ((Below.refl W.heap.size W).grown r2 (Nat.le_refl _) (fun k hk => by cases hk)), own_lt r1 _ rfl⟩
  have h0 := Wr.of_own r1
  rw [show (Value.int .i64 0).cells = #[.int .i64 0] from rfl, toList_madeCells_one] at h0
  simpa using h0
set_option maxRecDepth 100000 in
set_option maxHeartbeats 4000000 in
theorem count_any (W T : Int) (A A2 : Option Addr) (c c2 n : Nat) (bs : List Bool) (w : World) (hr : Rd w A (bs.map .bool)) (hr2 : Rd w A2 ((List.replicate n (0 : Int)).map (.int .i64))) (hv : validB W T bs = true) (hbn : bs.length = n) :
    Calls Tryz.prog 92 #[.agg #[.int .i64 W, .int .i64 T, .slice A n c], .slice A2 n c2] w fun e w' => e = .returned (.int .i64 (tilN W T bs)) ∧ Below w.heap.size w w' := by
  obtain ⟨h1, h2, h3, h4, hn36, h6⟩ := valid_len hv
  have hn1 : 1 ≤ n := by have := (mul_bd h1 h2 h3 h4).1; omega
  have h36 : n ≤ 36 := by omega
  have hcnt : cnt bs ≤ 24 := (validB_iff.1 hv).2.2.2
  have HLT := Lib.hid (fun ad (ha : A = some ad) => hr.lt ha (by intro e; rw [List.map_eq_nil_iff] at e; rw [e] at hbn; simp at hbn; omega))
  have CT := Lib.hid (fun (z : World) (g cap : Nat) (S : Cst W T n c bs A (w.heap.size + 1) w.heap.size (w.heap.size + 1 + 1) (w.heap.size + 1 + 1 + 1) z) (K : KM W T bs z (w.heap.size + 1) 0) (R : Rd z (some ⟨g, 0, none⟩) ((List.replicate n false).map .bool)) (hg : g ≠ w.heap.size + 1) (hc : n ≤ cap) => by
    have h := count_all (c0 := c) (A := A) (bo := w.heap.size + 1) (br := w.heap.size) (bv := w.heap.size + 1 + 1) (bk := w.heap.size + 1 + 1 + 1) h1 h2 h3 h4 hbn (by rw [← hbn]; exact h6.symm) 24 z (List.replicate n false) 0 (some ⟨g, 0, none⟩) cap 0 S K R (fun ad e => by injection e with e; subst e; exact hg) (by simp) hc (Nat.zero_le _)
      (by rw [← hbn, free_none]; exact hcnt) (Nat.le_refl _) (by decide) (fun k _ h => absurd h (Nat.not_lt_zero k))
    rw [← hbn, free_none, hbn] at h
    exact h)
  clear hcnt hn36 h6 hv hbn
  have X0 := C3.new w (.int .i64 W) (.int .i64 T) (.slice A n c) 25
  have B0 := bl_alloc (Below.refl w.heap.size w) (.cells #[.int .i64 W, .int .i64 T, .slice A n c] 25)
  have hmm := @run_makeMap Tryz.prog
  have e4 : ((((w.alloc (.cells #[.int .i64 W, .int .i64 T, .slice A n c] 25)).alloc (.map #[] 0)).alloc (.cells #[.map (some (w.heap.size + 1))] 113)).alloc (.cells #[.func (.func 127) #[] #[.pointer (some ⟨w.heap.size, 0, none⟩), .pointer (some ⟨w.heap.size + 1 + 1, 0, none⟩), .pointer (some ⟨w.heap.size + 1 + 1 + 1, 0, none⟩)]] 114)).heap.size = w.heap.size + 1 + 1 + 1 + 1 := by simp
  obtain ⟨w5, hrun, W5, b5, z5⟩ := make_boolM ((((w.alloc (.cells #[.int .i64 W, .int .i64 T, .slice A n c] 25)).alloc (.map #[] 0)).alloc (.cells #[.map (some (w.heap.size + 1))] 113)).alloc (.cells #[.func (.func 127) #[] #[.pointer (some ⟨w.heap.size, 0, none⟩), .pointer (some ⟨w.heap.size + 1 + 1, 0, none⟩), .pointer (some ⟨w.heap.size + 1 + 1 + 1, 0, none⟩)]] 114)) n (by omega)
  have S4 : Cst W T n c bs A (w.heap.size + 1) w.heap.size (w.heap.size + 1 + 1) (w.heap.size + 1 + 1 + 1) ((((w.alloc (.cells #[.int .i64 W, .int .i64 T, .slice A n c] 25)).alloc (.map #[] 0)).alloc (.cells #[.map (some (w.heap.size + 1))] 113)).alloc (.cells #[.func (.func 127) #[] #[.pointer (some ⟨w.heap.size, 0, none⟩), .pointer (some ⟨w.heap.size + 1 + 1, 0, none⟩), .pointer (some ⟨w.heap.size + 1 + 1 + 1, 0, none⟩)]] 114)) :=
    ⟨((X0.alloc _).alloc _).alloc _, al_oldM _ (al_newM _ _ _ (by simp)), al_newM _ _ _ (by simp), ((((hr.alloc _).alloc _).alloc _).alloc _), by omega, by omega, by omega, fun ad ha => by have := HLT.out ad ha; omega⟩
  have K4 : KM W T bs ((((w.alloc (.cells #[.int .i64 W, .int .i64 T, .slice A n c] 25)).alloc (.map #[] 0)).alloc (.cells #[.map (some (w.heap.size + 1))] 113)).alloc (.cells #[.func (.func 127) #[] #[.pointer (some ⟨w.heap.size, 0, none⟩), .pointer (some ⟨w.heap.size + 1 + 1, 0, none⟩), .pointer (some ⟨w.heap.size + 1 + 1 + 1, 0, none⟩)]] 114)) (w.heap.size + 1) 0 := by
    have h := KM.made W T bs (w.alloc (.cells #[.int .i64 W, .int .i64 T, .slice A n c] 25))
    rw [show (w.alloc (.cells #[.int .i64 W, .int .i64 T, .slice A n c] 25)).heap.size = w.heap.size + 1 by simp] at h
    exact (h.kept (World.grownBy_alloc _ _ none) (by simp)).kept (World.grownBy_alloc _ _ none) (by simp)
  have R4 : Rd ((((w.alloc (.cells #[.int .i64 W, .int .i64 T, .slice A n c] 25)).alloc (.map #[] 0)).alloc (.cells #[.map (some (w.heap.size + 1))] 113)).alloc (.cells #[.func (.func 127) #[] #[.pointer (some ⟨w.heap.size, 0, none⟩), .pointer (some ⟨w.heap.size + 1 + 1, 0, none⟩), .pointer (some ⟨w.heap.size + 1 + 1 + 1, 0, none⟩)]] 114)) A2 ((List.replicate n (0 : Int)).map (.int .i64)) := (((hr2.alloc _).alloc _).alloc _).alloc _
  have B4 : Below w.heap.size w ((((w.alloc (.cells #[.int .i64 W, .int .i64 T, .slice A n c] 25)).alloc (.map #[] 0)).alloc (.cells #[.map (some (w.heap.size + 1))] 113)).alloc (.cells #[.func (.func 127) #[] #[.pointer (some ⟨w.heap.size, 0, none⟩), .pointer (some ⟨w.heap.size + 1 + 1, 0, none⟩), .pointer (some ⟨w.heap.size + 1 + 1 + 1, 0, none⟩)]] 114)) := bl_alloc (bl_alloc (bl_alloc B0 _) _) _
  rw [e4] at hrun W5 z5
  go_enter Tryz.func92, Tryz.ntmps92
  go_wp2_with fail
  clear hrun hmm X0 B0 hr hr2
  generalize ((((w.alloc (.cells #[.int .i64 W, .int .i64 T, .slice A n c] 25)).alloc (.map #[] 0)).alloc (.cells #[.map (some (w.heap.size + 1))] 113)).alloc (.cells #[.func (.func 127) #[] #[.pointer (some ⟨w.heap.size, 0, none⟩), .pointer (some ⟨w.heap.size + 1 + 1, 0, none⟩), .pointer (some ⟨w.heap.size + 1 + 1 + 1, 0, none⟩)]] 114)) = w4 at *
  have HS := Lib.hid S4
  have HKM := Lib.hid K4
  have HR4 := Lib.hid R4
  have he4 : w4.heap.size = w.heap.size + 1 + 1 + 1 + 1 := e4
  have HE4 := Lib.hid he4
  clear S4 K4 R4 e4 he4
  go_loopw [18] (fun v18 wr => ∃ k : Nat, k ≤ n ∧ v18 = .int .i64 k ∧ Wr wr (w.heap.size + 1 + 1 + 1 + 1) 4 (some ⟨w.heap.size + 1 + 1 + 1 + 1, 0, none⟩) ((List.replicate n false).map .bool) ∧ Below w4.heap.size w4 wr) (fun v18 _ => n - (intOf v18).toNat)
  case atStart => exact ⟨0, Nat.zero_le _, rfl, W5, b5⟩
  case round =>
    clear W5 b5 z5
    obtain ⟨k, hk, rfl, W6, b6⟩ := hrel
    by_cases hlt : k < n
    · have kI : (k : Int) < (n : Int) := by omega
      have R6 := HR4.out.belo b6
      obtain ⟨ba, oa, rfl, hc⟩ := R6.atEM (k := k) (by simpa using hlt)
      rw [List.getElem_replicate] at hc
      have hnn : (List.replicate n false).map Value.bool ≠ [] := by intro e; have := congrArg List.length e; simp at this; omega
      obtain ⟨g', hg', -, hgs, hfz⟩ := W6.form hnn
      have hgg : w.heap.size + 1 + 1 + 1 + 1 = g' := by injection hg' with hg'; injection hg'
      have c1 := W6.rd.cellEM (k := k) (by simpa using hlt)
      rw [Nat.zero_add] at c1
      obtain ⟨u1, c1⟩ : ∃ u, wr.cell? ⟨w.heap.size + 1 + 1 + 1 + 1, k, none⟩ = some u := ⟨_, c1⟩
      have f1 := hfz k
      rw [← hgg] at f1 hgs
      clear hfz hg' hgg hnn R6
      go_wp2_with fail
      go_roundw
      case rel =>
        refine ⟨k + 1, by omega, by go_num, ?_, b6.setCell (by have := HE4.out; simp; omega) _⟩
        have h := W6.store k (.bool false)
        rw [List.map_replicate, List.set_replicate_self] at h
        rw [List.map_replicate]
        exact h
      case measure => simp [intOf]; omega
    · obtain rfl : k = n := by omega
      have S6 := HS.out.gb (gb_below (World.grownBy.refl _ _) b6)
      have K6 := HKM.out.kept (below_noneT b6) (by simp)
      have CK := Lib.hid (CT.out wr (w.heap.size + 1 + 1 + 1 + 1) k S6 K6 W6.rd (by omega) (Nat.le_refl _))
      have xk := S6.ck
      clear S6 K6
      go_wp2_with fail
      refine CK.out.mono ?_
      rintro e w7 ⟨n7, rfl, -, -, G7⟩
      go_wp2
      go_ret
      exact ⟨rfl, (B4.trans (b6.mono (by have := HE4.out; omega))).grown G7 (by have := b6.size; have := HE4.out; omega) (fun k hk => by injection hk with hk; omega)⟩
set_option maxRecDepth 100000 in
set_option maxHeartbeats 2000000 in
theorem total_any (W T : Int) (A : Option Addr) (c n : Nat) (bs : List Bool) (w : World) (hr : Rd w A (bs.map .bool)) (hv : validB W T bs = true) (hbn : bs.length = n) :
    Calls Tryz.prog 51 #[.agg #[.int .i64 W, .int .i64 T, .slice A n c]] w fun e w' => e = .returned (.int .i64 (tilN W T bs)) ∧ Below w.heap.size w w' := by
  have h36 : n ≤ 36 := by have := (valid_len hv).2.2.2.2.1; omega
  have X0 := C3.new w (.int .i64 W) (.int .i64 T) (.slice A n c) 25
  have B0 := bl_alloc (Below.refl w.heap.size w) (.cells #[.int .i64 W, .int .i64 T, .slice A n c] 25)
  have R0 := hr.alloc (.cells #[.int .i64 W, .int .i64 T, .slice A n c] 25)
  have CC := Lib.hid (fun (z : World) (A2 : Option Addr) (R : Rd z A (bs.map .bool)) (R2 : Rd z A2 ((List.replicate n (0 : Int)).map (.int .i64))) => count_any W T A A2 c n n bs z R R2 hv hbn)
  clear hv hbn hr
  go_enter Tryz.func51, Tryz.ntmps51
  go_wp2_with fail
  generalize hw1 : w.alloc (.cells #[.int .i64 W, .int .i64 T, .slice A n c] 25) = w1 at *
  clear hw1
  obtain ⟨w5, hrun5, W5, b5', z5⟩ := make_intM w1.drew n (by omega)
  have b5 : Below w1.heap.size w1 w5 := (Below.refl w1.heap.size w1).drew.trans b5'
  have W5r : Rd w5 (some ⟨w1.heap.size, 0, none⟩) ((List.replicate n (0 : Int)).map (.int .i64)) := W5.rd
  have KS := Lib.hid (fun (z : World) (hb : Below w1.heap.size w1 z) => X0.belo hb)
  obtain ⟨x0, x1, x2⟩ := id X0
  go_region_held3 (fun w' => w'.cell? ⟨w.heap.size, 0, none⟩ = some (.int .i64 W) ∧ w'.cell? ⟨w.heap.size, 1, none⟩ = some (.int .i64 T) ∧ w'.cell? ⟨w.heap.size, 2, none⟩ = some (.slice A n c))
    (first | exact KS.out _ b7 | exact KS.out _ b5 | exact KS.out _ b5.drew | exact KS.out _ (Below.refl _ _).drew)
    ((go_at_call 92; (with_reducible refine (CC.out w5 _ (R0.belo b5) W5r).mono ?_); rintro e w6 ⟨rfl, b6⟩; have b7 := bl_go b5 b6))
  go_wp2
  go_ret
  exact ⟨rfl, bl_go B0 b7⟩
def tilZ (W T : Int) (bs : List Bool) : Int := if validB W T bs = true then tilN W T bs else -1
set_option maxHeartbeats 1000000 in
theorem iTilingsMany_any (W T : Int) (A : Option Addr) (c : Nat) (bs : List Bool) (w : World) (hr : Rd w A (bs.map .bool)) (hn : bs.length ≤ maxLen) :
    Calls Tryz.prog 19 #[.agg #[.int .i64 W, .int .i64 T, .slice A bs.length c]] w fun e w' => e = .returned (.int .i64 (tilZ W T bs)) ∧ Below w.heap.size w w' := by
  have X0 := C3.new w (.int .i64 W) (.int .i64 T) (.slice A bs.length c) 25
  have B0 := bl_alloc (Below.refl w.heap.size w) (.cells #[.int .i64 W, .int .i64 T, .slice A bs.length c] 25)
  have R0 := hr.alloc (.cells #[.int .i64 W, .int .i64 T, .slice A bs.length c] 25)
  have CV := Lib.hid (fun (z : World) (R : Rd z A (bs.map .bool)) => iRegionValid_any W T A c bs z R hn)
  cases hv : validB W T bs with
  | false =>
    rw [show tilZ W T bs = -1 by unfold tilZ; rw [hv]; rfl]
    have HV := Lib.hid hv
    clear hv hr hn
    go_enter Tryz.func19, Tryz.ntmps19
    go_wp2_with fail
    refine (CV.out _ R0).mono ?_
    rintro e w1 ⟨rfl, b1⟩
    rw [HV.out]
    go_wp2
    go_ret
    exact ⟨rfl, bl_go B0 b1⟩
  | true =>
    rw [show tilZ W T bs = tilN W T bs by unfold tilZ; rw [if_pos hv]]
    have HV := Lib.hid hv
    have CC := Lib.hid (fun (z : World) (R : Rd z A (bs.map .bool)) => total_any W T A c bs.length bs z R hv rfl)
    clear hv hr hn
    go_enter Tryz.func19, Tryz.ntmps19
    go_wp2_with fail
    refine (CV.out _ R0).mono ?_
    rintro e w1 ⟨rfl, b1⟩
    rw [HV.out]
    obtain ⟨x0, x1, x2⟩ := X0.belo b1
    go_wp2_with fail
    refine (CC.out _ (R0.belo b1)).mono ?_
    rintro e w2 ⟨rfl, b2⟩
    go_wp2
    go_ret
    exact ⟨rfl, bl_go (bl_go B0 b1) b2⟩
end Go.Proofs.YtafmpgikdhlknaaGreat
