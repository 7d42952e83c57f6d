/- Maps of the call's own: who owns a cell, which cells were met. -/
import Derived.Test.YtnciemnlnijhfaaTryN
import Derived.Test.YtnciemnlnijhfaaMemE
import Derived.Maps.OwnOps
import Derived.Maps.OwnSet
namespace Go.Proofs.Ytnciemnlnijhfaa
open Go.RowKit

theorem keyI : Maps.Keyed Try.prog 3 := Maps.int_keyed Try.underlying3
theorem zeroI (w : World) : (zeroValue 3).run Try.prog w = .ok (.int .i64 0) w := by kernel_rfl
theorem zeroB (w : World) : (zeroValue 4).run Try.prog w = .ok (.bool false) w := by kernel_rfl
def kI (l : Nat) : Lit := .int .i64 (l : Int)
theorem wfI {l : Nat} (h : l < 1000) : (Lit.int .i64 (l : Int)).wf = true := by
  simp [Lit.wf, IntKind.min, IntKind.max, IntKind.bits, IntKind.signed] <;> omega
theorem keyI_of {l : Nat} (h : l < 1000) : keyOf Try.prog 3 (.int .i64 (l : Int)) = some (kI l) := Maps.keyOf_int_mk Try.underlying3 (wfI h)
theorem kI_ne {l t : Nat} (h : l ≠ t) : kI l ≠ kI t := fun e => h (by unfold kI at e; injection e with _ e; omega)
theorem kI_lit {l : Nat} : WideAt.IsKeyLit (kI l) := by unfold kI; simp [WideAt.IsKeyLit]
/-- block b of w is a map that tells the owners -/
def OMI (w : World) (b n : Nat) (M : Nat → Option Nat) : Prop := ∃ D : DataW Unit, w.ownsMap Try.prog 3 (plainElem Try.prog 3) b n D ∧ ∀ l : Nat, Maps.has D (kI l) = (M l).isSome ∧ ∀ s, M l = some s → ∀ z, D.atKey (kI l) z = .lit (.int .i64 (s : Int))
/-- .. that tells what was met -/
def MMB (w : World) (b n : Nat) (S : Nat → Bool) : Prop := ∃ D : DataW Unit, w.ownsMap Try.prog 3 (plainElem Try.prog 4) b n D ∧ ∀ l : Nat, D.atKey (kI l) (.lit (.bool false)) = .lit (.bool (S l))
theorem OMI.made (w : World) : OMI (w.alloc (.map #[] 0)) w.heap.size 0 (fun _ => none) := ⟨_, World.ownsMap_made w _ _ _, fun l => ⟨rfl, fun s h => by cases h⟩⟩
theorem MMB.made (w : World) : MMB (w.alloc (.map #[] 0)) w.heap.size 0 (fun _ => false) := ⟨_, World.ownsMap_made w _ _ _, fun _ => rfl⟩
theorem OMI.kept {w w' : World} {b n : Nat} {M : Nat → Option Nat} {row : Option Nat} (h : OMI w b n M) (hg : w.grownBy w' row) (hne : some b ≠ row) : OMI w' b n M := by
  obtain ⟨D, h1, h2⟩ := h; exact ⟨D, h1.kept hg hne, h2⟩
theorem MMB.kept {w w' : World} {b n : Nat} {S : Nat → Bool} {row : Option Nat} (h : MMB w b n S) (hg : w.grownBy w' row) (hne : some b ≠ row) : MMB w' b n S := by
  obtain ⟨D, h1, h2⟩ := h; exact ⟨D, h1.kept hg hne, h2⟩
theorem OMI.mono {w : World} {b n n' : Nat} {M : Nat → Option Nat} (h : OMI w b n M) (hn : n ≤ n') : OMI w b n' M := by
  obtain ⟨D, h1, h2⟩ := h; exact ⟨D, h1.mono hn, h2⟩
theorem OMI.lt {w : World} {b n : Nat} {M : Nat → Option Nat} (h : OMI w b n M) : b < w.heap.size := by obtain ⟨D, h1, h2⟩ := h; exact h1.lt
theorem MMB.lt {w : World} {b n : Nat} {S : Nat → Bool} (h : MMB w b n S) : b < w.heap.size := by obtain ⟨D, h1, h2⟩ := h; exact h1.lt
section
variable {w : World} {ops : Array Oper} {rest : List Oper} {o : Oper} {a : Act} {Q : Exit → Act → World → Prop}
set_option maxRecDepth 100000 in
theorem look_met {b n : Nat} {S : Nat → Bool} (h : MMB w b n S) (hg : o.guard = none) (m x : Operand) (hop : o.op = Op.lookup 72 m x false) (hm : a.eval m = .map (some b)) {l : Nat} (hl : l < 1000) (hx : a.eval x = .int .i64 (l : Int))
    (hK : wpList Try.prog ops Q rest (a.put o.dst (.bool (S l))) w) : wpList Try.prog ops Q (o :: rest) a w := by
  obtain ⟨D, h1, h2⟩ := h
  refine wpList_plain hg fun K' hK' => ?_
  obtain ⟨v, ps, hrun, hv⟩ := h1.lookup keyI Try.underlying72 (zeroB w) (plainElem_bool Try.underlying4 false) (keyI_of hl)
  rw [h2 l] at hv
  have hvb : v = .bool (S l) := by
    unfold plainElem at hv
    rw [Try.underlying4] at hv
    cases v <;> simp_all
  subst hvb
  unfold Oper.wp
  simp [execOp, hop, hm, hx, hrun, Result.andThen]
  exact hK' _ _ hK
set_option maxRecDepth 100000 in
theorem look_free {b n : Nat} {M : Nat → Option Nat} (h : OMI w b n M) (hg : o.guard = none) (m x : Operand) (hop : o.op = Op.lookup 70 m x true) (hm : a.eval m = .map (some b)) {l : Nat} (hl : l < 1000) (hx : a.eval x = .int .i64 (l : Int)) (hM : M l = none)
    (hK : ∀ c : Int, wpList Try.prog ops Q rest (a.put o.dst (.tuple #[.int .i64 c, .bool false])) w) : wpList Try.prog ops Q (o :: rest) a w := by
  obtain ⟨D, h1, h2⟩ := h
  refine wpList_lookup_own_ok_int w hg m x 70 hop 3 3 .i64 keyI Try.underlying70 Try.underlying3 (zeroI w) b n D hm h1 _ _ hx (keyI_of hl) (fun c _ _ => ?_)
  rw [(h2 l).1, hM]
  exact hK c
set_option maxRecDepth 100000 in
theorem look_old {b n : Nat} {M : Nat → Option Nat} (h : OMI w b n M) (hg : o.guard = none) (m x : Operand) (hop : o.op = Op.lookup 70 m x true) (hm : a.eval m = .map (some b)) {l s : Nat} (hl : l < 1000) (hx : a.eval x = .int .i64 (l : Int)) (hM : M l = some s)
    (hK : wpList Try.prog ops Q rest (a.put o.dst (.tuple #[.int .i64 (s : Int), .bool true])) w) : wpList Try.prog ops Q (o :: rest) a w := by
  obtain ⟨D, h1, h2⟩ := h
  refine wpList_lookup_own_ok_int w hg m x 70 hop 3 3 .i64 keyI Try.underlying70 Try.underlying3 (zeroI w) b n D hm h1 _ _ hx (keyI_of hl) (fun c hc _ => ?_)
  have e := (h2 l).2 s hM (.lit (.int .i64 0))
  have hcs : c = (s : Int) := by
    have e2 : (DataW.lit (.int .i64 c) : DataW Unit) = .lit (.int .i64 (s : Int)) := hc.symm.trans e
    injection e2 with e2
    injection e2
  rw [(h2 l).1, hM, hcs]
  exact hK
set_option maxRecDepth 100000 in
theorem upd_own {b n : Nat} {M : Nat → Option Nat} (h : OMI w b n M) (hn : n < 1000000) (hg : o.guard = none) (m x v : Operand) (hop : o.op = Op.mapUpdate 70 m x v) (hm : a.eval m = .map (some b)) {t c : Nat} (ht : t < 1000) (hc : c < 1000) (hx : a.eval x = .int .i64 (t : Int)) (hv : a.eval v = .int .i64 (c : Int))
    (hK : ∀ w', OMI w' b (n + 1) (updM M t c) → w.grownBy w' (some b) → wpList Try.prog ops Q rest (a.put o.dst undef) w') : wpList Try.prog ops Q (o :: rest) a w := by
  obtain ⟨D, h1, h2⟩ := h
  refine wpList_mapUpdate_own w hg m x v 70 hop 3 3 keyI Try.underlying70 _ b n D hm h1 (by unfold maxLen; omega) _ _ _ hx hv (keyI_of ht) _ _ (plainElem_int Try.underlying3 (wfI hc)) (fun w' h3 h4 => hK w' ⟨_, h3, fun l => ?_⟩ h4)
  by_cases e : l = t
  · subst e
    unfold updM
    rw [if_pos rfl]
    refine ⟨Maps.has_put_same (h1.isMap) kI_lit _, fun s hs z => ?_⟩
    injection hs with hs
    subst hs
    exact Maps.atKey_put_same h1.isMap kI_lit _ z
  · unfold updM
    rw [if_neg e]
    refine ⟨(Maps.has_put_other (kI_ne e) _).trans (h2 l).1, fun s hs z => ?_⟩
    exact (Maps.atKey_put_other (kI_ne e) _ z).trans ((h2 l).2 s hs z)
set_option maxRecDepth 100000 in
theorem upd_met {b n : Nat} {S : Nat → Bool} (h : MMB w b n S) (hn : n < 1000000) (hg : o.guard = none) (m x v : Operand) (hop : o.op = Op.mapUpdate 72 m x v) (hm : a.eval m = .map (some b)) {t : Nat} (ht : t < 1000) (hx : a.eval x = .int .i64 (t : Int)) (hv : a.eval v = .bool true)
    (hK : ∀ w', MMB w' b (n + 1) (updB S t) → w.grownBy w' (some b) → wpList Try.prog ops Q rest (a.put o.dst undef) w') : wpList Try.prog ops Q (o :: rest) a w := by
  obtain ⟨D, h1, h2⟩ := h
  refine wpList_mapUpdate_own w hg m x v 72 hop 3 4 keyI Try.underlying72 _ b n D hm h1 (by unfold maxLen; omega) _ _ _ hx hv (keyI_of ht) _ _ (plainElem_bool Try.underlying4 true) (fun w' h3 h4 => hK w' ⟨_, h3, fun l => ?_⟩ h4)
  by_cases e : l = t
  · subst e
    unfold updB
    rw [if_pos rfl]
    exact Maps.atKey_put_same h1.isMap kI_lit _ _
  · unfold updB
    rw [if_neg e]
    exact (Maps.atKey_put_other (kI_ne e) _ _).trans (h2 l)
end
end Go.Proofs.Ytnciemnlnijhfaa
