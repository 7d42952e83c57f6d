
/- Slices of the call's own: append of one number, Clip, marks. -/
import Derived.Test.YtafmpgikdhlknaaGreatEq
namespace Go.Proofs.YtafmpgikdhlknaaGreat
open Go.RowKit

/-- The slice value v owns the numbers xs, in blocks from base on. -/
def OwnI (w : World) (base : Nat) (v : Value) (xs : List Int) : Prop :=
  ∃ (A : Option Addr) (c : Nat), v = .slice A xs.length c ∧ w.ownsRow base 3 1 v xs.length (xs.map (.int .i64))
theorem OwnI.nil (w : World) (base : Nat) : OwnI w base (.slice none 0 0) [] := ⟨none, 0, rfl, World.ownsRow_nil _ _ _ _⟩
theorem OwnI.empty (w : World) : OwnI (w.alloc (.cells #[] 3)) w.heap.size (.slice (some ⟨w.heap.size, 0, none⟩) 0 0) [] :=
  ⟨_, _, rfl, World.ownsRow_lit w #[] 0 (Nat.le_refl _) (by simp) (by simp)⟩
theorem OwnI.below {w w' : World} {base B : Nat} {v : Value} {xs : List Int} (h : OwnI w base v xs) (hb : Below B w w') (hB : w.heap.size ≤ B) : OwnI w' base v xs := by
  obtain ⟨A, c, e, h⟩ := h; exact ⟨A, c, e, own_below h hb hB⟩
theorem OwnI.belo {w w' : World} {base : Nat} {v : Value} {xs : List Int} (h : OwnI w base v xs) (hb : Below w.heap.size w w') : OwnI w' base v xs := h.below hb (Nat.le_refl _)
theorem OwnI.alloc {w : World} {base : Nat} {v : Value} {xs : List Int} (h : OwnI w base v xs) (o : Obj) : OwnI (w.alloc o) base v xs := by
  obtain ⟨A, c, e, h⟩ := h; exact ⟨A, c, e, h.alloc o⟩
theorem OwnI.drew {w : World} {base : Nat} {v : Value} {xs : List Int} (h : OwnI w base v xs) : OwnI w.drew base v xs := h
theorem OwnI.drewN {w : World} {base : Nat} {v : Value} {xs : List Int} (h : OwnI w base v xs) (k : Nat) : OwnI (w.drewN k) base v xs := h
theorem OwnI.base {w : World} {base base' : Nat} {v : Value} {xs : List Int} (h : OwnI w base v xs) (hB : base' ≤ base) : OwnI w base' v xs := by
  obtain ⟨A, c, e, h⟩ := h; exact ⟨A, c, e, own_base h hB⟩
theorem OwnI.rd {w : World} {base : Nat} {A : Option Addr} {n c : Nat} {xs : List Int} (h : OwnI w base (.slice A n c) xs) : n = xs.length ∧ Rd w A (xs.map (.int .i64)) := by
  obtain ⟨A', c', e, h⟩ := h
  have hn : n = xs.length := by injection e
  subst hn
  exact ⟨rfl, Rd.own h⟩
theorem OwnI.lt {w : World} {base : Nat} {A : Option Addr} {n c : Nat} {xs : List Int} (h : OwnI w base (.slice A n c) xs) : ∀ ad, A = some ad → base ≤ ad.block ∧ ad.block < w.heap.size := by
  rintro ad rfl
  obtain ⟨A', c', e, h⟩ := h
  exact h.lt ad.block rfl

section
variable {ops : Array Oper} {rest : List Oper} {o : Oper} {a : Act} {Q : Exit → Act → World → Prop}
theorem app_int (w : World) (hgd : o.guard = none) (s x : Operand) (ho : o.op = .call { callee := .builtin .append, args := #[s, x], argTypes := #[29, 29] })
    (base : Nat) (v : Value) (xs : List Int) (hs : a.eval s = v) (hown : OwnI w base v xs) (u : Int) (hx : a.eval x = .slice (some ⟨w.heap.size, 0, none⟩) 1 1) (hn : xs.length ≤ 1000000000000) (hbase : base ≤ w.heap.size)
    (h : ∀ (A' : Option Addr) (c' : Nat) (w' : World), OwnI w' base (.slice A' (xs.length + 1) c') (xs ++ [u]) → (w.alloc (.cells #[.int .i64 u] 3)).grownBy w' v.ownBlock → wpList Tryz.prog ops Q rest (a.put o.dst (.slice A' (xs.length + 1) c')) w') :
    wpList Tryz.prog ops Q (o :: rest) a (w.alloc (.cells #[.int .i64 u] 3)) := by
  obtain ⟨i0, hi, hz0, hz1, hz2⟩ := info_parts Tryz.infoI
  obtain ⟨A, c, e, hown⟩ := hown
  refine wpList_append_own _ hgd s x 29 ho base 3 i0 (.int .i64 0) 1 8 Tryz.underlying29 hi hz0 hz1 hz2 rfl (by decide) v _ _ hs (hown.alloc _) ⟨w.heap.size, 0, none⟩ 1 1 [.int .i64 u] hx rfl ?_ ?_ ?_ ?_ ?_ ?_
  · intro j y hj
    match j, hj with
    | 0, hj => simp at hj; subst hj; simp [Addr.add]
  · intro y hy; simp at hy; subst hy; rfl
  · unfold maxLen; omega
  · omega
  · simp; omega
  · intro v' w' h1 h2 _
    have e1 : xs.map (Value.int .i64) ++ [.int .i64 u] = (xs ++ [u]).map (.int .i64) := by simp
    rw [e1] at h1
    obtain ⟨g, cap, rfl, _, _⟩ := h1.form (by omega)
    refine h _ _ w' ⟨_, _, by simp; exact ⟨rfl, rfl⟩, ?_⟩ h2
    have e2 : (xs ++ [u]).length = xs.length + 1 := by simp
    rw [e2]; exact h1
theorem step_app_int {K : Act → World → Prop} {E : Prop} (W : World) (hgd : o.guard = none) (s x : Operand) (ho : o.op = .call { callee := .builtin .append, args := #[s, x], argTypes := #[29, 29] })
    (base : Nat) (v : Value) (xs : List Int) (hs : a.eval s = v) (hown : OwnI W base v xs) (u : Int) (H : Nat) (hx : a.eval x = .slice (some ⟨H, 0, none⟩) 1 1) (hc : W.cell? ⟨H, 0, none⟩ = some (.int .i64 u)) (hn : xs.length ≤ 1000000000000) (hbase : base ≤ W.heap.size)
    (h : ∀ (g c' : Nat) (w' : World), OwnI w' base (.slice (some ⟨g, 0, none⟩) (xs.length + 1) c') (xs ++ [u]) → W.grownBy w' v.ownBlock → (v.ownBlock = some g ∨ g = W.heap.size) → K (a.put o.dst (.slice (some ⟨g, 0, none⟩) (xs.length + 1) c')) w') :
    if Region.wanted o (yielded ops a.tmps) = true then Oper.wp Tryz.prog o a W K Q else E := by
  obtain ⟨i0, hi, hz0, hz1, hz2⟩ := info_parts Tryz.infoI
  obtain ⟨A, c, e, hown⟩ := hown
  refine step_append_lies _ hgd s x 29 ho base 3 i0 (.int .i64 0) 1 8 Tryz.underlying29 hi hz0 hz1 hz2 rfl (by decide) v _ _ hs hown ⟨H, 0, none⟩ 1 1 [.int .i64 u] hx rfl ?_ ?_ (by decide) ?_ ?_ ?_ _ rfl ?_
  · intro j y hj
    match j, hj with
    | 0, hj => simp at hj; subst hj; simpa [Addr.add] using hc
  · intro y hy; simp at hy; subst hy; rfl
  · unfold maxLen; omega
  · omega
  · exact hbase
  · intro g cap w' h1 h2 h3 _
    have e1 : xs.map (Value.int .i64) ++ [.int .i64 u] = (xs ++ [u]).map (.int .i64) := by simp
    rw [e1] at h1
    refine h _ _ w' ⟨_, _, by simp; exact ⟨rfl, rfl⟩, ?_⟩ h2 h3
    have e2 : (xs ++ [u]).length = xs.length + 1 := by simp
    rw [e2]; exact h1
theorem grown_below {w w' : World} {base B : Nat} {v : Value} {xs : List Int} {w0 : World} (hB : Below B w0 w) (hBb : B ≤ base) (hbase : base ≤ w.heap.size) (hown : OwnI w base v xs) (hg : w.grownBy w' v.ownBlock) : Below B w0 w' := by
  refine hB.grown hg (by omega) (fun k hk => ?_)
  obtain ⟨A, c, e, h⟩ := hown
  have := (h.lt k hk).1
  omega
/-- what an append leaves of the world -/
theorem app_below {w w' : World} {base B : Nat} {v : Value} {xs : List Int} {u : Value} {t : TypeId} {w0 : World} (hB : Below B w0 w) (hBb : B ≤ base) (hbase : base ≤ w.heap.size) (hown : OwnI w base v xs) (hg : (w.alloc (.cells #[u] t)).grownBy w' v.ownBlock) : Below B w0 w' := by
  refine (hB.alloc (by omega) _).grown hg (by simp; omega) (fun k hk => ?_)
  obtain ⟨A, c, e, h⟩ := hown
  have := (h.lt k hk).1
  omega
end

set_option maxHeartbeats 400000 in
theorem clip_any (w : World) (base : Nat) (v : Value) (xs : List Int) (h : OwnI w base v xs) :
    Calls Tryz.prog 110 #[v] w fun e w' => e = .returned (match v with | .slice A n _ => .slice A n n | x => x) ∧ w = w' := by
  obtain ⟨A, c, rfl, h⟩ := h
  have hc : xs.length ≤ c := by
    rcases h.2 with ⟨e, e2⟩ | ⟨g, cap, cur, e, _, _, h3, _⟩
    · injection e with _ _ e3; omega
    · injection e with _ _ e3; omega
  go_enter Tryz.func110, Tryz.ntmps110
  go_wp2
  go_ret
  exact ⟨rfl, rfl⟩

/-- A slice that may be written: its block is one of the call's own, from lo on. -/
def Wr (w : World) (lo : Nat) (e : TypeId) (A : Option Addr) (xs : List Value) : Prop :=
  (∀ ad, A = some ad → lo ≤ ad.block) ∧ (xs ≠ [] → ∃ g cur, A = some ⟨g, 0, none⟩ ∧ w.heap[g]? = some (.cells cur e (0, 0)) ∧ cur.toList.take xs.length = xs)
section
variable {w w' : World} {lo : Nat} {e : TypeId} {A : Option Addr} {xs : List Value}
theorem Wr.none_ (w : World) (lo : Nat) (e : TypeId) : Wr w lo e none [] := ⟨fun _ h => (by cases h), fun h => absurd rfl h⟩
theorem Wr.of_own {n c : Nat} (h : w.ownsRow lo e 1 (.slice A n c) n xs) : Wr w lo e A xs := by
  refine ⟨fun ad ha => ?_, fun hne => ?_⟩
  · subst ha; exact (h.lt ad.block rfl).1
  have hl : xs.length = n := by have := h.1; omega
  rcases h.2 with ⟨_, h0⟩ | ⟨g, cap, cur, hv, hg, hh, _, _, _, ht⟩
  · exact absurd (List.eq_nil_of_length_eq_zero (by omega)) hne
  · have hA : A = some ⟨g, 0, none⟩ := by injection hv
    exact ⟨g, cur, hA, hh, by rw [Nat.mul_one] at ht; rw [hl]; exact ht⟩
theorem Wr.rd (h : Wr w lo e A xs) : Rd w A xs := fun hne => by
  obtain ⟨g, cur, hA, hh, ht⟩ := h.2 hne
  refine ⟨_, hA, fun j u hu => ?_⟩
  have ha : (⟨g, 0, none⟩ : Addr).add j = ⟨g, j, none⟩ := by unfold Addr.add; split <;> simp_all
  rw [ha, cell_of_row w g j cur e (0, 0) hh]
  have hj : j < xs.length := by
    rcases Nat.lt_or_ge j xs.length with h1 | h1
    · exact h1
    · rw [List.getElem?_eq_none h1] at hu; cases hu
  rw [← ht, List.getElem?_take_of_lt hj] at hu
  simpa using hu
theorem Wr.form (h : Wr w lo e A xs) (hne : xs ≠ []) : ∃ g, A = some ⟨g, 0, none⟩ ∧ lo ≤ g ∧ g < w.heap.size ∧ ∀ k, w.frozen? ⟨g, k, none⟩ = false := by
  obtain ⟨g, cur, hA, hh, ht⟩ := h.2 hne
  refine ⟨g, hA, h.1 _ hA, ?_, fun k => frozen_of_row w g k cur e hh⟩
  rcases Nat.lt_or_ge g w.heap.size with h3 | h3
  · exact h3
  · rw [Array.getElem?_eq_none h3] at hh; cases hh
theorem Wr.store {g : Nat} (h : Wr w lo e (some ⟨g, 0, none⟩) xs) (k : Nat) (u : Value) : Wr (w.setCell ⟨g, k, none⟩ u) lo e (some ⟨g, 0, none⟩) (xs.set k u) := by
  refine ⟨h.1, fun hne => ?_⟩
  have hne' : xs ≠ [] := by intro e; subst e; simp at hne
  obtain ⟨g', cur, hA, hh, ht⟩ := h.2 hne'
  have hg : g' = g := by injection hA with hA; injection hA with hA; exact hA.symm
  subst hg
  refine ⟨g', cur.setIfInBounds k u, rfl, heap_setCell_same w g' k cur e u hh, ?_⟩
  rw [Array.toList_setIfInBounds, List.length_set, List.take_set, ht]
theorem Wr.keep (h : Wr w lo e A xs) (hk : ∀ g, A = some ⟨g, 0, none⟩ → g < w.heap.size → w'.heap[g]? = w.heap[g]?) : Wr w' lo e A xs := by
  refine ⟨h.1, fun hne => ?_⟩
  obtain ⟨g', hA', _, hlt, _⟩ := h.form hne
  obtain ⟨g, cur, hA, hh, ht⟩ := h.2 hne
  have : g' = g := by rw [hA] at hA'; injection hA' with hA'; injection hA' with hA'; exact hA'.symm
  subst this
  exact ⟨g', cur, hA, by rw [hk g' hA hlt]; exact hh, ht⟩
theorem Wr.below {B : Nat} (h : Wr w lo e A xs) (hb : Below B w w') (hB : w.heap.size ≤ B) : Wr w' lo e A xs := h.keep fun g _ hg => hb.block g (by omega)
theorem Wr.belo (h : Wr w lo e A xs) (hb : Below w.heap.size w w') : Wr w' lo e A xs := h.below hb (Nat.le_refl _)
theorem Wr.lower (h : Wr w lo e A xs) {lo' : Nat} (hl : lo' ≤ lo) : Wr w lo' e A xs := ⟨fun ad ha => Nat.le_trans hl (h.1 ad ha), h.2⟩
/-- what was read before the row was made stays when the row is written -/
theorem Rd.marked {w1 w3 w4 : World} {A1 : Option Addr} {ys : List Value} {lo : Nat} (h : Rd w1 A1 ys) (hb : Below w1.heap.size w1 w3) (hg : w3.grownBy w4 (A.map (·.block))) (hw : Wr w3 lo e A xs) (hlo : w1.heap.size ≤ lo) : Rd w4 A1 ys := fun hne => by
  obtain ⟨ad, hA, hc⟩ := h hne
  refine ⟨ad, hA, fun j u hu => ?_⟩
  have h1 := hc j u hu
  have hlt := World.block_lt_of_cell? w1 _ h1
  have h3 := (hb.cell hlt).trans h1
  rw [World.cell?_of_block (hg.block _ (World.block_lt_of_cell? w3 _ h3) ?_), h3]
  intro e
  cases hA2 : A with
  | none => rw [hA2] at e; cases e
  | some ad2 =>
    rw [hA2] at e
    have := hw.1 ad2 hA2
    have e' : ((ad.add j).block) = ad2.block := by simpa using e
    omega
theorem marked_below {w0 w3 w4 : World} {B : Nat} (hb : Below B w0 w3) (hg : w3.grownBy w4 (A.map (·.block))) (hw : Wr w3 lo e A xs) (hlo : B ≤ lo) (hB : B ≤ w3.heap.size) : Below B w0 w4 := by
  refine hb.grown hg hB (fun k hk => ?_)
  cases hA : A with
  | none => rw [hA] at hk; cases hk
  | some ad =>
    rw [hA] at hk
    have := hw.1 ad hA
    have e' : ad.block = k := by simpa using hk
    omega
/-- another row stays, if its blocks lie below or above -/
theorem Rd.grownBelow {A' : Option Addr} {row : Option Nat} (h : Rd w A' xs) (hg : w.grownBy w' row) (hr : xs ≠ [] → ∀ ad, A' = some ad → some ad.block ≠ row) : Rd w' A' xs := fun hne => by
  obtain ⟨ad, hA, hc⟩ := h hne
  refine ⟨ad, hA, fun j u hu => ?_⟩
  have h1 := hc j u hu
  have hlt := World.block_lt_of_cell? w _ h1
  rw [World.cell?_of_block (hg.block _ hlt (by rw [blk_add]; exact hr hne ad hA)), h1]
end
theorem grownBy_trans' {a b c : World} {row : Option Nat} (h : a.grownBy b row) (k : b.grownBy c row) : a.grownBy c row :=
  ⟨k.os.trans h.os, k.tape.trans h.tape, k.output.trans h.output, Nat.le_trans h.size k.size, fun i hi hn => (k.block i (Nat.lt_of_lt_of_le hi h.size) hn).trans (h.block i hi hn)⟩

/-- a new slice of numbers that may be written -/
def NewW (xs : List Int) (w : World) (e : Ending) (w' : World) : Prop :=
  ∃ A : Option Addr, e = .returned (.slice A xs.length xs.length) ∧ Wr w' w.heap.size 3 A (xs.map (.int .i64)) ∧ Below w.heap.size w w'

/-- a slice of numbers that may be read -/
def NewRd (xs : List Int) (w : World) (e : Ending) (w' : World) : Prop :=
  ∃ (A : Option Addr) (c : Nat), e = .returned (.slice A xs.length c) ∧ Rd w' A (xs.map (.int .i64)) ∧ Below w.heap.size w w' ∧ ∀ ad, A = some ad → w.heap.size ≤ ad.block
theorem OwnI.newRd {w0 w : World} {base : Nat} {v : Value} {xs : List Int} (h : OwnI w base v xs) (hb : Below w0.heap.size w0 w) (hB : w0.heap.size ≤ base) : NewRd xs w0 (.returned v) w := by
  obtain ⟨A, c, e, h'⟩ := id h; subst e
  exact ⟨A, c, rfl, Rd.own h', hb, fun ad ha => by have := (h.lt ad ha).1; omega⟩

/-- the marks from k on -/
def marks (k : Int) (n : Nat) : List Int := (List.range n).map fun i : Nat => k + (i : Int)
theorem marks_len (k : Int) (n : Nat) : (marks k n).length = n := by simp [marks]
theorem marks_get (k : Int) (n i : Nat) (h : i < n) : (marks k n)[i]? = some (k + i) := by simp [marks, h]
/-- a row of marks, the first i of them written -/
def marked (k : Int) (xs : List Value) (i : Nat) : List Value := (marks k i).map (.int .i64) ++ xs.drop i
theorem marked_zero (k : Int) (xs : List Value) : marked k xs 0 = xs := by simp [marked, marks]
theorem marked_all (k : Int) (xs : List Value) : marked k xs xs.length = (marks k xs.length).map (.int .i64) := by simp [marked]
theorem marked_len (k : Int) (xs : List Value) (i : Nat) (h : i ≤ xs.length) : (marked k xs i).length = xs.length := by simp [marked, marks_len]; omega
theorem marked_step (k : Int) (xs : List Value) (i : Nat) (h : i < xs.length) : (marked k xs i).set i (.int .i64 (k + i)) = marked k xs (i + 1) := by
  unfold marked
  rw [List.set_append_right _ _ (by simp [marks_len])]
  have h1 : ((marks k i).map (Value.int .i64)).length = i := by simp [marks_len]
  rw [h1, Nat.sub_self, List.drop_eq_getElem_cons h, List.set_cons_zero]
  unfold marks
  rw [List.range_succ]; simp

/-- a row made later stays when an elder one is written -/
theorem Wr.elder {w w' : World} {lo : Nat} {e : TypeId} {A A' : Option Addr} {xs : List Value} (h : Wr w lo e A xs) (hg : w.grownBy w' (A'.map (·.block))) (hA : ∀ ad, A' = some ad → ad.block < lo) : Wr w' lo e A xs := by
  refine h.keep fun g hA2 hlt => hg.block g hlt ?_
  have := h.1 _ hA2
  cases hA' : A' with
  | none => simp
  | some ad =>
    have h2 := hA ad hA'
    simp; simp at this; omega
theorem own_lt {w : World} {base e n c : Nat} {A : Option Addr} {xs : List Value} (h : w.ownsRow base e 1 (.slice A n c) n xs) : ∀ ad, A = some ad → ad.block < w.heap.size := by
  rintro ad rfl; exact (h.lt ad.block rfl).2
/-- the entry's box and what lies below it -/
theorem bx {w0 w : World} {x y z : Value} {t : TypeId} (h : Below (w0.heap.size + 1) (w0.alloc (.cells #[x, y, z] t)) w) : Below w0.heap.size w0 w ∧ C3 w w0.heap.size x y z :=
  ⟨((Below.refl w0.heap.size w0).alloc (Nat.le_refl _) _).trans (h.mono (by omega)), (C3.new w0 x y z t).below h (by omega)⟩
theorem bx_go {B : Nat} {a b c : World} (h : Below B a b) (k : Below b.heap.size b c) (hB : B ≤ b.heap.size) : Below B a c := h.trans (k.mono hB)

end Go.Proofs.YtafmpgikdhlknaaGreat
