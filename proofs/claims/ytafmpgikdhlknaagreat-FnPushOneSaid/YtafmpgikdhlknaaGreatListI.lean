
/- Lists of lists of numbers that grow: what is appended, and what stays. -/
import Derived.Test.YtafmpgikdhlknaaGreatApp
import Derived.Test.YtafmpgikdhlknaaGreatMemE
import Derived.Deep.AppendLies
import Derived.Maps.AppendAt
namespace Go.Proofs.YtafmpgikdhlknaaGreat
open Go.RowKit

theorem Tryz.infoSI : (Tryz.prog.info? 29).map (fun i => (i.zero, i.size, i.bytes)) = some (some (.slice none 0 0), 1, 24) := by kernel_rfl
theorem offI (b off n : Nat) : (⟨b, off, none⟩ : Addr).add n = ⟨b, off + n, none⟩ := by unfold Addr.add; split <;> simp_all
/-- a list of heads of the call's own -/
def OwnL (w : World) (base : Nat) (v : Value) (xs : List Value) : Prop :=
  ∃ (A : Option Addr) (c : Nat), v = .slice A xs.length c ∧ w.ownsRow base 29 1 v xs.length xs
/-- a head reads as numbers -/
def HeadI (w : World) (x : Value) (ns : List Int) : Prop := ∃ (B : Option Addr) (c : Nat), x = .slice B ns.length c ∧ ns.length ≤ c ∧ ns.length ≤ 1000000 ∧ Rd w B (ns.map (.int .i64))
def HeadsI (w : World) (xs : List Value) (fs : List (List Int)) : Prop := xs.length = fs.length ∧ ∀ k (h : k < fs.length) (hx : k < xs.length), HeadI w xs[k] fs[k]
theorem HeadsI.nil (w : World) : HeadsI w [] [] := ⟨rfl, fun k h => by simp at h⟩
theorem HeadsI.app {w : World} {xs ys : List Value} {P R : List (List Int)} (h : HeadsI w xs P) (k : HeadsI w ys R) : HeadsI w (xs ++ ys) (P ++ R) := by
  have h1 := h.1
  have k1 := k.1
  refine ⟨by rw [List.length_append, List.length_append, h1, k1], fun j hj hx => ?_⟩
  rcases Nat.lt_or_ge j P.length with h2 | h2
  · rw [List.getElem_append_left h2, List.getElem_append_left (by omega)]
    exact h.2 _ _ _
  · rw [List.getElem_append_right h2, List.getElem_append_right (by omega)]
    have := k.2 (j - P.length) (by rw [List.length_append] at hj; omega) (by rw [List.length_append] at hx; omega)
    simp only [h1]
    exact this
theorem HeadsI.one {w : World} {x : Value} {ns : List Int} (h : HeadI w x ns) : HeadsI w [x] [ns] := ⟨rfl, fun k h1 h2 => by
  match k, h1 with
  | 0, _ => exact h⟩
theorem HeadsI.cell {w : World} {xs : List Value} {fs : List (List Int)} (h : HeadsI w xs fs) : ∀ u ∈ xs, u.oneCell' = true := fun u hu => by
  obtain ⟨k, hk, rfl⟩ := List.getElem_of_mem hu
  obtain ⟨B, c, e, -⟩ := h.2 k (by rw [← h.1]; exact hk) hk
  rw [e]; rfl
/-- where the heads' lists lie -/
def AtL (xs : List Value) (b : Nat) : Prop := ∃ (k : Nat) (ad : Addr) (n c : Nat), xs[k]? = some (Value.slice (some ad) n c) ∧ ad.block = b
theorem HeadsI.keep {w w' : World} {xs : List Value} {fs : List (List Int)} (h : HeadsI w xs fs) (hk : ∀ b, AtL xs b → w'.heap[b]? = w.heap[b]?) : HeadsI w' xs fs :=
  ⟨h.1, fun k h1 h2 => by
    obtain ⟨B, c, e, a1, a2, a3⟩ := h.2 k h1 h2
    refine ⟨B, c, e, a1, a2, fun hne => ?_⟩
    obtain ⟨ad, e2, hc⟩ := a3 hne
    refine ⟨ad, e2, fun j u hu => ?_⟩
    have hb := hk ad.block ⟨k, ad, fs[k].length, c, by rw [List.getElem?_eq_getElem h2, e, e2], rfl⟩
    have hcj := hc j u hu
    have hz : (ad.add j).block = ad.block := by unfold Addr.add; split <;> rfl
    generalize ad.add j = aj at hcj hz ⊢
    obtain ⟨b9, o9, s9⟩ := aj
    have hs := World.cell?_spot hcj
    simp only at hs hz
    subst hs
    rw [← hz] at hb
    rw [World.cell?_of_block hb]; exact hcj⟩
theorem HeadsI.belo {w w' : World} {xs : List Value} {fs : List (List Int)} (h : HeadsI w xs fs) (hb : Below w.heap.size w w') : HeadsI w' xs fs :=
  ⟨h.1, fun k h1 h2 => by obtain ⟨B, c, e, a1, a2, a3⟩ := h.2 k h1 h2; exact ⟨B, c, e, a1, a2, Rd.belo a3 hb⟩⟩
/-- a slice of heads that reads as lists of numbers -/
def RdLL (w : World) (A : Option Addr) (fs : List (List Int)) : Prop := ∃ xs, Rd w A xs ∧ HeadsI w xs fs
theorem RdLL.belo {w w' : World} {A : Option Addr} {fs : List (List Int)} (h : RdLL w A fs) (hb : Below w.heap.size w w') : RdLL w' A fs := by
  obtain ⟨xs, h1, h2⟩ := h; exact ⟨xs, h1.belo hb, h2.belo hb⟩
theorem RdLL.at_ {w : World} {A : Option Addr} {fs : List (List Int)} (h : RdLL w A fs) {k : Nat} (hk : k < fs.length) :
    ∃ (b off : Nat) (B : Option Addr) (c : Nat), A = some ⟨b, off, none⟩ ∧ w.cell? ⟨b, off + k, none⟩ = some (.slice B fs[k].length c) ∧ fs[k].length ≤ c ∧ fs[k].length ≤ 1000000 ∧ Rd w B (fs[k].map (.int .i64)) := by
  obtain ⟨xs, h1, h2⟩ := h
  have hx : k < xs.length := by rw [h2.1]; exact hk
  obtain ⟨B, c, e, a1, a2, a3⟩ := h2.2 k hk hx
  obtain ⟨b, off, e2, hc⟩ := h1.atE hx
  exact ⟨b, off, B, c, e2, by rw [hc, e], a1, a2, a3⟩
section
variable {ops : Array Oper} {rest : List Oper} {o : Oper} {a : Act} {Q : Exit → Act → World → Prop}
/-- heads appended to a list of heads of its own -/
theorem opw_headsL {K : Act → World → Prop} (W : World) (s x : Operand) (ho : o.op = .call { callee := .builtin .append, args := #[s, x], argTypes := #[71, 71] })
    (base : Nat) (v : Value) (xs : List Value) (hs : a.eval s = v) (hown : OwnL W base v xs) (ad : Addr) (n c : Nat) (ys : List Value) (hx : a.eval x = .slice (some ad) n c) (hl : ys.length = n) (hq : ∀ j u, ys[j]? = some u → W.cell? (ad.add j) = some u) (h1 : ∀ u ∈ ys, u.oneCell' = true) (hm : xs.length + n ≤ 1000000000000) (hbase : base ≤ W.heap.size)
    (h : ∀ v' w', OwnL w' base v' (xs ++ ys) → W.grownBy w' v.ownBlock → (v'.ownBlock = v.ownBlock ∨ v'.ownBlock = some W.heap.size) → K (a.put o.dst v') w') : Oper.wp Tryz.prog o a W K Q := by
  obtain ⟨i0, hi, hz0, hz1, hz2⟩ := info_parts Tryz.infoSI
  obtain ⟨A, c', e, hown⟩ := hown
  obtain ⟨v', w', hr, h2, h3, _, h5⟩ := run_append_own_at (P := Tryz.prog) W base 71 o.type 29 i0 _ 1 24 Tryz.underlying71 hi hz0 hz1 hz2 rfl (by decide) v xs.length xs hown ad n c ys (by omega) hq h1 (by unfold maxLen; omega) (by omega) hbase
  unfold Oper.wp execOp
  simp only [ho, resolve, invoke, builtin, Sem.run_bind, Sem.run_pure, Result.andThen_ok, List.map_toArray, List.map_cons, List.map_nil, hs, hx, hr]
  refine h v' w' ?_ h3 h5
  have hlen : (xs ++ ys).length = xs.length + n := by rw [List.length_append, hl]
  rcases h2.2 with ⟨e1, e2⟩ | ⟨g, cap, cur, e1, _⟩
  · subst e1
    have hnil : xs ++ ys = [] := List.eq_nil_of_length_eq_zero (by omega)
    rw [hnil]
    exact ⟨none, 0, rfl, World.ownsRow_nil _ _ _ _⟩
  · subst e1
    exact ⟨_, cap, by rw [hlen], by rw [hlen]; exact h2⟩
theorem wpList_headsL (W : World) (hgd : o.guard = none) (s x : Operand) (ho : o.op = .call { callee := .builtin .append, args := #[s, x], argTypes := #[71, 71] })
    (base : Nat) (v : Value) (xs : List Value) (hs : a.eval s = v) (hown : OwnL W base v xs) (ad : Addr) (n c : Nat) (ys : List Value) (hx : a.eval x = .slice (some ad) n c) (hl : ys.length = n) (hq : ∀ j u, ys[j]? = some u → W.cell? (ad.add j) = some u) (h1 : ∀ u ∈ ys, u.oneCell' = true) (hm : xs.length + n ≤ 1000000000000) (hbase : base ≤ W.heap.size)
    (h : ∀ v' w', OwnL w' base v' (xs ++ ys) → W.grownBy w' v.ownBlock → (v'.ownBlock = v.ownBlock ∨ v'.ownBlock = some W.heap.size) → wpList Tryz.prog ops Q rest (a.put o.dst v') w') : wpList Tryz.prog ops Q (o :: rest) a W :=
  wpList_plain hgd fun _ hK => opw_headsL W s x ho base v xs hs hown ad n c ys hx hl hq h1 hm hbase fun v' w' k1 k2 k3 => hK _ _ (h v' w' k1 k2 k3)
theorem step_headsL {K : Act → World → Prop} {E : Prop} (W : World) (hgd : o.guard = none) (s x : Operand) (ho : o.op = .call { callee := .builtin .append, args := #[s, x], argTypes := #[71, 71] })
    (base : Nat) (v : Value) (xs : List Value) (hs : a.eval s = v) (hown : OwnL W base v xs) (ad : Addr) (n c : Nat) (ys : List Value) (hx : a.eval x = .slice (some ad) n c) (hl : ys.length = n) (hq : ∀ j u, ys[j]? = some u → W.cell? (ad.add j) = some u) (h1 : ∀ u ∈ ys, u.oneCell' = true) (hm : xs.length + n ≤ 1000000000000) (hbase : base ≤ W.heap.size)
    (h : ∀ v' w', OwnL w' base v' (xs ++ ys) → W.grownBy w' v.ownBlock → (v'.ownBlock = v.ownBlock ∨ v'.ownBlock = some W.heap.size) → K (a.put o.dst v') w') :
    if Region.wanted o (yielded ops a.tmps) = true then Oper.wp Tryz.prog o a W K Q else E := by
  have hw : Region.wanted o (yielded ops a.tmps) = true := by simp [Region.wanted, hgd]
  rw [if_pos hw]
  exact opw_headsL W s x ho base v xs hs hown ad n c ys hx hl hq h1 hm hbase h
end
/-! ### A list that grows -/
structure GrL (w : World) (base : Nat) (v : Value) (xs : List Value) (fs : List (List Int)) : Prop where
  own : OwnL w base v xs
  hd : HeadsI w xs fs
  pt : ∀ b, AtL xs b → b < w.heap.size ∧ v.ownBlock ≠ some b
theorem OwnL.lt {w : World} {base : Nat} {v : Value} {xs : List Value} (h : OwnL w base v xs) : ∀ k, v.ownBlock = some k → base ≤ k ∧ k < w.heap.size := by
  obtain ⟨A, c, e, o⟩ := h
  exact o.lt
theorem OwnL.keep {w w' : World} {base : Nat} {v : Value} {xs : List Value} (h : OwnL w base v xs) (hk : ∀ b, v.ownBlock = some b → w'.heap[b]? = w.heap[b]?) : OwnL w' base v xs := by
  obtain ⟨A, c, e, o⟩ := h
  refine ⟨A, c, e, o.1, ?_⟩
  rcases o.2 with h1 | ⟨g, cap, cur, hv, h1⟩
  · exact .inl h1
  · refine .inr ⟨g, cap, cur, hv, ?_⟩
    have := hk g (by rw [hv]; rfl)
    obtain ⟨a1, a2, a3⟩ := h1
    exact ⟨a1, by rw [this]; exact a2, a3⟩
theorem AtL.nil {b : Nat} : ¬ AtL [] b := fun ⟨k, ad, n, c, e, _⟩ => by simp at e
theorem AtL.app {xs ys : List Value} {b : Nat} (h : AtL (xs ++ ys) b) : AtL xs b ∨ AtL ys b := by
  obtain ⟨k, ad, n, c, e, hb⟩ := h
  rcases Nat.lt_or_ge k xs.length with h1 | h1
  · rw [List.getElem?_append_left h1] at e; exact .inl ⟨k, ad, n, c, e, hb⟩
  · rw [List.getElem?_append_right h1] at e; exact .inr ⟨_, ad, n, c, e, hb⟩
theorem AtL.one {B : Option Addr} {n c b : Nat} (h : AtL [.slice B n c] b) : ∃ ad, B = some ad ∧ ad.block = b := by
  obtain ⟨k, ad, n', c', e, hb⟩ := h
  match k, e with
  | 0, e => injection e with e; injection e with e1 _ _; exact ⟨ad, e1, hb⟩
theorem GrL.keep {w w' : World} {base : Nat} {v : Value} {xs : List Value} {fs : List (List Int)} (h : GrL w base v xs fs) (hs : w.heap.size ≤ w'.heap.size) (h1 : ∀ b, v.ownBlock = some b → w'.heap[b]? = w.heap[b]?) (h2 : ∀ b, AtL xs b → w'.heap[b]? = w.heap[b]?) : GrL w' base v xs fs :=
  ⟨h.own.keep h1, h.hd.keep h2, fun b hb => by have := h.pt b hb; exact ⟨by omega, this.2⟩⟩
theorem GrL.belo {w w' : World} {base : Nat} {v : Value} {xs : List Value} {fs : List (List Int)} (h : GrL w base v xs fs) (hb : Below w.heap.size w w') : GrL w' base v xs fs :=
  h.keep hb.size (fun b e => hb.block b (h.own.lt b e).2) (fun b e => hb.block b (h.pt b e).1)
/-- behind an append -/
theorem GrL.app {w w' : World} {base : Nat} {v v' : Value} {xs ys : List Value} {fs gs : List (List Int)} (h : GrL w base v xs fs) (hy : HeadsI w ys gs) (hp : ∀ b, AtL ys b → b < w.heap.size ∧ v.ownBlock ≠ some b)
    (ho : OwnL w' base v' (xs ++ ys)) (hg : w.grownBy w' v.ownBlock) (hv : v'.ownBlock = v.ownBlock ∨ v'.ownBlock = some w.heap.size) : GrL w' base v' (xs ++ ys) (fs ++ gs) := by
  have hpt : ∀ b, AtL (xs ++ ys) b → b < w.heap.size ∧ v.ownBlock ≠ some b := fun b hb => by
    rcases hb.app with e | e
    · exact h.pt b e
    · exact hp b e
  refine ⟨ho, (h.hd.app hy).keep fun b hb => ?_, fun b hb => ?_⟩
  · obtain ⟨a1, a2⟩ := hpt b hb
    exact hg.block b a1 (fun e => a2 e.symm)
  · obtain ⟨a1, a2⟩ := hpt b hb
    have := hg.size
    refine ⟨by omega, fun e => ?_⟩
    rcases hv with e1 | e1
    · rw [e1] at e; exact a2 e
    · rw [e1] at e; injection e with e; omega
theorem GrL.nil (w : World) (base : Nat) : GrL w base (.slice none 0 0) [] [] := ⟨⟨none, 0, rfl, World.ownsRow_nil _ _ _ _⟩, HeadsI.nil w, fun _ hb => absurd hb AtL.nil⟩
theorem GrL.form {w : World} {base : Nat} {v : Value} {xs : List Value} {fs : List (List Int)} (h : GrL w base v xs fs) : ∃ (A : Option Addr) (c : Nat), v = .slice A fs.length c ∧ fs.length ≤ c ∧ RdLL w A fs ∧ (∀ ad, A = some ad → base ≤ ad.block) := by
  have hl := h.hd.1
  obtain ⟨A, c, e, o⟩ := id h.own
  refine ⟨A, c, by rw [e, hl], ?_, ⟨xs, ?_, h.hd⟩, fun ad ha => ?_⟩
  · rcases o.2 with ⟨e1, e2⟩ | ⟨g, cap, cur, hv, _, _, h3, _⟩
    · omega
    · rw [e] at hv; injection hv with _ _ e3; omega
  · rw [e] at o; exact Rd.own o
  · have := (h.own.lt ad.block (by rw [e, ha]; rfl)).1
    exact this
/-- a new list of lists of numbers -/
def NewLL (fs : List (List Int)) (w : World) (e : Ending) (w' : World) : Prop :=
  ∃ (A : Option Addr) (c : Nat), e = .returned (.slice A fs.length c) ∧ fs.length ≤ c ∧ RdLL w' A fs ∧ Below w.heap.size w w'
end Go.Proofs.YtafmpgikdhlknaaGreat
