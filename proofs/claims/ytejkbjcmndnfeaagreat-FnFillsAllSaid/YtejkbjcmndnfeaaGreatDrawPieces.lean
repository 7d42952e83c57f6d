
/- Contract: spec.DrawPiecesValid: some list of lists of cells. -/
import Derived.Test.YtejkbjcmndnfeaaGreatDrawPiece
import Derived.Test.YtejkbjcmndnfeaaGreatCellss
import Derived.Deep.AppendLies
namespace Go.Proofs.YtejkbjcmndnfeaaGreat
open Go.RowKit

theorem Tryz.infoSC : (Tryz.prog.info? 32).map (fun i => (i.zero, i.size, i.bytes)) = some (some (.slice none 0 0), 1, 24) := by kernel_rfl
/-- a list of heads of its own -/
def OwnH (w : World) (base : Nat) (v : Value) (xs : List Value) : Prop :=
  ∃ (A : Option Addr) (c : Nat), v = .slice A xs.length c ∧ w.ownsRow base 32 1 v xs.length xs
/-- the heads read as the lists -/
def HeadsR (w : World) (xs : List Value) (pss : List (List Ce)) : Prop :=
  xs.length = pss.length ∧ ∀ k (h : k < pss.length), ∃ (B : Option Addr) (c' : Nat), xs[k]? = some (.slice B pss[k].length c') ∧ pss[k].length ≤ c' ∧ pss[k].length ≤ 7 ∧ RdC w B pss[k]
theorem HeadsR.belo {w w' : World} {xs : List Value} {pss : List (List Ce)} (h : HeadsR w xs pss) (hb : Below w.heap.size w w') : HeadsR w' xs pss :=
  ⟨h.1, fun k hk => by obtain ⟨B, c', h1, h2, h3, h4⟩ := h.2 k hk; exact ⟨B, c', h1, h2, h3, Rd.belo h4 hb⟩⟩
theorem RdSS.of {w : World} {b off : Nat} {xs : List Value} {pss : List (List Ce)} (hr : Rd w (some ⟨b, off, none⟩) xs) (h : HeadsR w xs pss) : RdSS w (some ⟨b, off, none⟩) pss := fun k hk => by
  obtain ⟨B, c', h1, h2, h3, h4⟩ := h.2 k hk
  have hkx : k < xs.length := by have := h.1; omega
  obtain ⟨ad, e, hc⟩ := hr (by intro e; rw [e] at hkx; simp at hkx)
  injection e with e
  subst e
  have := hc k _ h1
  rw [add_off] at this
  exact ⟨b, off, B, c', rfl, this, h2, by unfold maxLen; omega, h4⟩
section
variable {ops : Array Oper} {rest : List Oper} {o : Oper} {a : Act} {Q : Exit → Act → World → Prop}
theorem app_head (w : World) (hgd : o.guard = none) (s x : Operand) (ho : o.op = .call { callee := .builtin .append, args := #[s, x], argTypes := #[26, 26] })
    (base : Nat) (v : Value) (xs : List Value) (hs : a.eval s = v) (hown : OwnH w base v xs) (B : Option Addr) (n c : Nat) (hx : a.eval x = .slice (some ⟨w.heap.size, 0, none⟩) 1 1) (hn : xs.length ≤ 1000000000) (hbase : base ≤ w.heap.size)
    (h : ∀ (g c' : Nat) (w' : World), OwnH w' base (.slice (some ⟨g, 0, none⟩) (xs.length + 1) c') (xs ++ [.slice B n c]) → (w.alloc (.cells #[.slice B n c] 32)).grownBy w' v.ownBlock → (v.ownBlock = some g ∨ g = w.heap.size + 1) → g < w'.heap.size → wpList Tryz.prog ops Q rest (a.put o.dst (.slice (some ⟨g, 0, none⟩) (xs.length + 1) c')) w') :
    wpList Tryz.prog ops Q (o :: rest) a (w.alloc (.cells #[.slice B n c] 32)) := by
  obtain ⟨i0, hi, hz0, hz1, hz2⟩ := info_parts Tryz.infoSC
  obtain ⟨A, c0, e, hown⟩ := hown
  refine wpList_append_lies _ hgd s x 26 ho base 32 i0 _ 1 24 Tryz.underlying26 hi hz0 hz1 hz2 rfl (by decide) v _ _ hs (hown.alloc _) ⟨w.heap.size, 0, none⟩ 1 1 [.slice B n c] hx rfl ?_ ?_ (by decide) ?_ ?_ (by simp; omega) (w.heap.size + 1) (by simp) ?_
  · intro j y hj
    rw [add_off, Nat.zero_add, cell_of_row _ _ _ _ _ _ (heap_alloc_new w _)]
    simpa using hj
  · intro y hy; simp at hy; subst hy; rfl
  · unfold maxLen; omega
  · omega
  · intro g cap w' h1 h2 h3 h4
    refine h g cap w' ⟨some ⟨g, 0, none⟩, cap, by simp, ?_⟩ h2 h3 h4
    have e2 : (xs ++ [Value.slice B n c]).length = xs.length + 1 := by simp
    rw [e2]; exact h1
theorem opw_heads {K : Act → World → Prop} (W : World) (s x : Operand) (ho : o.op = .call { callee := .builtin .append, args := #[s, x], argTypes := #[26, 26] })
    (base : Nat) (v : Value) (xs : List Value) (hs : a.eval s = v) (hown : OwnH W base v xs) (B : Addr) (n c : Nat) (ys : List Value) (hx : a.eval x = .slice (some B) n c) (hq : Rd W (some B) ys) (hl : ys.length = n) (h0 : 0 < n) (h1 : ∀ u ∈ ys, u.oneCell' = true) (m : Nat) (hm : m = xs.length + n) (hm2 : m ≤ 1000000000) (hbase : base ≤ W.heap.size)
    (h : ∀ g cap w', OwnH w' base (.slice (some ⟨g, 0, none⟩) m cap) (xs ++ ys) → Below base W w' → K (a.put o.dst (.slice (some ⟨g, 0, none⟩) m cap)) w') : Oper.wp Tryz.prog o a W K Q := by
  obtain ⟨i0, hi, hz0, hz1, hz2⟩ := info_parts Tryz.infoSC
  obtain ⟨A, c', e, hown⟩ := hown
  obtain ⟨ad, e2, hc⟩ := hq (by intro e; rw [e] at hl; simp at hl; omega)
  injection e2 with e2
  subst e2
  refine wp_append_lies W s x 26 ho base 32 i0 _ 1 24 Tryz.underlying26 hi hz0 hz1 hz2 rfl (by decide) v xs.length xs hs hown B n c ys hx (by omega) hc h1 h0 (by unfold maxLen; omega) (by omega) hbase _ rfl ?_
  intro g cap w' k1 k2 k3 _
  subst hm
  refine h g cap w' ⟨some ⟨g, 0, none⟩, cap, by rw [List.length_append, hl], ?_⟩ ((Below.refl base W).grown k2 hbase (fun k hk => (hown.lt k hk).1))
  rw [List.length_append, hl]
  exact k1
end
theorem HeadsR.one {w : World} {xs : List Value} {pss : List (List Ce)} (h : HeadsR w xs pss) : ∀ u ∈ xs, u.oneCell' = true := fun u hu => by
  obtain ⟨i, hi, e⟩ := List.getElem_of_mem hu
  obtain ⟨B, c', h1, -⟩ := h.2 i (by have := h.1; omega)
  rw [List.getElem?_eq_getElem hi, e] at h1
  injection h1 with h1
  rw [h1]; rfl
theorem HeadsR.add0 {w : World} {xs : List Value} {pss : List (List Ce)} (h : HeadsR w xs pss) : HeadsR w (xs ++ [.slice none 0 0]) (pss ++ [[]]) := by
  have hl := h.1
  refine ⟨by simp [hl], fun i hi => ?_⟩
  rcases Nat.lt_or_ge i pss.length with h1 | h1
  · obtain ⟨B', c2, e1, e2, e3, e4⟩ := h.2 i h1
    have eg : (pss ++ [[]])[i] = pss[i] := List.getElem_append_left h1
    rw [eg]
    exact ⟨B', c2, by rw [List.getElem?_append_left (by omega)]; exact e1, e2, e3, e4⟩
  · have hi2 : i = pss.length := by simp at hi; omega
    subst hi2
    have eg : (pss ++ [[]])[pss.length] = ([] : List Ce) := by simp
    rw [eg]
    exact ⟨none, 0, by rw [← hl, List.getElem?_append_right (Nat.le_refl _)]; simp, by simp, by simp, Rd.nil _ _⟩
theorem HeadsR.tail {w : World} {x : Value} {xs : List Value} {p : List Ce} {pss : List (List Ce)} (h : HeadsR w (x :: xs) (p :: pss)) : HeadsR w xs pss :=
  ⟨by have := h.1; simpa using this, fun i hi => by
    obtain ⟨B, c', h1, h2, h3, h4⟩ := h.2 (i + 1) (by simp; omega)
    exact ⟨B, c', by simpa using h1, by simpa using h2, by simpa using h3, by simpa using h4⟩⟩
theorem Rd.tail {w : World} {b off : Nat} {x : Value} {xs : List Value} (h : Rd w (some ⟨b, off, none⟩) (x :: xs)) : Rd w (some ⟨b, off + 1, none⟩) xs := fun hne => by
  obtain ⟨ad, e, hc⟩ := h (by simp)
  injection e with e
  subst e
  refine ⟨_, rfl, fun j u hu => ?_⟩
  have := hc (j + 1) u (by simpa using hu)
  rw [add_off] at this ⊢
  rw [show off + 1 + j = off + (j + 1) by omega]; exact this
/-- lists under way: where each lies -/
def Parts (w : World) (base : Nat) (v : Value) (xs : List Value) : Prop :=
  ∀ (k : Nat) (ad : Addr) (n c : Nat), xs[k]? = some (Value.slice (some ad) n c) → base ≤ ad.block ∧ ad.block < w.heap.size ∧ v.ownBlock ≠ some ad.block
/-- the heads' lists are kept where only another block is written -/
theorem HeadsR.grown {w w' : World} {base : Nat} {v : Value} {xs : List Value} {pss : List (List Ce)} {row : Option Nat} (h : HeadsR w xs pss) (hp : Parts w base v xs) (hg : w.grownBy w' row) (hrow : row = v.ownBlock ∨ ∃ g, row = some g ∧ g < base) : HeadsR w' xs pss :=
  ⟨h.1, fun k hk => by
    obtain ⟨B, c', h1, h2, h3, h4⟩ := h.2 k hk
    refine ⟨B, c', h1, h2, h3, Rd.grownBelow h4 hg (fun _ ad ha e => ?_)⟩
    subst ha
    obtain ⟨k1, k2, k3⟩ := hp k ad _ _ h1
    rcases hrow with rfl | ⟨g, rfl, hlt⟩
    · exact k3 e.symm
    · have : ad.block = g := Option.some.inj e
      omega⟩
theorem Parts.grown {w w' : World} {base : Nat} {v : Value} {xs : List Value} (hp : Parts w base v xs) (hs : w.heap.size ≤ w'.heap.size) : Parts w' base v xs := fun k ad n c e => by
  obtain ⟨h1, h2, h3⟩ := hp k ad n c e
  exact ⟨h1, by omega, h3⟩
end Go.Proofs.YtejkbjcmndnfeaaGreat
