/- Matchings of two kinds of cells, plainly: a greatest one grows by a way, or not at all. -/
import Derived.Test.YtnciemnlnijhfaaBase
namespace Go.Proofs.Ytnciemnlnijhfaa

/-- how many of the first n have an owner -/
def szM (M : Nat → Option Nat) (n : Nat) : Nat := (List.range n).countP fun l => (M l).isSome
structure IsM (adj : Nat → Nat → Prop) (n : Nat) (D : List Nat) (M : Nat → Option Nat) : Prop where
  edge : ∀ l d, M l = some d → l < n ∧ d ∈ D ∧ adj d l
  inj : ∀ l l' d, M l = some d → M l' = some d → l = l'
def IsMax (adj : Nat → Nat → Prop) (n : Nat) (D : List Nat) (M : Nat → Option Nat) : Prop :=
  IsM adj n D M ∧ ∀ M', IsM adj n D M' → szM M' n ≤ szM M n
/-- nothing leads from d to a cell without an owner -/
def Shut (adj : Nat → Nat → Prop) (M : Nat → Option Nat) (d : Nat) : Prop :=
  ∃ T : Nat → Bool, (∀ l, adj d l → T l = true) ∧ ∀ l, T l = true → ∃ s, M l = some s ∧ ∀ l', adj s l' → T l' = true
theorem szM_succ (M : Nat → Option Nat) (n : Nat) : szM M (n + 1) = szM M n + (if (M n).isSome then 1 else 0) := by
  unfold szM; rw [List.range_succ, List.countP_append]; simp
theorem szM_le {M M' : Nat → Option Nat} (h : ∀ l, (M l).isSome = true → (M' l).isSome = true) (n : Nat) : szM M n ≤ szM M' n := by
  unfold szM; exact List.countP_mono_left (fun l _ hl => h l hl)
theorem szM_eq {M M' : Nat → Option Nat} (h : ∀ l, (M l).isSome = (M' l).isSome) (n : Nat) : szM M n = szM M' n := by
  unfold szM; congr 1; funext l; exact h l
theorem szM_one {M M' : Nat → Option Nat} {l0 : Nat} (h : ∀ l, l ≠ l0 → (M l).isSome = true → (M' l).isSome = true) (n : Nat) : szM M n ≤ szM M' n + 1 := by
  induction n with
  | zero => simp [szM]
  | succ n ih =>
    rw [szM_succ, szM_succ]
    rcases Nat.decEq n l0 with hn | hn
    · have := h n hn
      cases h1 : (M n).isSome <;> cases h2 : (M' n).isSome <;> simp_all <;> omega
    · subst hn
      have h3 : szM M n ≤ szM M' n := by
        have : ∀ k, k ≤ n → szM M k ≤ szM M' k := by
          intro k
          induction k with
          | zero => intro _; simp [szM]
          | succ k ih2 =>
            intro hk
            have := ih2 (by omega)
            have h4 := h k (by omega)
            rw [szM_succ, szM_succ]
            cases h1 : (M k).isSome <;> cases h2 : (M' k).isSome <;> simp_all <;> omega
        exact this n (Nat.le_refl _)
      split <;> split <;> omega
theorem IsM.mono {adj n D D' M} (h : IsM adj n D M) (hD : ∀ d ∈ D, d ∈ D') : IsM adj n D' M :=
  ⟨fun l d e => ⟨(h.edge l d e).1, hD _ (h.edge l d e).2.1, (h.edge l d e).2.2⟩, h.inj⟩
theorem IsMax.nil (adj : Nat → Nat → Prop) (n : Nat) : IsMax adj n [] (fun _ => none) := by
  refine ⟨⟨fun l d e => (by cases e), fun l l' d e => (by cases e)⟩, fun M' h => ?_⟩
  refine szM_le (fun l hl => ?_) n
  cases e : M' l with
  | none => rw [e] at hl; cases hl
  | some d => have := (h.edge l d e).2.1; simp at this
/-- one more -/
theorem IsMax.more {adj n D M M' d} (h : IsMax adj n D M) (h' : IsM adj n (D ++ [d]) M') (e : szM M' n = szM M n + 1) : IsMax adj n (D ++ [d]) M' := by
  refine ⟨h', fun M2 h2 => ?_⟩
  by_cases hd : ∃ l, M2 l = some d
  · obtain ⟨l0, e0⟩ := hd
    have h3 : IsM adj n D (fun l => if l = l0 then none else M2 l) := by
      refine ⟨fun l d' e' => ?_, fun l l' d' e' e'' => ?_⟩
      · skip
        split at e'
        · cases e'
        · rename_i hne
          obtain ⟨a, b, c⟩ := h2.edge l d' e'
          refine ⟨a, ?_, c⟩
          rcases List.mem_append.1 b with b | b
          · exact b
          · simp at b; subst b
            exact absurd (h2.inj l l0 d' e' e0) hne
      · skip
        split at e'
        · cases e'
        · split at e''
          · cases e''
          · exact h2.inj _ _ _ e' e''
    have h4 := h.2 _ h3
    have h5 := szM_one (M := M2) (M' := fun l => if l = l0 then none else M2 l) (l0 := l0) (fun l hl hs => by simp [hl, hs]) n
    omega
  · have h3 : IsM adj n D M2 := ⟨fun l d' e' => by
      obtain ⟨a, b, c⟩ := h2.edge l d' e'
      refine ⟨a, ?_, c⟩
      rcases List.mem_append.1 b with b | b
      · exact b
      · simp at b; subst b; exact absurd ⟨l, e'⟩ hd, h2.inj⟩
    have := h.2 _ h3
    omega
/-- none more -/
theorem IsMax.same {adj n D M d} (h : IsMax adj n D M) (hd : d ∉ D) (hs : Shut adj M d) : IsMax adj n (D ++ [d]) M := by
  refine ⟨h.1.mono (fun x hx => List.mem_append_left _ hx), fun M2 h2 => ?_⟩
  obtain ⟨T, ht, hc⟩ := hs
  have key : IsM adj n D (fun l => if T l = true then M l else M2 l) := by
    refine ⟨fun l d' e' => ?_, fun l l' d' e' e'' => ?_⟩
    · skip
      split at e'
      · exact h.1.edge l d' e'
      · rename_i hT
        obtain ⟨a, b, c⟩ := h2.edge l d' e'
        refine ⟨a, ?_, c⟩
        rcases List.mem_append.1 b with b | b
        · exact b
        · simp at b; subst b; exact absurd (ht l c) hT
    · skip
      split at e' <;> split at e''
      · exact h.1.inj _ _ _ e' e''
      · rename_i h1 h2'
        obtain ⟨s, es, hs⟩ := hc l h1
        rw [es] at e'; injection e' with e'; subst e'
        exact absurd (hs l' (h2.edge l' _ e'').2.2) h2'
      · rename_i h1 h2'
        obtain ⟨s, es, hs⟩ := hc l' h2'
        rw [es] at e''; injection e'' with e''; subst e''
        exact absurd (hs l (h2.edge l _ e').2.2) h1
      · exact h2.inj _ _ _ e' e''
  refine Nat.le_trans (szM_le (M' := fun l => if T l = true then M l else M2 l) (fun l hl => ?_) n) (h.2 _ key)
  by_cases hT : T l = true
  · obtain ⟨s, es, -⟩ := hc l hT
    simp [hT, es]
  · simp [hT, hl]
theorem IsMax.uniq {adj n D M M'} (h : IsMax adj n D M) (h' : IsMax adj n D M') : szM M n = szM M' n :=
  Nat.le_antisymm (h'.2 _ h.1) (h.2 _ h'.1)
end Go.Proofs.Ytnciemnlnijhfaa
