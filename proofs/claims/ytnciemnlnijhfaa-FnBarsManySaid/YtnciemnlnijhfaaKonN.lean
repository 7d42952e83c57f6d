/- A greatest matching against the worst set, plainly. -/
import Derived.Test.YtnciemnlnijhfaaTryN
namespace Go.Proofs.Ytnciemnlnijhfaa

theorem countP_or_le {α : Type} (l : List α) (p q r : α → Bool) (h : ∀ x, p x = true → q x = true ∨ r x = true) : l.countP p ≤ l.countP q + l.countP r := by
  induction l with
  | nil => simp
  | cons x l ih =>
    simp only [List.countP_cons]
    have := h x
    cases hp : p x <;> cases hq : q x <;> cases hr : r x <;> simp_all <;> omega
theorem countP_one {p : Nat → Bool} (n : Nat) (h : ∀ i j, p i = true → p j = true → i = j) : (List.range n).countP p ≤ 1 := by
  induction n with
  | zero => simp
  | succ n ih =>
    rw [List.range_succ, List.countP_append]
    cases hp : p n with
    | false => simp [hp]; exact ih
    | true =>
      have : (List.range n).countP p = 0 := by
        rw [List.countP_eq_zero]
        intro i hi
        rw [List.mem_range] at hi
        intro e
        have := h i n e hp
        omega
      rw [this]; simp [hp]
theorem inj_count {M : Nat → Option Nat} (n : Nat) (hinj : ∀ l l' d, M l = some d → M l' = some d → l = l') (X : List Nat) : (List.range n).countP (fun l => X.any fun d => M l == some d) ≤ X.length := by
  induction X with
  | nil => simp
  | cons x X ih =>
    have h1 := countP_or_le (List.range n) (fun l => (x :: X).any fun d => M l == some d) (fun l => M l == some x) (fun l => X.any fun d => M l == some d) (fun l hl => by
      simp only [List.any_cons, Bool.or_eq_true] at hl; exact hl)
    have h2 := countP_one (p := fun l => M l == some x) n (fun i j hi hj => hinj i j x (by simpa using hi) (by simpa using hj))
    simp only [List.length_cons]
    omega
theorem hit_count {M : Nat → Option Nat} (n : Nat) (X : List Nat) (hnd : X.Nodup) (hin : ∀ d ∈ X, ∃ l, l < n ∧ M l = some d) : X.length ≤ (List.range n).countP (fun l => X.any fun d => M l == some d) := by
  induction X with
  | nil => simp
  | cons x X ih =>
    obtain ⟨l0, h0, e0⟩ := hin x (by simp)
    have hx : x ∉ X := (List.nodup_cons.1 hnd).1
    have ih' := ih (List.nodup_cons.1 hnd).2 (fun d hd => hin d (by simp [hd]))
    have key : ∀ m, (List.range m).countP (fun l => X.any fun d => M l == some d) + (if l0 < m then 1 else 0) ≤ (List.range m).countP (fun l => (x :: X).any fun d => M l == some d) := by
      intro m
      induction m with
      | zero => simp
      | succ m ihm =>
        rw [List.range_succ, List.countP_append, List.countP_append]
        rcases Nat.decEq m l0 with hm | hm
        · have hle : ((List.filter (fun l => X.any fun d => M l == some d) [m]).length) ≤ ((List.filter (fun l => (x :: X).any fun d => M l == some d) [m]).length) := by
            rw [← List.countP_eq_length_filter, ← List.countP_eq_length_filter]
            exact List.countP_mono_left (fun l _ hl => by rw [List.any_cons, hl, Bool.or_true])
          rw [← List.countP_eq_length_filter, ← List.countP_eq_length_filter] at hle
          have : (if l0 < m + 1 then 1 else 0) = (if l0 < m then 1 else 0) := by
            by_cases h : l0 < m
            · rw [if_pos h, if_pos (by omega)]
            · rw [if_neg h, if_neg (by omega)]
          omega
        · subst hm
          have a1 : (X.any fun d => M m == some d) = false := by
            rw [e0, List.any_eq_false]
            intro d hd e
            simp at e
            subst e
            exact hx hd
          have a2 : ((x :: X).any fun d => M m == some d) = true := by rw [e0]; simp
          rw [if_neg (Nat.lt_irrefl m)] at ihm
          rw [if_pos (by omega)]
          simp only [List.countP_cons, List.countP_nil, a1, a2]
          simp at ihm ⊢
          omega
    have := key n
    rw [if_pos h0] at this
    simp only [List.length_cons]
    omega
theorem filter_split {α : Type} (l : List α) (p : α → Bool) : (l.filter p).length + (l.filter fun x => !p x).length = l.length := by
  induction l with
  | nil => rfl
  | cons x l ih => simp only [List.filter_cons]; cases h : p x <;> simp <;> omega
/-- the cells beside some of D -/
def nearN (nb : Nat → List Nat) (n : Nat) (D : List Nat) (p : Nat → Bool) : Nat := (List.range n).countP fun l => D.any fun d => p d && decide (l ∈ nb d)
theorem kon_le {nb : Nat → List Nat} {n : Nat} {D : List Nat} {M : Nat → Option Nat} (h : IsM (fun d l => l ∈ nb d) n D M) (p : Nat → Bool) : (D.filter p).length + szM M n ≤ D.length + nearN nb n D p := by
  have h1 := inj_count n h.inj (D.filter fun d => !p d)
  have h2 := filter_split D p
  have h3 : szM M n ≤ nearN nb n D p + (List.range n).countP (fun l => (D.filter fun d => !p d).any fun d => M l == some d) := by
    unfold szM nearN
    refine countP_or_le _ _ _ _ (fun l hl => ?_)
    obtain ⟨d, hd⟩ := Option.isSome_iff_exists.1 hl
    obtain ⟨-, e2, e3⟩ := h.edge l d hd
    cases hp : p d with
    | true => exact .inl (List.any_eq_true.2 ⟨d, e2, by simp [hp, e3]⟩)
    | false => exact .inr (List.any_eq_true.2 ⟨d, by simp [e2, hp], by simp [hd]⟩)
  omega
/-- a cell without a domino in a greatest matching: nothing leads on from it -/
theorem shut_of_max {nb : Nat → List Nat} {n : Nat} {D : List Nat} (hnb : ∀ d l, l ∈ nb d → l < n) {M : Nat → Option Nat} (h : IsMax (fun d l => l ∈ nb d) n D M) {d : Nat} (hd : d ∈ D) (hM : ∀ l, M l ≠ some d) : Shut (fun d l => l ∈ nb d) M d := by
  cases hr : (tryF nb (n + 1) M d (fun _ => false)).2.2 with
  | true =>
    have g := try_true (D := D) hnb (n + 1) M d (fun _ => false) (fun _ => false) (fun l hl => by cases hl) (by rw [subM_none]; exact h.1) hd (fun l e => by rw [subM_none] at e; exact hM l e) hr
    have hs := g.size
    have hm := g.mat
    rw [subM_none, subM_none] at hs
    rw [subM_none] at hm
    have := h.2 _ hm
    omega
  | false =>
    obtain ⟨-, -, b⟩ := try_false (n := n) hnb (n + 1) M d (fun _ => false) hr
    have hu : unm (fun _ => false) n ≤ n := by unfold unm; exact Nat.le_trans List.countP_le_length (by simp)
    obtain ⟨b1, b2⟩ := b (by omega)
    exact ⟨_, fun l hl => b1 l hl, fun l hl => b2 l hl rfl⟩
theorem kon_ge {nb : Nat → List Nat} {n : Nat} {D : List Nat} (hnb : ∀ d l, l ∈ nb d → l < n) (hnd : D.Nodup) {M : Nat → Option Nat} (h : IsMax (fun d l => l ∈ nb d) n D M) : ∃ p : Nat → Bool, D.length + nearN nb n D p ≤ (D.filter p).length + szM M n := by
  have hsh : ∀ d, ∃ T : Nat → Bool, d ∈ D → (∀ l, M l ≠ some d) → (∀ l, l ∈ nb d → T l = true) ∧ ∀ l, T l = true → ∃ s, M l = some s ∧ ∀ l', l' ∈ nb s → T l' = true := by
    intro d
    by_cases h1 : d ∈ D ∧ ∀ l, M l ≠ some d
    · obtain ⟨T, a, b⟩ := shut_of_max hnb h h1.1 h1.2
      exact ⟨T, fun _ _ => ⟨a, b⟩⟩
    · exact ⟨fun _ => false, fun h2 h3 => absurd ⟨h2, h3⟩ h1⟩
  obtain ⟨T, hT⟩ := Classical.axiomOfChoice hsh
  have hfr : ∀ d, (∃ l, M l = some d) ∨ ∀ l, M l ≠ some d := fun d => by
    by_cases e : ∃ l, M l = some d
    · exact .inl e
    · exact .inr (fun l e2 => e ⟨l, e2⟩)
  have hdec : ∀ d, ∃ b : Bool, b = true ↔ ∀ l, M l ≠ some d := fun d => by
    rcases hfr d with e | e
    · exact ⟨false, fun h => (by cases h), fun h => by obtain ⟨l, e⟩ := e; exact absurd e (h l)⟩
    · exact ⟨true, fun _ => e, fun _ => rfl⟩
  obtain ⟨U, hU⟩ := Classical.axiomOfChoice hdec
  -- all that is reached
  let R : Nat → Bool := fun l => D.any fun d => U d && T d l
  have hR : ∀ l, R l = true → ∃ s, M l = some s ∧ ∀ l', l' ∈ nb s → R l' = true := fun l hl => by
    obtain ⟨d, hd, e⟩ := List.any_eq_true.1 hl
    rw [Bool.and_eq_true] at e
    obtain ⟨s, e1, e2⟩ := (hT d hd ((hU d).1 e.1)).2 l e.2
    exact ⟨s, e1, fun l' hl' => List.any_eq_true.2 ⟨d, hd, by rw [Bool.and_eq_true]; exact ⟨e.1, e2 l' hl'⟩⟩⟩
  let p : Nat → Bool := fun d => U d || (List.range n).any fun l => R l && (M l == some d)
  refine ⟨p, ?_⟩
  have e1 : nearN nb n D p ≤ (List.range n).countP R := by
    unfold nearN
    refine List.countP_mono_left (fun l _ hl => ?_)
    obtain ⟨d, hd, e⟩ := List.any_eq_true.1 hl
    simp only [Bool.and_eq_true, decide_eq_true_eq] at e
    obtain ⟨e0, hl'⟩ := e
    have e0' : U d = true ∨ ((List.range n).any fun l => R l && (M l == some d)) = true := by rw [← Bool.or_eq_true]; exact e0
    rcases e0' with e1 | e1
    · exact List.any_eq_true.2 ⟨d, hd, by rw [Bool.and_eq_true]; exact ⟨e1, (hT d hd ((hU d).1 e1)).1 l hl'⟩⟩
    · obtain ⟨l2, -, e2⟩ := List.any_eq_true.1 e1
      rw [Bool.and_eq_true] at e2
      obtain ⟨s, e3, e4⟩ := hR l2 e2.1
      have e5 : M l2 = some d := by simpa using e2.2
      rw [e3] at e5; injection e5 with e5; subst e5
      exact e4 l hl'
  -- those that are not in p have a domino on a cell that is not reached
  have e2 : (D.filter fun d => !p d).length ≤ (List.range n).countP (fun l => (D.filter fun d => !p d).any fun d => M l == some d) := by
    refine hit_count n _ (hnd.filter _) (fun d hd => ?_)
    rw [List.mem_filter] at hd
    have hpd : p d = false := by simpa using hd.2
    have hUd : U d = false := by
      have : (U d || (List.range n).any fun l => R l && (M l == some d)) = false := hpd
      rw [Bool.or_eq_false_iff] at this
      exact this.1
    rcases hfr d with ⟨l, e⟩ | e
    · exact ⟨l, (h.1.edge l d e).1, e⟩
    · rw [(hU d).2 e] at hUd; cases hUd
  have e3 : (List.range n).countP (fun l => (D.filter fun d => !p d).any fun d => M l == some d) + (List.range n).countP R ≤ szM M n := by
    unfold szM
    generalize hq : (fun l => (D.filter fun d => !p d).any fun d => M l == some d) = q
    have hqv : ∀ m, q m = (D.filter fun d => !p d).any fun d => M m == some d := fun m => by rw [← hq]
    have key : ∀ m, m ≤ n → (List.range m).countP q + (List.range m).countP R ≤ (List.range m).countP fun l => (M l).isSome := by
      intro m
      induction m with
      | zero => intro _; simp
      | succ m ih =>
        intro hm
        have ih := ih (by omega)
        rw [List.range_succ, List.countP_append, List.countP_append, List.countP_append]
        simp only [List.countP_cons, List.countP_nil]
        cases hRm : R m with
        | true =>
          obtain ⟨s, e4, -⟩ := hR m hRm
          have a1 : q m = false := by
            rw [hqv, List.any_eq_false]
            intro d hd e
            rw [List.mem_filter] at hd
            have hpd : p d = false := by simpa using hd.2
            have : (U d || (List.range n).any fun l => R l && (M l == some d)) = false := hpd
            rw [Bool.or_eq_false_iff] at this
            have h3 := List.any_eq_false.1 this.2 m (List.mem_range.2 (by omega))
            rw [hRm, e] at h3
            exact h3 rfl
          rw [a1, e4]
          simp
          omega
        | false =>
          cases a1 : q m with
          | false => simp; omega
          | true =>
            rw [hqv] at a1
            obtain ⟨d, -, e⟩ := List.any_eq_true.1 a1
            have : M m = some d := by simpa using e
            rw [this]; simp; omega
    exact key n (Nat.le_refl _)
  have e4 := filter_split D p
  omega
end Go.Proofs.Ytnciemnlnijhfaa
