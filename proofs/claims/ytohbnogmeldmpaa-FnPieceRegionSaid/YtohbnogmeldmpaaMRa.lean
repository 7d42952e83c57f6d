
/- FnPieceRegion: joined from MatchN, TryN, KonN, BesideN, BetN, PopN, LackN, LaidN, TilN, PerfN, DomN, TurnN. -/
import Derived.Test.YtohbnogmeldmpaaBase
import Derived.Test.YtohbnogmeldmpaaStepN
import Derived.Test.YtohbnogmeldmpaaDark
import Derived.Lib.SlicesCompact
import Derived.Test.YtohbnogmeldmpaaLayN
import Derived.Test.YtohbnogmeldmpaaMem
import Derived.Test.YtohbnogmeldmpaaBarsN
import Derived.Test.YtohbnogmeldmpaaGb
/- Matchings of two kinds of cells, plainly: a greatest one grows by a way, or not at all. -/
namespace Go.Proofs.Ytohbnogmeldmpaa

/-- how many of the first n have an owner -/
def szM (M : Nat → Option Nat) (n : Nat) : Nat := (List.range n).countP fun l => (M l).isSome
structure IsM (adj : Nat → Nat → Prop) (n : Nat) (D : List Nat) (M : Nat → Option Nat) : Prop where
  edge : ∀ l d, M l = some d → l < n ∧ d ∈ D ∧ adj d l
  inj : ∀ l l' d, M l = some d → M l' = some d → l = l'
def IsMax (adj : Nat → Nat → Prop) (n : Nat) (D : List Nat) (M : Nat → Option Nat) : Prop :=
  IsM adj n D M ∧ ∀ M', IsM adj n D M' → szM M' n ≤ szM M n
/-- nothing leads from d to a cell without an owner -/
def Shut (adj : Nat → Nat → Prop) (M : Nat → Option Nat) (d : Nat) : Prop :=
  ∃ T : Nat → Bool, (∀ l, adj d l → T l = true) ∧ ∀ l, T l = true → ∃ s, M l = some s ∧ ∀ l', adj s l' → T l' = true
theorem szM_succ (M : Nat → Option Nat) (n : Nat) : szM M (n + 1) = szM M n + (if (M n).isSome then 1 else 0) := by
  unfold szM; rw [List.range_succ, List.countP_append]; simp
theorem szM_le {M M' : Nat → Option Nat} (h : ∀ l, (M l).isSome = true → (M' l).isSome = true) (n : Nat) : szM M n ≤ szM M' n := by
  unfold szM; exact List.countP_mono_left (fun l _ hl => h l hl)
theorem szM_eq {M M' : Nat → Option Nat} (h : ∀ l, (M l).isSome = (M' l).isSome) (n : Nat) : szM M n = szM M' n := by
  unfold szM; congr 1; funext l; exact h l
theorem szM_one {M M' : Nat → Option Nat} {l0 : Nat} (h : ∀ l, l ≠ l0 → (M l).isSome = true → (M' l).isSome = true) (n : Nat) : szM M n ≤ szM M' n + 1 := by
  induction n with
  | zero => simp [szM]
  | succ n ih =>
    rw [szM_succ, szM_succ]
    rcases Nat.decEq n l0 with hn | hn
    · have := h n hn
      cases h1 : (M n).isSome <;> cases h2 : (M' n).isSome <;> simp_all <;> omega
    · subst hn
      have h3 : szM M n ≤ szM M' n := by
        have : ∀ k, k ≤ n → szM M k ≤ szM M' k := by
          intro k
          induction k with
          | zero => intro _; simp [szM]
          | succ k ih2 =>
            intro hk
            have := ih2 (by omega)
            have h4 := h k (by omega)
            rw [szM_succ, szM_succ]
            cases h1 : (M k).isSome <;> cases h2 : (M' k).isSome <;> simp_all <;> omega
        exact this n (Nat.le_refl _)
      split <;> split <;> omega
theorem IsM.mono {adj n D D' M} (h : IsM adj n D M) (hD : ∀ d ∈ D, d ∈ D') : IsM adj n D' M :=
  ⟨fun l d e => ⟨(h.edge l d e).1, hD _ (h.edge l d e).2.1, (h.edge l d e).2.2⟩, h.inj⟩
theorem IsMax.nil (adj : Nat → Nat → Prop) (n : Nat) : IsMax adj n [] (fun _ => none) := by
  refine ⟨⟨fun l d e => (by cases e), fun l l' d e => (by cases e)⟩, fun M' h => ?_⟩
  refine szM_le (fun l hl => ?_) n
  cases e : M' l with
  | none => rw [e] at hl; cases hl
  | some d => have := (h.edge l d e).2.1; simp at this
/-- one more -/
theorem IsMax.more {adj n D M M' d} (h : IsMax adj n D M) (h' : IsM adj n (D ++ [d]) M') (e : szM M' n = szM M n + 1) : IsMax adj n (D ++ [d]) M' := by
  refine ⟨h', fun M2 h2 => ?_⟩
  by_cases hd : ∃ l, M2 l = some d
  · obtain ⟨l0, e0⟩ := hd
    have h3 : IsM adj n D (fun l => if l = l0 then none else M2 l) := by
      refine ⟨fun l d' e' => ?_, fun l l' d' e' e'' => ?_⟩
      · skip
        split at e'
        · cases e'
        · rename_i hne
          obtain ⟨a, b, c⟩ := h2.edge l d' e'
          refine ⟨a, ?_, c⟩
          rcases List.mem_append.1 b with b | b
          · exact b
          · simp at b; subst b
            exact absurd (h2.inj l l0 d' e' e0) hne
      · skip
        split at e'
        · cases e'
        · split at e''
          · cases e''
          · exact h2.inj _ _ _ e' e''
    have h4 := h.2 _ h3
    have h5 := szM_one (M := M2) (M' := fun l => if l = l0 then none else M2 l) (l0 := l0) (fun l hl hs => by simp [hl, hs]) n
    omega
  · have h3 : IsM adj n D M2 := ⟨fun l d' e' => by
      obtain ⟨a, b, c⟩ := h2.edge l d' e'
      refine ⟨a, ?_, c⟩
      rcases List.mem_append.1 b with b | b
      · exact b
      · simp at b; subst b; exact absurd ⟨l, e'⟩ hd, h2.inj⟩
    have := h.2 _ h3
    omega
/-- none more -/
theorem IsMax.same {adj n D M d} (h : IsMax adj n D M) (hd : d ∉ D) (hs : Shut adj M d) : IsMax adj n (D ++ [d]) M := by
  refine ⟨h.1.mono (fun x hx => List.mem_append_left _ hx), fun M2 h2 => ?_⟩
  obtain ⟨T, ht, hc⟩ := hs
  have key : IsM adj n D (fun l => if T l = true then M l else M2 l) := by
    refine ⟨fun l d' e' => ?_, fun l l' d' e' e'' => ?_⟩
    · skip
      split at e'
      · exact h.1.edge l d' e'
      · rename_i hT
        obtain ⟨a, b, c⟩ := h2.edge l d' e'
        refine ⟨a, ?_, c⟩
        rcases List.mem_append.1 b with b | b
        · exact b
        · simp at b; subst b; exact absurd (ht l c) hT
    · skip
      split at e' <;> split at e''
      · exact h.1.inj _ _ _ e' e''
      · rename_i h1 h2'
        obtain ⟨s, es, hs⟩ := hc l h1
        rw [es] at e'; injection e' with e'; subst e'
        exact absurd (hs l' (h2.edge l' _ e'').2.2) h2'
      · rename_i h1 h2'
        obtain ⟨s, es, hs⟩ := hc l' h2'
        rw [es] at e''; injection e'' with e''; subst e''
        exact absurd (hs l (h2.edge l _ e').2.2) h1
      · exact h2.inj _ _ _ e' e''
  refine Nat.le_trans (szM_le (M' := fun l => if T l = true then M l else M2 l) (fun l hl => ?_) n) (h.2 _ key)
  by_cases hT : T l = true
  · obtain ⟨s, es, -⟩ := hc l hT
    simp [hT, es]
  · simp [hT, hl]
theorem IsMax.uniq {adj n D M M'} (h : IsMax adj n D M) (h' : IsMax adj n D M') : szM M n = szM M' n :=
  Nat.le_antisymm (h'.2 _ h.1) (h.2 _ h'.1)
end Go.Proofs.Ytohbnogmeldmpaa

/- Matchings grown by a search that changes owners (the program's LaidMost), plainly. -/
namespace Go.Proofs.Ytohbnogmeldmpaa

def updM (M : Nat → Option Nat) (t c : Nat) : Nat → Option Nat := fun l => if l = t then some c else M l
def updB (S : Nat → Bool) (t : Nat) : Nat → Bool := fun l => if l = t then true else S l
/-- without some places -/
def subM (M : Nat → Option Nat) (H : Nat → Bool) : Nat → Option Nat := fun l => if H l = true then none else M l
def tryT (rec : (Nat → Option Nat) → Nat → (Nat → Bool) → (Nat → Option Nat) × (Nat → Bool) × Bool) (c : Nat) : List Nat → (Nat → Option Nat) → (Nat → Bool) → (Nat → Option Nat) × (Nat → Bool) × Bool
  | [], M, S => (M, S, false)
  | t :: ts, M, S =>
    if S t = true then tryT rec c ts M S
    else match M t with
      | none => (updM M t c, updB S t, true)
      | some old => if (rec M old (updB S t)).2.2 = true then (updM (rec M old (updB S t)).1 t c, (rec M old (updB S t)).2.1, true) else tryT rec c ts (rec M old (updB S t)).1 (rec M old (updB S t)).2.1
def tryF (nb : Nat → List Nat) : Nat → (Nat → Option Nat) → Nat → (Nat → Bool) → (Nat → Option Nat) × (Nat → Bool) × Bool
  | 0, M, _, S => (M, S, false)
  | f + 1, M, c, S => tryT (tryF nb f) c (nb c) M S
/-- how many are not met -/
def unm (S : Nat → Bool) (n : Nat) : Nat := (List.range n).countP fun l => !S l
theorem unm_succ (S : Nat → Bool) (n : Nat) : unm S (n + 1) = unm S n + (if S n = true then 0 else 1) := by
  unfold unm; rw [List.range_succ, List.countP_append]; simp; cases S n <;> simp
theorem unm_le {S S' : Nat → Bool} (h : ∀ l, S l = true → S' l = true) (n : Nat) : unm S' n ≤ unm S n := by
  unfold unm
  refine List.countP_mono_left (fun l _ hl => ?_)
  cases e : S l with
  | false => rfl
  | true => rw [h l e] at hl; cases hl
theorem unm_upd (S : Nat → Bool) (t n : Nat) (ht : t < n) (h : S t = false) : unm (updB S t) n + 1 = unm S n := by
  have low : ∀ m, m ≤ t → unm (updB S t) m = unm S m := by
    intro m
    induction m with
    | zero => intro _; rfl
    | succ m ih =>
      intro hm
      rw [unm_succ, unm_succ, ih (by omega), show updB S t m = S m by unfold updB; rw [if_neg (by omega)]]
  have key : ∀ m, t < m → unm (updB S t) m + 1 = unm S m := by
    intro m
    induction m with
    | zero => intro h; omega
    | succ m ih =>
      intro hm
      rw [unm_succ, unm_succ]
      rcases Nat.lt_or_ge t m with h1 | h1
      · have := ih h1
        rw [show updB S t m = S m by unfold updB; rw [if_neg (by omega)]]
        omega
      · obtain rfl : m = t := by omega
        rw [low m (Nat.le_refl _), show updB S m m = true by unfold updB; rw [if_pos rfl], h]
        simp
  exact key n ht
theorem tryT_met {rec : (Nat → Option Nat) → Nat → (Nat → Bool) → (Nat → Option Nat) × (Nat → Bool) × Bool} {c t : Nat} {ts : List Nat} {M : Nat → Option Nat} {S : Nat → Bool} (h : S t = true) : tryT rec c (t :: ts) M S = tryT rec c ts M S := by
  show (if _ then _ else _) = _; rw [if_pos h]
theorem tryT_free {rec : (Nat → Option Nat) → Nat → (Nat → Bool) → (Nat → Option Nat) × (Nat → Bool) × Bool} {c t : Nat} {ts : List Nat} {M : Nat → Option Nat} {S : Nat → Bool} (h : S t = false) (hM : M t = none) : tryT rec c (t :: ts) M S = (updM M t c, updB S t, true) := by
  show (if _ then _ else _) = _; rw [if_neg (by rw [h]; simp), hM]
theorem tryT_old {rec : (Nat → Option Nat) → Nat → (Nat → Bool) → (Nat → Option Nat) × (Nat → Bool) × Bool} {c t old : Nat} {ts : List Nat} {M : Nat → Option Nat} {S : Nat → Bool} (h : S t = false) (hM : M t = some old) : tryT rec c (t :: ts) M S = (if (rec M old (updB S t)).2.2 = true then (updM (rec M old (updB S t)).1 t c, (rec M old (updB S t)).2.1, true) else tryT rec c ts (rec M old (updB S t)).1 (rec M old (updB S t)).2.1) := by
  show (if _ then _ else _) = _; rw [if_neg (by rw [h]; simp), hM]
theorem subM_in {M : Nat → Option Nat} {H : Nat → Bool} {l d : Nat} (h : subM M H l = some d) : H l = false ∧ M l = some d := by
  unfold subM at h
  split at h
  · cases h
  · rename_i e; exact ⟨by simpa using e, h⟩
theorem subM_of {M : Nat → Option Nat} {H : Nat → Bool} {l : Nat} (h : H l = false) : subM M H l = M l := by unfold subM; rw [h]; rfl
theorem szM_upd {M M' : Nat → Option Nat} {t n : Nat} (ht : t < n) (h0 : M t = none) (h1 : (M' t).isSome = true) (h : ∀ l, l ≠ t → (M' l).isSome = (M l).isSome) : szM M' n = szM M n + 1 := by
  have low : ∀ m, m ≤ t → szM M' m = szM M m := by
    intro m
    induction m with
    | zero => intro _; rfl
    | succ m ih => intro hm; rw [szM_succ, szM_succ, ih (by omega), h m (by omega)]
  have key : ∀ m, t < m → szM M' m = szM M m + 1 := by
    intro m
    induction m with
    | zero => intro h; omega
    | succ m ih =>
      intro hm
      rw [szM_succ, szM_succ]
      rcases Nat.lt_or_ge t m with h2 | h2
      · rw [ih h2, h m (by omega)]; omega
      · obtain rfl : m = t := by omega
        rw [low m (Nat.le_refl _), h1, h0]; simp
  exact key n ht
/-- what is left where the search came through -/
structure Grown (nb : Nat → List Nat) (n : Nat) (D : List Nat) (H : Nat → Bool) (M : Nat → Option Nat) (c : Nat) (S : Nat → Bool) (M' : Nat → Option Nat) : Prop where
  mat : IsM (fun d l => l ∈ nb d) n D (subM M' H)
  size : szM (subM M' H) n = szM (subM M H) n + 1
  keep : ∀ l, S l = true → M' l = M l
  from_ : ∀ l d, subM M' H l = some d → d = c ∨ ∃ l', subM M H l' = some d
/-- a search that fails changes no owner, and all that it met is taken -/
theorem try_false {nb : Nat → List Nat} {n : Nat} (hnb : ∀ d l, l ∈ nb d → l < n) : ∀ (f : Nat) (M : Nat → Option Nat) (c : Nat) (S : Nat → Bool), (tryF nb f M c S).2.2 = false →
    (tryF nb f M c S).1 = M ∧ (∀ l, S l = true → (tryF nb f M c S).2.1 l = true) ∧
    (unm S n < f → (∀ l ∈ nb c, (tryF nb f M c S).2.1 l = true) ∧ ∀ l, (tryF nb f M c S).2.1 l = true → S l = false → ∃ s, M l = some s ∧ ∀ l' ∈ nb s, (tryF nb f M c S).2.1 l' = true)
  | 0, M, c, S, _ => ⟨rfl, fun _ h => h, fun h => by omega⟩
  | f + 1, M, c, S, hr => by
    have key : ∀ (ts : List Nat) (S : Nat → Bool), (∀ t ∈ ts, t < n) → (tryT (tryF nb f) c ts M S).2.2 = false →
        (tryT (tryF nb f) c ts M S).1 = M ∧ (∀ l, S l = true → (tryT (tryF nb f) c ts M S).2.1 l = true) ∧
        (unm S n < f + 1 → (∀ l ∈ ts, (tryT (tryF nb f) c ts M S).2.1 l = true) ∧ ∀ l, (tryT (tryF nb f) c ts M S).2.1 l = true → S l = false → ∃ s, M l = some s ∧ ∀ l' ∈ nb s, (tryT (tryF nb f) c ts M S).2.1 l' = true) := by
      intro ts
      induction ts with
      | nil =>
        intro S _ _
        exact ⟨rfl, fun _ h => h, fun _ => ⟨fun l hl => by simp at hl, fun l h1 h2 => by rw [show (tryT (tryF nb f) c [] M S).2.1 = S from rfl, h2] at h1; cases h1⟩⟩
      | cons t ts ih =>
        intro S hts hr
        have htn := hts t (by simp)
        have hts' : ∀ x ∈ ts, x < n := fun x hx => hts x (by simp [hx])
        cases hS : S t with
        | true =>
          rw [tryT_met hS] at hr ⊢
          obtain ⟨a, b, d⟩ := ih S hts' hr
          refine ⟨a, b, fun hu => ⟨fun l hl => ?_, (d hu).2⟩⟩
          rcases List.mem_cons.1 hl with e | e
          · rw [e]; exact b t hS
          · exact (d hu).1 l e
        | false =>
          cases hM : M t with
          | none => rw [tryT_free hS hM] at hr; cases hr
          | some old =>
            rw [tryT_old hS hM] at hr ⊢
            cases hrec : (tryF nb f M old (updB S t)).2.2 with
            | true => rw [hrec, if_pos rfl] at hr; cases hr
            | false =>
              rw [hrec, if_neg (by simp)] at hr
              rw [if_neg (by simp)]
              obtain ⟨a, b, d⟩ := try_false hnb f M old (updB S t) hrec
              rw [a] at hr ⊢
              generalize (tryF nb f M old (updB S t)).2.1 = S1 at *
              obtain ⟨a', b', d'⟩ := ih S1 hts' hr
              have hb : ∀ l, S l = true → S1 l = true := fun l hl => b l (by unfold updB; split; rfl; exact hl)
              have ht1 : S1 t = true := b t (by unfold updB; rw [if_pos rfl])
              refine ⟨a', fun l hl => b' l (hb l hl), fun hu => ?_⟩
              have hu1 := unm_upd S t n htn hS
              have hu2 := unm_le (S := updB S t) (S' := S1) b n
              obtain ⟨d1, d2⟩ := d (by omega)
              obtain ⟨d3, d4⟩ := d' (by omega)
              refine ⟨fun l hl => ?_, fun l h1 h2 => ?_⟩
              · rcases List.mem_cons.1 hl with e | e
                · rw [e]; exact b' t ht1
                · exact d3 l e
              · cases h3 : S1 l with
                | false => exact d4 l h1 h3
                | true =>
                  by_cases e : l = t
                  · exact ⟨old, by rw [e]; exact hM, fun l' hl' => b' l' (d1 l' hl')⟩
                  · obtain ⟨s, e1, e2⟩ := d2 l h3 (by unfold updB; rw [if_neg e]; exact h2)
                    exact ⟨s, e1, fun l' hl' => b' l' (e2 l' hl')⟩
    exact key (nb c) S (fun t ht => hnb c t ht) hr
theorem try_true {nb : Nat → List Nat} {n : Nat} {D : List Nat} (hnb : ∀ d l, l ∈ nb d → l < n) : ∀ (f : Nat) (M : Nat → Option Nat) (c : Nat) (S H : Nat → Bool), (∀ l, H l = true → S l = true) → IsM (fun d l => l ∈ nb d) n D (subM M H) → c ∈ D → (∀ l, subM M H l ≠ some c) →
    (tryF nb f M c S).2.2 = true → Grown nb n D H M c S (tryF nb f M c S).1
  | 0, M, c, S, H, _, _, _, _, hr => by cases hr
  | f + 1, M, c, S, H, hHS, hM, hc, hcM, hr => by
    have key : ∀ (ts : List Nat) (S : Nat → Bool), (∀ t ∈ ts, t ∈ nb c) → (∀ l, H l = true → S l = true) → (tryT (tryF nb f) c ts M S).2.2 = true → Grown nb n D H M c S (tryT (tryF nb f) c ts M S).1 := by
      intro ts
      induction ts with
      | nil => intro S _ _ hr; cases hr
      | cons t ts ih =>
        intro S hts hHS hr
        have htc := hts t (by simp)
        have htn := hnb c t htc
        have hts' : ∀ x ∈ ts, x ∈ nb c := fun x hx => hts x (by simp [hx])
        cases hS : S t with
        | true => rw [tryT_met hS] at hr ⊢; exact ih S hts' hHS hr
        | false =>
          have hHt : H t = false := by
            cases e : H t with
            | false => rfl
            | true => rw [hHS t e] at hS; cases hS
          cases hMt : M t with
          | none =>
            rw [tryT_free hS hMt]
            have hne : ∀ l, l ≠ t → subM (updM M t c) H l = subM M H l := fun l hl => by unfold subM updM; rw [if_neg hl]
            have heq : subM (updM M t c) H t = some c := by rw [subM_of hHt]; unfold updM; rw [if_pos rfl]
            refine ⟨⟨fun l d e => ?_, fun l l' d e e' => ?_⟩, szM_upd htn (by rw [subM_of hHt]; exact hMt) (by rw [heq]; rfl) (fun l hl => by rw [hne l hl]), fun l hl => ?_, fun l d e => ?_⟩
            · by_cases h : l = t
              · subst h; rw [heq] at e; injection e with e; subst e; exact ⟨htn, hc, htc⟩
              · rw [hne l h] at e; exact hM.edge l d e
            · by_cases h : l = t <;> by_cases h' : l' = t
              · rw [h, h']
              · rw [h, heq] at e; rw [hne l' h'] at e'; injection e with e; subst e; exact absurd e' (hcM l')
              · rw [h', heq] at e'; rw [hne l h] at e; injection e' with e'; subst e'; exact absurd e (hcM l)
              · rw [hne l h] at e; rw [hne l' h'] at e'; exact hM.inj l l' d e e'
            · have h : l ≠ t := fun e => by rw [e, hS] at hl; cases hl
              show updM M t c l = M l
              unfold updM; rw [if_neg h]
            · by_cases h : l = t
              · subst h; rw [heq] at e; injection e with e; exact .inl e.symm
              · rw [hne l h] at e; exact .inr ⟨l, e⟩
          | some old =>
            rw [tryT_old hS hMt] at hr ⊢
            cases hrec : (tryF nb f M old (updB S t)).2.2 with
            | false =>
              rw [hrec, if_neg (by simp)] at hr
              rw [if_neg (by simp)]
              obtain ⟨a, b, -⟩ := try_false hnb f M old (updB S t) hrec
              rw [a] at hr ⊢
              have hb : ∀ l, S l = true → (tryF nb f M old (updB S t)).2.1 l = true := fun l hl => b l (by unfold updB; split; rfl; exact hl)
              have g := ih _ hts' (fun l hl => hb l (hHS l hl)) hr
              exact ⟨g.mat, g.size, fun l hl => g.keep l (hb l hl), g.from_⟩
            | true =>
              rw [if_pos rfl]
              have hsub : subM M H t = some old := by rw [subM_of hHt]; exact hMt
              have hH1 : updB H t t = true := by unfold updB; rw [if_pos rfl]
              have hH2 : ∀ l, l ≠ t → updB H t l = H l := fun l hl => by unfold updB; rw [if_neg hl]
              have hs1 : ∀ (N : Nat → Option Nat) l, l ≠ t → subM N (updB H t) l = subM N H l := fun N l hl => by unfold subM; rw [hH2 l hl]
              have hs2 : ∀ (N : Nat → Option Nat), subM N (updB H t) t = none := fun N => by unfold subM; rw [hH1]; rfl
              have hin : ∀ (N : Nat → Option Nat) l d, subM N (updB H t) l = some d → l ≠ t ∧ subM N H l = some d := fun N l d e => by
                have h : l ≠ t := fun h => by rw [h, hs2] at e; cases e
                exact ⟨h, by rw [← hs1 N l h]; exact e⟩
              have g := try_true hnb f M old (updB S t) (updB H t) (D := D) (fun l hl => by
                  by_cases h : l = t
                  · unfold updB; rw [if_pos h]
                  · rw [hH2 l h] at hl; unfold updB; rw [if_neg h]; exact hHS l hl)
                ⟨fun l d e => hM.edge l d (hin M l d e).2, fun l l' d e e' => hM.inj l l' d (hin M l d e).2 (hin M l' d e').2⟩
                (hM.edge t old hsub).2.1 (fun l e => (hin M l old e).1 (hM.inj l t old (hin M l old e).2 hsub)) hrec
              generalize (tryF nb f M old (updB S t)).1 = N at *
              have hne : ∀ l, l ≠ t → subM (updM N t c) H l = subM N H l := fun l hl => by unfold subM updM; rw [if_neg hl]
              have heq : subM (updM N t c) H t = some c := by rw [subM_of hHt]; unfold updM; rw [if_pos rfl]
              have hnoc : ∀ l, l ≠ t → subM N H l ≠ some c := fun l hl e => by
                rw [← hs1 N l hl] at e
                rcases g.from_ l c e with h | ⟨l', h⟩
                · subst h; exact hcM t hsub
                · exact hcM l' (hin M l' c h).2
              have e1 : szM (subM (updM N t c) H) n = szM (subM N (updB H t)) n + 1 := szM_upd htn (hs2 N) (by rw [heq]; rfl) (fun l hl => by rw [hne l hl, hs1 N l hl])
              have e2 : szM (subM M H) n = szM (subM M (updB H t)) n + 1 := szM_upd htn (hs2 M) (by rw [hsub]; rfl) (fun l hl => by rw [hs1 M l hl])
              have e3 := g.size
              refine ⟨⟨fun l d e => ?_, fun l l' d e e' => ?_⟩, (show szM (subM (updM N t c) H) n = _ by omega), fun l hl => ?_, fun l d e => ?_⟩
              · by_cases h : l = t
                · subst h; rw [heq] at e; injection e with e; subst e; exact ⟨htn, hc, htc⟩
                · rw [hne l h, ← hs1 N l h] at e; exact g.mat.edge l d e
              · by_cases h : l = t <;> by_cases h' : l' = t
                · rw [h, h']
                · rw [h, heq] at e; rw [hne l' h'] at e'; injection e with e; subst e; exact absurd e' (hnoc l' h')
                · rw [h', heq] at e'; rw [hne l h] at e; injection e' with e'; subst e'; exact absurd e (hnoc l h)
                · rw [hne l h, ← hs1 N l h] at e; rw [hne l' h', ← hs1 N l' h'] at e'; exact g.mat.inj l l' d e e'
              · have h : l ≠ t := fun e => by rw [e, hS] at hl; cases hl
                show updM N t c l = M l
                unfold updM; rw [if_neg h]
                exact g.keep l (by unfold updB; rw [if_neg h]; exact hl)
              · by_cases h : l = t
                · subst h; rw [heq] at e; injection e with e; exact .inl e.symm
                · rw [hne l h, ← hs1 N l h] at e
                  rcases g.from_ l d e with h1 | ⟨l', h1⟩
                  · exact .inr ⟨t, by rw [hsub, h1]⟩
                  · exact .inr ⟨l', (hin M l' d h1).2⟩
    exact key (nb c) S (fun t ht => ht) hHS hr
theorem subM_none (M : Nat → Option Nat) : subM M (fun _ => false) = M := by funext l; rfl
/-- a search from nothing met -/
theorem try_max {nb : Nat → List Nat} {n : Nat} {D : List Nat} (hnb : ∀ d l, l ∈ nb d → l < n) {M : Nat → Option Nat} {d f : Nat} (h : IsMax (fun d l => l ∈ nb d) n D M) (hd : d ∉ D) (hf : n < f) :
    ((tryF nb f M d (fun _ => false)).2.2 = true → IsMax (fun d l => l ∈ nb d) n (D ++ [d]) (tryF nb f M d (fun _ => false)).1 ∧ szM (tryF nb f M d (fun _ => false)).1 n = szM M n + 1) ∧
    ((tryF nb f M d (fun _ => false)).2.2 = false → (tryF nb f M d (fun _ => false)).1 = M ∧ IsMax (fun d l => l ∈ nb d) n (D ++ [d]) M) := by
  constructor
  · intro hr
    have g := try_true (D := D ++ [d]) hnb f M d (fun _ => false) (fun _ => false) (fun l hl => by cases hl) (by rw [subM_none]; exact h.1.mono (fun x hx => List.mem_append_left _ hx)) (by simp)
      (fun l e => by rw [subM_none] at e; exact hd (h.1.edge l d e).2.1) hr
    have hs := g.size
    have hm := g.mat
    rw [subM_none, subM_none] at hs
    rw [subM_none] at hm
    exact ⟨h.more hm hs, hs⟩
  · intro hr
    obtain ⟨a, -, b⟩ := try_false (n := n) hnb f M d (fun _ => false) hr
    have hu : unm (fun _ => false) n ≤ n := by unfold unm; exact Nat.le_trans List.countP_le_length (by simp)
    obtain ⟨b1, b2⟩ := b (by omega)
    refine ⟨a, h.same hd ⟨_, fun l hl => b1 l hl, fun l hl => b2 l hl rfl⟩⟩
theorem IsM.congr {adj adj' : Nat → Nat → Prop} {n : Nat} {D : List Nat} {M : Nat → Option Nat} (ha : ∀ d ∈ D, ∀ l, adj d l ↔ adj' d l) (h : IsM adj n D M) : IsM adj' n D M :=
  ⟨fun l d e => by obtain ⟨a, b, c⟩ := h.edge l d e; exact ⟨a, b, (ha d b l).1 c⟩, h.inj⟩
theorem IsMax.congr {adj adj' : Nat → Nat → Prop} {n : Nat} {D : List Nat} {M : Nat → Option Nat} (ha : ∀ d ∈ D, ∀ l, adj d l ↔ adj' d l) (h : IsMax adj n D M) : IsMax adj' n D M :=
  ⟨h.1.congr ha, fun M' h' => h.2 M' (h'.congr fun d hd l => (ha d hd l).symm)⟩
end Go.Proofs.Ytohbnogmeldmpaa

/- A greatest matching against the worst set, plainly. -/
namespace Go.Proofs.Ytohbnogmeldmpaa

theorem countP_or_le {α : Type} (l : List α) (p q r : α → Bool) (h : ∀ x, p x = true → q x = true ∨ r x = true) : l.countP p ≤ l.countP q + l.countP r := by
  induction l with
  | nil => simp
  | cons x l ih =>
    simp only [List.countP_cons]
    have := h x
    cases hp : p x <;> cases hq : q x <;> cases hr : r x <;> simp_all <;> omega
theorem countP_one {p : Nat → Bool} (n : Nat) (h : ∀ i j, p i = true → p j = true → i = j) : (List.range n).countP p ≤ 1 := by
  induction n with
  | zero => simp
  | succ n ih =>
    rw [List.range_succ, List.countP_append]
    cases hp : p n with
    | false => simp [hp]; exact ih
    | true =>
      have : (List.range n).countP p = 0 := by
        rw [List.countP_eq_zero]
        intro i hi
        rw [List.mem_range] at hi
        intro e
        have := h i n e hp
        omega
      rw [this]; simp [hp]
theorem inj_count {M : Nat → Option Nat} (n : Nat) (hinj : ∀ l l' d, M l = some d → M l' = some d → l = l') (X : List Nat) : (List.range n).countP (fun l => X.any fun d => M l == some d) ≤ X.length := by
  induction X with
  | nil => simp
  | cons x X ih =>
    have h1 := countP_or_le (List.range n) (fun l => (x :: X).any fun d => M l == some d) (fun l => M l == some x) (fun l => X.any fun d => M l == some d) (fun l hl => by
      simp only [List.any_cons, Bool.or_eq_true] at hl; exact hl)
    have h2 := countP_one (p := fun l => M l == some x) n (fun i j hi hj => hinj i j x (by simpa using hi) (by simpa using hj))
    simp only [List.length_cons]
    omega
theorem hit_count {M : Nat → Option Nat} (n : Nat) (X : List Nat) (hnd : X.Nodup) (hin : ∀ d ∈ X, ∃ l, l < n ∧ M l = some d) : X.length ≤ (List.range n).countP (fun l => X.any fun d => M l == some d) := by
  induction X with
  | nil => simp
  | cons x X ih =>
    obtain ⟨l0, h0, e0⟩ := hin x (by simp)
    have hx : x ∉ X := (List.nodup_cons.1 hnd).1
    have ih' := ih (List.nodup_cons.1 hnd).2 (fun d hd => hin d (by simp [hd]))
    have key : ∀ m, (List.range m).countP (fun l => X.any fun d => M l == some d) + (if l0 < m then 1 else 0) ≤ (List.range m).countP (fun l => (x :: X).any fun d => M l == some d) := by
      intro m
      induction m with
      | zero => simp
      | succ m ihm =>
        rw [List.range_succ, List.countP_append, List.countP_append]
        rcases Nat.decEq m l0 with hm | hm
        · have hle : ((List.filter (fun l => X.any fun d => M l == some d) [m]).length) ≤ ((List.filter (fun l => (x :: X).any fun d => M l == some d) [m]).length) := by
            rw [← List.countP_eq_length_filter, ← List.countP_eq_length_filter]
            exact List.countP_mono_left (fun l _ hl => by rw [List.any_cons, hl, Bool.or_true])
          rw [← List.countP_eq_length_filter, ← List.countP_eq_length_filter] at hle
          have : (if l0 < m + 1 then 1 else 0) = (if l0 < m then 1 else 0) := by
            by_cases h : l0 < m
            · rw [if_pos h, if_pos (by omega)]
            · rw [if_neg h, if_neg (by omega)]
          omega
        · subst hm
          have a1 : (X.any fun d => M m == some d) = false := by
            rw [e0, List.any_eq_false]
            intro d hd e
            simp at e
            subst e
            exact hx hd
          have a2 : ((x :: X).any fun d => M m == some d) = true := by rw [e0]; simp
          rw [if_neg (Nat.lt_irrefl m)] at ihm
          rw [if_pos (by omega)]
          simp only [List.countP_cons, List.countP_nil, a1, a2]
          simp at ihm ⊢
          omega
    have := key n
    rw [if_pos h0] at this
    simp only [List.length_cons]
    omega
theorem filter_split {α : Type} (l : List α) (p : α → Bool) : (l.filter p).length + (l.filter fun x => !p x).length = l.length := by
  induction l with
  | nil => rfl
  | cons x l ih => simp only [List.filter_cons]; cases h : p x <;> simp <;> omega
/-- the cells beside some of D -/
def nearN (nb : Nat → List Nat) (n : Nat) (D : List Nat) (p : Nat → Bool) : Nat := (List.range n).countP fun l => D.any fun d => p d && decide (l ∈ nb d)
theorem kon_le {nb : Nat → List Nat} {n : Nat} {D : List Nat} {M : Nat → Option Nat} (h : IsM (fun d l => l ∈ nb d) n D M) (p : Nat → Bool) : (D.filter p).length + szM M n ≤ D.length + nearN nb n D p := by
  have h1 := inj_count n h.inj (D.filter fun d => !p d)
  have h2 := filter_split D p
  have h3 : szM M n ≤ nearN nb n D p + (List.range n).countP (fun l => (D.filter fun d => !p d).any fun d => M l == some d) := by
    unfold szM nearN
    refine countP_or_le _ _ _ _ (fun l hl => ?_)
    obtain ⟨d, hd⟩ := Option.isSome_iff_exists.1 hl
    obtain ⟨-, e2, e3⟩ := h.edge l d hd
    cases hp : p d with
    | true => exact .inl (List.any_eq_true.2 ⟨d, e2, by simp [hp, e3]⟩)
    | false => exact .inr (List.any_eq_true.2 ⟨d, by simp [e2, hp], by simp [hd]⟩)
  omega
/-- a cell without a domino in a greatest matching: nothing leads on from it -/
theorem shut_of_max {nb : Nat → List Nat} {n : Nat} {D : List Nat} (hnb : ∀ d l, l ∈ nb d → l < n) {M : Nat → Option Nat} (h : IsMax (fun d l => l ∈ nb d) n D M) {d : Nat} (hd : d ∈ D) (hM : ∀ l, M l ≠ some d) : Shut (fun d l => l ∈ nb d) M d := by
  cases hr : (tryF nb (n + 1) M d (fun _ => false)).2.2 with
  | true =>
    have g := try_true (D := D) hnb (n + 1) M d (fun _ => false) (fun _ => false) (fun l hl => by cases hl) (by rw [subM_none]; exact h.1) hd (fun l e => by rw [subM_none] at e; exact hM l e) hr
    have hs := g.size
    have hm := g.mat
    rw [subM_none, subM_none] at hs
    rw [subM_none] at hm
    have := h.2 _ hm
    omega
  | false =>
    obtain ⟨-, -, b⟩ := try_false (n := n) hnb (n + 1) M d (fun _ => false) hr
    have hu : unm (fun _ => false) n ≤ n := by unfold unm; exact Nat.le_trans List.countP_le_length (by simp)
    obtain ⟨b1, b2⟩ := b (by omega)
    exact ⟨_, fun l hl => b1 l hl, fun l hl => b2 l hl rfl⟩
theorem kon_ge {nb : Nat → List Nat} {n : Nat} {D : List Nat} (hnb : ∀ d l, l ∈ nb d → l < n) (hnd : D.Nodup) {M : Nat → Option Nat} (h : IsMax (fun d l => l ∈ nb d) n D M) : ∃ p : Nat → Bool, D.length + nearN nb n D p ≤ (D.filter p).length + szM M n := by
  have hsh : ∀ d, ∃ T : Nat → Bool, d ∈ D → (∀ l, M l ≠ some d) → (∀ l, l ∈ nb d → T l = true) ∧ ∀ l, T l = true → ∃ s, M l = some s ∧ ∀ l', l' ∈ nb s → T l' = true := by
    intro d
    by_cases h1 : d ∈ D ∧ ∀ l, M l ≠ some d
    · obtain ⟨T, a, b⟩ := shut_of_max hnb h h1.1 h1.2
      exact ⟨T, fun _ _ => ⟨a, b⟩⟩
    · exact ⟨fun _ => false, fun h2 h3 => absurd ⟨h2, h3⟩ h1⟩
  obtain ⟨T, hT⟩ := Classical.axiomOfChoice hsh
  have hfr : ∀ d, (∃ l, M l = some d) ∨ ∀ l, M l ≠ some d := fun d => by
    by_cases e : ∃ l, M l = some d
    · exact .inl e
    · exact .inr (fun l e2 => e ⟨l, e2⟩)
  have hdec : ∀ d, ∃ b : Bool, b = true ↔ ∀ l, M l ≠ some d := fun d => by
    rcases hfr d with e | e
    · exact ⟨false, fun h => (by cases h), fun h => by obtain ⟨l, e⟩ := e; exact absurd e (h l)⟩
    · exact ⟨true, fun _ => e, fun _ => rfl⟩
  obtain ⟨U, hU⟩ := Classical.axiomOfChoice hdec
  -- all that is reached
  let R : Nat → Bool := fun l => D.any fun d => U d && T d l
  have hR : ∀ l, R l = true → ∃ s, M l = some s ∧ ∀ l', l' ∈ nb s → R l' = true := fun l hl => by
    obtain ⟨d, hd, e⟩ := List.any_eq_true.1 hl
    rw [Bool.and_eq_true] at e
    obtain ⟨s, e1, e2⟩ := (hT d hd ((hU d).1 e.1)).2 l e.2
    exact ⟨s, e1, fun l' hl' => List.any_eq_true.2 ⟨d, hd, by rw [Bool.and_eq_true]; exact ⟨e.1, e2 l' hl'⟩⟩⟩
  let p : Nat → Bool := fun d => U d || (List.range n).any fun l => R l && (M l == some d)
  refine ⟨p, ?_⟩
  have e1 : nearN nb n D p ≤ (List.range n).countP R := by
    unfold nearN
    refine List.countP_mono_left (fun l _ hl => ?_)
    obtain ⟨d, hd, e⟩ := List.any_eq_true.1 hl
    simp only [Bool.and_eq_true, decide_eq_true_eq] at e
    obtain ⟨e0, hl'⟩ := e
    have e0' : U d = true ∨ ((List.range n).any fun l => R l && (M l == some d)) = true := by rw [← Bool.or_eq_true]; exact e0
    rcases e0' with e1 | e1
    · exact List.any_eq_true.2 ⟨d, hd, by rw [Bool.and_eq_true]; exact ⟨e1, (hT d hd ((hU d).1 e1)).1 l hl'⟩⟩
    · obtain ⟨l2, -, e2⟩ := List.any_eq_true.1 e1
      rw [Bool.and_eq_true] at e2
      obtain ⟨s, e3, e4⟩ := hR l2 e2.1
      have e5 : M l2 = some d := by simpa using e2.2
      rw [e3] at e5; injection e5 with e5; subst e5
      exact e4 l hl'
  -- those that are not in p have a domino on a cell that is not reached
  have e2 : (D.filter fun d => !p d).length ≤ (List.range n).countP (fun l => (D.filter fun d => !p d).any fun d => M l == some d) := by
    refine hit_count n _ (hnd.filter _) (fun d hd => ?_)
    rw [List.mem_filter] at hd
    have hpd : p d = false := by simpa using hd.2
    have hUd : U d = false := by
      have : (U d || (List.range n).any fun l => R l && (M l == some d)) = false := hpd
      rw [Bool.or_eq_false_iff] at this
      exact this.1
    rcases hfr d with ⟨l, e⟩ | e
    · exact ⟨l, (h.1.edge l d e).1, e⟩
    · rw [(hU d).2 e] at hUd; cases hUd
  have e3 : (List.range n).countP (fun l => (D.filter fun d => !p d).any fun d => M l == some d) + (List.range n).countP R ≤ szM M n := by
    unfold szM
    generalize hq : (fun l => (D.filter fun d => !p d).any fun d => M l == some d) = q
    have hqv : ∀ m, q m = (D.filter fun d => !p d).any fun d => M m == some d := fun m => by rw [← hq]
    have key : ∀ m, m ≤ n → (List.range m).countP q + (List.range m).countP R ≤ (List.range m).countP fun l => (M l).isSome := by
      intro m
      induction m with
      | zero => intro _; simp
      | succ m ih =>
        intro hm
        have ih := ih (by omega)
        rw [List.range_succ, List.countP_append, List.countP_append, List.countP_append]
        simp only [List.countP_cons, List.countP_nil]
        cases hRm : R m with
        | true =>
          obtain ⟨s, e4, -⟩ := hR m hRm
          have a1 : q m = false := by
            rw [hqv, List.any_eq_false]
            intro d hd e
            rw [List.mem_filter] at hd
            have hpd : p d = false := by simpa using hd.2
            have : (U d || (List.range n).any fun l => R l && (M l == some d)) = false := hpd
            rw [Bool.or_eq_false_iff] at this
            have h3 := List.any_eq_false.1 this.2 m (List.mem_range.2 (by omega))
            rw [hRm, e] at h3
            exact h3 rfl
          rw [a1, e4]
          simp
          omega
        | false =>
          cases a1 : q m with
          | false => simp; omega
          | true =>
            rw [hqv] at a1
            obtain ⟨d, -, e⟩ := List.any_eq_true.1 a1
            have : M m = some d := by simpa using e
            rw [this]; simp; omega
    exact key n (Nat.le_refl _)
  have e4 := filter_split D p
  omega
end Go.Proofs.Ytohbnogmeldmpaa

/- Cells beside some cells, plainly. -/
namespace Go.Proofs.Ytohbnogmeldmpaa
open Go.RowKit

theorem mem_pick {p : Nat → Bool} {k : Nat} {x : Int} : x ∈ pickTo p k ↔ ∃ i : Nat, i < k ∧ p i = true ∧ x = i := by
  unfold pickTo
  rw [List.mem_map]
  constructor
  · rintro ⟨i, hi, rfl⟩
    rw [List.mem_filter, List.mem_range] at hi
    exact ⟨i, hi.1, hi.2, rfl⟩
  · rintro ⟨i, hi, hp, rfl⟩
    exact ⟨i, by rw [List.mem_filter, List.mem_range]; exact ⟨hi, hp⟩, rfl⟩
theorem pick_sorted (p : Nat → Bool) (k : Nat) : (pickTo p k).Pairwise (· < ·) := by
  induction k with
  | zero => simp [pickTo]
  | succ k ih =>
    cases h : p k with
    | false => rw [pick_f h]; exact ih
    | true =>
      rw [pick_t h, List.pairwise_append]
      refine ⟨ih, by simp, fun x hx y hy => ?_⟩
      obtain ⟨i, hi, -, rfl⟩ := mem_pick.1 hx
      simp at hy; subst hy; omega
theorem lt_unique : ∀ {a b : List Int}, a.Pairwise (· < ·) → b.Pairwise (· < ·) → (∀ x, x ∈ a ↔ x ∈ b) → a = b
  | [], [], _, _, _ => rfl
  | [], y :: b, _, _, h => absurd ((h y).2 (by simp)) (by simp)
  | x :: a, [], _, _, h => absurd ((h x).1 (by simp)) (by simp)
  | x :: a, y :: b, ha, hb, h => by
    rw [List.pairwise_cons] at ha hb
    have hxy : x = y := by
      have h1 : x ∈ y :: b := (h x).1 (by simp)
      have h2 : y ∈ x :: a := (h y).2 (by simp)
      rcases List.mem_cons.1 h1 with e | e
      · exact e
      · rcases List.mem_cons.1 h2 with e2 | e2
        · exact e2.symm
        · have := hb.1 x e; have := ha.1 y e2; omega
    subst hxy
    congr 1
    refine lt_unique ha.2 hb.2 (fun z => ?_)
    constructor
    · intro hz
      have := ha.1 z hz
      rcases List.mem_cons.1 ((h z).1 (by simp [hz])) with e | e
      · omega
      · exact e
    · intro hz
      have := hb.1 z hz
      rcases List.mem_cons.1 ((h z).2 (by simp [hz])) with e | e
      · omega
      · exact e
theorem compact_up (d : Array Int) (hs : ∀ i j, i ≤ j → j < d.size → d[i]! ≤ d[j]!) (m : Nat) (hm : m ≤ d.size) :
    (Lib.compactUpTo d m).Pairwise (· < ·) ∧ ∀ x, x ∈ Lib.compactUpTo d m ↔ ∃ j, j < m ∧ d[j]! = x := by
  induction m with
  | zero => simp [Lib.compactUpTo]
  | succ m ih =>
    obtain ⟨ih1, ih2⟩ := ih (by omega)
    rw [Lib.compactUpTo_succ]
    by_cases hk : m = 0 ∨ d[m]! ≠ d[m - 1]!
    · have e : Lib.keeps d m = true := by unfold Lib.keeps; simpa using hk
      rw [if_pos e]
      refine ⟨?_, fun x => ?_⟩
      · rw [List.pairwise_append]
        refine ⟨ih1, by simp, fun x hx y hy => ?_⟩
        simp at hy; subst hy
        obtain ⟨j, hj, rfl⟩ := (ih2 x).1 hx
        rcases hk with h | h
        · omega
        · have h1 := hs j (m - 1) (by omega) (by omega)
          have h2 := hs (m - 1) m (by omega) (by omega)
          omega
      · rw [List.mem_append, ih2]
        constructor
        · rintro (⟨j, hj, rfl⟩ | h)
          · exact ⟨j, by omega, rfl⟩
          · simp at h; exact ⟨m, by omega, h.symm⟩
        · rintro ⟨j, hj, rfl⟩
          rcases Nat.lt_or_ge j m with h | h
          · exact .inl ⟨j, h, rfl⟩
          · obtain rfl : j = m := by omega
            exact .inr (by simp)
    · have e : Lib.keeps d m = false := by unfold Lib.keeps; simp; simp at hk; omega
      rw [e]
      simp only [Bool.false_eq_true, if_false, List.append_nil]
      refine ⟨ih1, fun x => ?_⟩
      rw [ih2]
      have hk1 : 0 < m := by omega
      have hk2 : d[m]! = d[m - 1]! := by
        rcases Decidable.em (d[m]! = d[m - 1]!) with h | h
        · exact h
        · exact absurd (Or.inr h) hk
      constructor
      · rintro ⟨j, hj, rfl⟩; exact ⟨j, by omega, rfl⟩
      · rintro ⟨j, hj, rfl⟩
        rcases Nat.lt_or_ge j m with h | h
        · exact ⟨j, h, rfl⟩
        · obtain rfl : j = m := by omega
          exact ⟨j - 1, by omega, hk2.symm⟩
/-- sorted and compacted: the cells of it, in order -/
theorem compact_sort (l : List Int) (p : Nat → Bool) (n : Nat) (h : ∀ x, x ∈ l ↔ ∃ i : Nat, i < n ∧ p i = true ∧ x = i) :
    Lib.compact (l.mergeSort fun x y => decide (x ≤ y)) = pickTo p n := by
  have hp := List.mergeSort_perm l (fun x y => decide (x ≤ y))
  have hpw := List.pairwise_mergeSort (le := fun x y : Int => decide (x ≤ y)) (fun a b c h1 h2 => by simp at *; omega) (fun a b => by simp; omega) l
  generalize l.mergeSort (fun x y => decide (x ≤ y)) = s at hp hpw
  have hs : ∀ i j, i ≤ j → j < s.toArray.size → s.toArray[i]! ≤ s.toArray[j]! := fun i j hij hj => by
    have hj' : j < s.length := by simpa using hj
    rcases Nat.lt_or_ge i j with h1 | h1
    · have := (List.pairwise_iff_getElem.1 hpw) i j (by omega) hj' h1
      simp at this
      simpa [hj', show i < s.length by omega] using this
    · obtain rfl : i = j := by omega
      exact Int.le_refl _
  have hc := compact_up s.toArray hs s.length (by simp)
  refine lt_unique hc.1 (pick_sorted p n) (fun x => ?_)
  unfold Lib.compact
  rw [hc.2, mem_pick, ← h x, ← hp.mem_iff]
  constructor
  · rintro ⟨j, hj, rfl⟩
    simp [hj]
  · intro hx
    obtain ⟨j, hj, e⟩ := List.getElem_of_mem hx
    exact ⟨j, hj, by simp [hj, e]⟩

/-! ### The cells beside -/
/-- a step and back -/
theorem step_rev {W T c d : Int} (h1 : 1 ≤ W) (h2 : W ≤ 6) (h3 : 1 ≤ T) (h4 : T ≤ 6) (c0 : 0 ≤ c) (c1 : c < W * T) (d1 : 1 ≤ d) (d2 : d ≤ 4) (h : 0 ≤ stepZ W T c d) : stepZ W T (stepZ W T c d) (backZ d) = c := by
  rcases (show d = 1 ∨ d = 2 ∨ d = 3 ∨ d = 4 from by omega) with rfl | rfl | rfl | rfl
  · rw [show backZ 1 = 3 by decide, step3, step1] at *
    split at h
    · rename_i hc
      rw [if_pos hc]
      rcases (show W = 1 ∨ W = 2 ∨ W = 3 ∨ W = 4 ∨ W = 5 ∨ W = 6 from by omega) with rfl | rfl | rfl | rfl | rfl | rfl <;> (rw [if_pos (by omega)]; omega)
    · omega
  · rw [show backZ 2 = 4 by decide, step4, step2] at *
    split at h
    · rename_i hc
      rw [if_pos hc]
      rcases (show W = 1 ∨ W = 2 ∨ W = 3 ∨ W = 4 ∨ W = 5 ∨ W = 6 from by omega) with rfl | rfl | rfl | rfl | rfl | rfl <;> (rw [if_pos (by omega)]; omega)
    · omega
  · rw [show backZ 3 = 1 by decide, step1, step3] at *
    split at h
    · rename_i hc
      rw [if_pos hc]
      rcases (show W = 1 ∨ W = 2 ∨ W = 3 ∨ W = 4 ∨ W = 5 ∨ W = 6 from by omega) with rfl | rfl | rfl | rfl | rfl | rfl <;> (rw [if_pos (by omega)]; omega)
    · omega
  · rw [show backZ 4 = 2 by decide, step2, step4] at *
    split at h
    · rename_i hc
      rw [if_pos hc]
      rcases (show W = 1 ∨ W = 2 ∨ W = 3 ∨ W = 4 ∨ W = 5 ∨ W = 6 from by omega) with rfl | rfl | rfl | rfl | rfl | rfl <;> (rw [if_pos (by omega)]; omega)
    · omega
theorem back_bd (d : Int) : 1 ≤ backZ d ∧ backZ d ≤ 4 := by unfold backZ; omega
/-- one of the first j cells around is one of some cells -/
def nbrTo (W T : Int) (cells : List Int) (k : Int) : Nat → Bool
  | 0 => false
  | j + 1 => nbrTo W T cells k j || (decide (0 ≤ stepZ W T k ((j : Int) + 1)) && decide (stepZ W T k ((j : Int) + 1) ∈ cells))
theorem nbr_iff {W T : Int} {cells : List Int} {k : Int} {j : Nat} : nbrTo W T cells k j = true ↔ ∃ d : Int, 1 ≤ d ∧ d ≤ j ∧ 0 ≤ stepZ W T k d ∧ stepZ W T k d ∈ cells := by
  induction j with
  | zero => simp [nbrTo]; omega
  | succ j ih =>
    unfold nbrTo
    rw [Bool.or_eq_true, ih]
    simp only [Bool.and_eq_true, decide_eq_true_eq]
    constructor
    · rintro (⟨d, h1, h2, h3⟩ | h)
      · exact ⟨d, h1, by omega, h3⟩
      · exact ⟨(j : Int) + 1, by omega, by omega, h⟩
    · rintro ⟨d, h1, h2, h3⟩
      rcases (show d ≤ j ∨ d = (j : Int) + 1 from by omega) with h | h
      · exact .inl ⟨d, h1, h, h3⟩
      · subst h; exact .inr h3
def isBes (W T : Int) (bs : List Bool) (cells : List Int) (k : Nat) : Bool := bs.getD k false && nbrTo W T cells k 4
def besL (W T : Int) (bs : List Bool) (cells : List Int) : List Int := pickTo (isBes W T bs cells) bs.length
/-- what the program lists -/
def besDirs (W T : Int) (bs : List Bool) (c : Int) : Nat → List Int
  | 0 => []
  | j + 1 => besDirs W T bs c j ++ (if 0 ≤ stepZ W T c ((j : Int) + 1) ∧ bs.getD (stepZ W T c ((j : Int) + 1)).toNat false = true then [stepZ W T c ((j : Int) + 1)] else [])
theorem dirs_t {W T c : Int} {bs : List Bool} {j : Nat} (h : 0 ≤ stepZ W T c ((j : Int) + 1)) (h2 : bs.getD (stepZ W T c ((j : Int) + 1)).toNat false = true) : besDirs W T bs c (j + 1) = besDirs W T bs c j ++ [stepZ W T c ((j : Int) + 1)] := by
  show besDirs W T bs c j ++ _ = _; rw [if_pos ⟨h, h2⟩]
theorem dirs_f {W T c : Int} {bs : List Bool} {j : Nat} (h : stepZ W T c ((j : Int) + 1) < 0 ∨ bs.getD (stepZ W T c ((j : Int) + 1)).toNat false = false) : besDirs W T bs c (j + 1) = besDirs W T bs c j := by
  show besDirs W T bs c j ++ _ = _
  rw [if_neg (by rintro ⟨h1, h2⟩; rcases h with h | h; omega; rw [h2] at h; cases h), List.append_nil]
theorem dirs_len (W T c : Int) (bs : List Bool) (j : Nat) : (besDirs W T bs c j).length ≤ j := by
  induction j with
  | zero => simp [besDirs]
  | succ j ih =>
    show (besDirs W T bs c j ++ _).length ≤ _
    rw [List.length_append]
    split <;> simp <;> omega
theorem dirs_mem {W T c x : Int} {bs : List Bool} {j : Nat} : x ∈ besDirs W T bs c j ↔ ∃ d : Int, 1 ≤ d ∧ d ≤ j ∧ x = stepZ W T c d ∧ 0 ≤ x ∧ bs.getD x.toNat false = true := by
  induction j with
  | zero => simp [besDirs]; omega
  | succ j ih =>
    show x ∈ besDirs W T bs c j ++ _ ↔ _
    rw [List.mem_append, ih]
    constructor
    · rintro (⟨d, h1, h2, h3⟩ | h)
      · exact ⟨d, h1, by omega, h3⟩
      · split at h
        · rename_i hc
          simp at h; subst h
          exact ⟨(j : Int) + 1, by omega, by omega, rfl, hc.1, hc.2⟩
        · simp at h
    · rintro ⟨d, h1, h2, rfl, h3, h4⟩
      rcases (show d ≤ j ∨ d = (j : Int) + 1 from by omega) with h | h
      · exact .inl ⟨d, h1, h, rfl, h3, h4⟩
      · subst h; rw [if_pos ⟨h3, h4⟩]; exact .inr (by simp)
def besAcc (W T : Int) (bs : List Bool) (cells : List Int) : Nat → List Int
  | 0 => []
  | k + 1 => besAcc W T bs cells k ++ (if 0 ≤ cells.getD k 0 ∧ cells.getD k 0 < bs.length then besDirs W T bs (cells.getD k 0) 4 else [])
theorem acc_t {W T c : Int} {bs : List Bool} {cells : List Int} {k : Nat} (hk : k < cells.length) (e : cells[k] = c) (h1 : 0 ≤ c) (h2 : c < bs.length) : besAcc W T bs cells (k + 1) = besAcc W T bs cells k ++ besDirs W T bs c 4 := by
  show besAcc W T bs cells k ++ _ = _
  have : cells.getD k 0 = c := by simp [List.getD_eq_getElem?_getD, List.getElem?_eq_getElem hk, e]
  rw [this, if_pos ⟨h1, h2⟩]
theorem acc_f {W T c : Int} {bs : List Bool} {cells : List Int} {k : Nat} (hk : k < cells.length) (e : cells[k] = c) (h : c < 0 ∨ bs.length ≤ c) : besAcc W T bs cells (k + 1) = besAcc W T bs cells k := by
  show besAcc W T bs cells k ++ _ = _
  have : cells.getD k 0 = c := by simp [List.getD_eq_getElem?_getD, List.getElem?_eq_getElem hk, e]
  rw [this, if_neg (by omega), List.append_nil]
theorem acc_len (W T : Int) (bs : List Bool) (cells : List Int) (k : Nat) : (besAcc W T bs cells k).length ≤ 4 * k := by
  induction k with
  | zero => simp [besAcc]
  | succ k ih =>
    show (besAcc W T bs cells k ++ _).length ≤ _
    rw [List.length_append]
    have := dirs_len W T (cells.getD k 0) bs 4
    split
    · omega
    · simp only [List.length_nil]; omega
theorem acc_mem {W T x : Int} {bs : List Bool} {cells : List Int} {k : Nat} (hk : k ≤ cells.length) : x ∈ besAcc W T bs cells k ↔ ∃ c ∈ cells.take k, (0 ≤ c ∧ c < bs.length) ∧ x ∈ besDirs W T bs c 4 := by
  induction k with
  | zero => simp [besAcc]
  | succ k ih =>
    have hg : cells.getD k 0 = cells[k] := by simp [List.getD_eq_getElem?_getD, List.getElem?_eq_getElem (show k < cells.length by omega)]
    show x ∈ besAcc W T bs cells k ++ _ ↔ _
    rw [List.mem_append, ih (by omega), take_one_more cells k (by omega), hg]
    constructor
    · rintro (⟨c, h1, h2⟩ | h)
      · exact ⟨c, List.mem_append_left _ h1, h2⟩
      · split at h
        · rename_i hc; exact ⟨_, List.mem_append_right _ (by simp), hc, h⟩
        · simp at h
    · rintro ⟨c, h1, h2, h3⟩
      rcases List.mem_append.1 h1 with h | h
      · exact .inl ⟨c, h, h2, h3⟩
      · simp at h; subst h; rw [if_pos h2]; exact .inr h3
/-- what the program lists, in order and once, is what the reference lists -/
theorem bes_eq {W T : Int} {bs : List Bool} {cells : List Int} (h1 : 1 ≤ W) (h2 : W ≤ 6) (h3 : 1 ≤ T) (h4 : T ≤ 6) (hl : (bs.length : Int) = W * T) :
    Lib.compact ((besAcc W T bs cells cells.length).mergeSort fun x y => decide (x ≤ y)) = besL W T bs cells := by
  refine compact_sort _ _ _ (fun x => ?_)
  rw [acc_mem (Nat.le_refl _), List.take_length]
  constructor
  · rintro ⟨c, hc, ⟨c0, c1⟩, hx⟩
    obtain ⟨d, d1, d2, rfl, x0, hb⟩ := dirs_mem.1 hx
    have hbd := step_bd (W := W) (T := T) (c := c) d h1 h2 h3 h4 c0 (by omega)
    have hr := step_rev (W := W) (T := T) (c := c) (d := d) h1 h2 h3 h4 c0 (by omega) d1 (by omega) x0
    obtain ⟨b1, b2⟩ := back_bd d
    refine ⟨(stepZ W T c d).toNat, by omega, ?_, by omega⟩
    unfold isBes
    rw [hb, Bool.true_and, nbr_iff]
    refine ⟨backZ d, b1, by omega, ?_⟩
    rw [show (((stepZ W T c d).toNat : Nat) : Int) = stepZ W T c d by omega, hr]
    exact ⟨c0, hc⟩
  · rintro ⟨i, hi, hp, rfl⟩
    unfold isBes at hp
    rw [Bool.and_eq_true, nbr_iff] at hp
    obtain ⟨hb, d, d1, d2, s0, hs⟩ := hp
    have hbd := step_bd (W := W) (T := T) (c := (i : Int)) d h1 h2 h3 h4 (by omega) (by omega)
    have hr := step_rev (W := W) (T := T) (c := (i : Int)) (d := d) h1 h2 h3 h4 (by omega) (by omega) d1 (by omega) s0
    obtain ⟨b1, b2⟩ := back_bd d
    refine ⟨_, hs, ⟨s0, by omega⟩, dirs_mem.2 ⟨backZ d, b1, by omega, hr.symm, by omega, by simpa using hb⟩⟩
def besV (W T : Int) (bs : List Bool) (cells : List Int) : List Int := if validB W T bs = true then besL W T bs cells else []
theorem besL_len (W T : Int) (bs : List Bool) (cells : List Int) : (besL W T bs cells).length ≤ bs.length := pick_len _ _
theorem isBes_f {W T : Int} {bs : List Bool} {cells : List Int} {k : Nat} (hk : k < bs.length) (h : bs[k] = false) : isBes W T bs cells k = false := by
  unfold isBes; rw [List.getD_eq_getElem?_getD, List.getElem?_eq_getElem hk]; simp [h]
theorem isBes_t {W T : Int} {bs : List Bool} {cells : List Int} {k : Nat} (hk : k < bs.length) (h : bs[k] = true) : isBes W T bs cells k = nbrTo W T cells k 4 := by
  unfold isBes; rw [List.getD_eq_getElem?_getD, List.getElem?_eq_getElem hk]; simp [h]
end Go.Proofs.Ytohbnogmeldmpaa

/- A domino more on a way of changed dominoes (the reference's l7Better), plainly. -/
namespace Go.Proofs.Ytohbnogmeldmpaa
open Go.RowKit

theorem dark_step {W T c : Int} (d : Int) (h1 : 1 ≤ W) (h2 : W ≤ 6) (h : 0 ≤ stepZ W T c d) : darkB W (stepZ W T c d) = !darkB W c := by
  have key : (stepZ W T c d % W + stepZ W T c d / W) % 2 = 1 - (c % W + c / W) % 2 := by
    unfold stepZ at h ⊢
    rcases (show W = 1 ∨ W = 2 ∨ W = 3 ∨ W = 4 ∨ W = 5 ∨ W = 6 from by omega) with rfl | rfl | rfl | rfl | rfl | rfl <;> (repeat (first | split at h | omega)) <;> simp_all <;> omega
  unfold darkB
  rw [key]
  have hq : (c % W + c / W) % 2 = 0 ∨ (c % W + c / W) % 2 = 1 := by omega
  rcases hq with hq | hq <;> rw [hq] <;> rfl
/-- places counted by what lies there -/
def cntX (q : Nat → Int → Bool) (L : List Int) (n : Nat) : Nat := (List.range n).countP fun k => q k (L.getD k 0)
theorem cntX_succ (q : Nat → Int → Bool) (L : List Int) (n : Nat) : cntX q L (n + 1) = cntX q L n + (if q n (L.getD n 0) = true then 1 else 0) := by
  unfold cntX; rw [List.range_succ, List.countP_append]; simp
theorem getD_set {α : Type} (l : List α) (d v : α) (i k : Nat) (hi : i < l.length) : (l.set i v).getD k d = if k = i then v else l.getD k d := by
  rw [List.getD_eq_getElem?_getD, List.getElem?_set]
  by_cases h : i = k
  · subst h; simp [hi]
  · rw [if_neg h, if_neg (fun e => h e.symm), List.getD_eq_getElem?_getD]
theorem cntX_set (q : Nat → Int → Bool) (L : List Int) (n i : Nat) (v : Int) (hi : i < n) (hn : n ≤ L.length) :
    cntX q (L.set i v) n + (if q i (L.getD i 0) = true then 1 else 0) = cntX q L n + (if q i v = true then 1 else 0) := by
  have h0 : ∀ m, m ≤ i → cntX q (L.set i v) m = cntX q L m := by
    intro m
    induction m with
    | zero => intro _; rfl
    | succ m ih =>
      intro hm
      rw [cntX_succ, cntX_succ, ih (by omega), getD_set L 0 v i m (by omega), if_neg (show ¬ m = i by omega)]
  have h1 : ∀ m, i < m → cntX q (L.set i v) m + (if q i (L.getD i 0) = true then 1 else 0) = cntX q L m + (if q i v = true then 1 else 0) := by
    intro m
    induction m with
    | zero => intro h; omega
    | succ m ih =>
      intro hm
      rcases Nat.lt_or_ge i m with h | h
      · have := ih h
        rw [cntX_succ, cntX_succ, getD_set L 0 v i m (by omega), if_neg (show ¬ m = i by omega)]
        omega
      · obtain rfl : m = i := by omega
        rw [cntX_succ, cntX_succ, h0 m (Nat.le_refl _), getD_set L 0 v m m (by omega), if_pos rfl]
        omega
  exact h1 n hi

/-- dominoes that fit -/
structure Lay (W T : Int) (bs : List Bool) (L : List Int) : Prop where
  len : L.length = bs.length
  ok : ∀ k, k < L.length → L.getD k 0 ≠ 0 → ∃ t : Nat, stepZ W T k (L.getD k 0) = t ∧ bs.getD k false = true ∧ bs.getD t false = true ∧ L.getD t 0 = backZ (L.getD k 0)
structure Fld (W T : Int) (bs : List Bool) : Prop where
  w1 : 1 ≤ W
  w6 : W ≤ 6
  t1 : 1 ≤ T
  t6 : T ≤ 6
  n : (bs.length : Int) = W * T
def betT (W T : Int) (bs : List Bool) (rec : List Int → Nat → List Bool → List Int × List Bool × Bool) (laid : List Int) (dark : Nat) : Nat → List Bool → List Int × List Bool × Bool
  | 0, seen => ([], seen, false)
  | j + 1, seen =>
    if stepZ W T dark (4 - (j : Int)) < 0 ∨ bs.getD (stepZ W T dark (4 - (j : Int))).toNat false = false ∨ seen.getD (stepZ W T dark (4 - (j : Int))).toNat false = true then betT W T bs rec laid dark j seen
    else if laid.getD (stepZ W T dark (4 - (j : Int))).toNat 0 = 0 then
      ((laid.set dark (4 - (j : Int))).set (stepZ W T dark (4 - (j : Int))).toNat (backZ (4 - (j : Int))), seen.set (stepZ W T dark (4 - (j : Int))).toNat true, true)
    else
      let other := (stepZ W T (stepZ W T dark (4 - (j : Int))) (laid.getD (stepZ W T dark (4 - (j : Int))).toNat 0)).toNat
      let r := rec (((laid.set other 0).set (stepZ W T dark (4 - (j : Int))).toNat (backZ (4 - (j : Int)))).set dark (4 - (j : Int))) other (seen.set (stepZ W T dark (4 - (j : Int))).toNat true)
      if r.2.2 = true then r else betT W T bs rec laid dark j r.2.1
def bet (W T : Int) (bs : List Bool) : Nat → List Int → Nat → List Bool → List Int × List Bool × Bool
  | 0, _, _, seen => ([], seen, false)
  | f + 1, laid, dark, seen => betT W T bs (bet W T bs f) laid dark 4 seen
def unseen (S : List Bool) : Nat := S.countP fun b => !b
theorem unseen_set (S : List Bool) (i : Nat) (hi : i < S.length) (h : S.getD i false = false) : unseen (S.set i true) + 1 = unseen S := by
  unfold unseen
  induction S generalizing i with
  | nil => simp at hi
  | cons b S ih =>
    cases i with
    | zero => simp at h; subst h; simp
    | succ i =>
      have := ih i (by simpa using hi) (by simpa using h)
      simp only [List.set_cons_succ, List.countP_cons]
      omega
theorem unseen_le (S S' : List Bool) (hl : S'.length = S.length) (h : ∀ l, S.getD l false = true → S'.getD l false = true) : unseen S' ≤ unseen S := by
  unfold unseen
  induction S generalizing S' with
  | nil => obtain rfl : S' = [] := List.eq_nil_of_length_eq_zero (by simpa using hl); exact Nat.le_refl _
  | cons b S ih =>
    cases S' with
    | nil => simp at hl
    | cons b' S' =>
      have h1 := ih S' (by simpa using hl) (fun l hl' => by simpa using h (l + 1) (by simpa using hl'))
      have h2 := h 0
      simp only [List.getD_cons_zero] at h2
      simp only [List.countP_cons]
      cases b <;> cases b' <;> simp_all <;> omega
/-- who owns a light cell -/
def ownL (W T : Int) (L : List Int) (l : Nat) : Option Nat :=
  if darkB W l = false ∧ L.getD l 0 ≠ 0 then some (stepZ W T l (L.getD l 0)).toNat else none
def adjL (W T : Int) (bs : List Bool) (d l : Nat) : Prop := ∃ way : Int, 1 ≤ way ∧ way ≤ 4 ∧ stepZ W T d way = l ∧ bs.getD l false = true
def isE (_ : Nat) (v : Int) : Bool := decide (v = 1 ∨ v = 2)
theorem isE_iff (k : Nat) (v : Int) : (isE k v = true) = (v = 1 ∨ v = 2) := by unfold isE; simp
def isLm (W : Int) (k : Nat) (v : Int) : Bool := !darkB W k && decide (v ≠ 0)
/-- a domino more, on a way -/
structure Grows (W T : Int) (bs : List Bool) (L : List Int) (c : Nat) (L' : List Int) : Prop where
  lay : Lay W T bs L'
  dark : ∀ d : Nat, darkB W d = true → (L'.getD d 0 ≠ 0 ↔ (L.getD d 0 ≠ 0 ∨ d = c))
  many : cntX isE L' bs.length = cntX isE L bs.length + 1
  light : cntX (isLm W) L' bs.length = cntX (isLm W) L bs.length + 1
structure Free (W T : Int) (bs : List Bool) (L : List Int) (c : Nat) : Prop where
  lay : Lay W T bs L
  c1 : c < bs.length
  cb : bs.getD c false = true
  cd : darkB W c = true
  c0 : L.getD c 0 = 0
theorem back_ne (d : Int) (h1 : 1 ≤ d) (h2 : d ≤ 4) : backZ d ≠ 0 ∧ d ≠ 0 ∧ ((backZ d = 1 ∨ backZ d = 2) ↔ ¬ (d = 1 ∨ d = 2)) ∧ backZ (backZ d) = d := by
  unfold backZ; omega
/-- where a step from a free dark cell leads -/
theorem step_info {W T : Int} {bs : List Bool} (hf : Fld W T bs) {c : Nat} (hc : c < bs.length) (hd : darkB W c = true) {way : Int} (hs : 0 ≤ stepZ W T c way) :
    ∃ l : Nat, stepZ W T c way = l ∧ l < bs.length ∧ darkB W l = false ∧ l ≠ c ∧ stepZ W T l (backZ way) = c ∧ 1 ≤ way ∧ way ≤ 4 := by
  obtain ⟨d1, d2⟩ := step_dir hs
  have h1 := hf.n
  have hb := step_bd (W := W) (T := T) (c := (c : Int)) way hf.w1 hf.w6 hf.t1 hf.t6 (by omega) (by omega)
  have hr := step_rev (W := W) (T := T) (c := (c : Int)) (d := way) hf.w1 hf.w6 hf.t1 hf.t6 (by omega) (by omega) d1 d2 hs
  have hk := dark_step (W := W) (T := T) (c := (c : Int)) way hf.w1 hf.w6 hs
  refine ⟨(stepZ W T c way).toNat, by omega, by omega, ?_, ?_, ?_, d1, d2⟩
  · rw [show (((stepZ W T c way).toNat : Nat) : Int) = stepZ W T c way by omega, hk, hd]; rfl
  · intro e
    have : stepZ W T c way = c := by omega
    rw [this, hd] at hk; simp at hk
  · rw [show (((stepZ W T c way).toNat : Nat) : Int) = stepZ W T c way by omega]; exact hr
theorem step_infoL {W T : Int} {bs : List Bool} (hf : Fld W T bs) {c : Nat} (hc : c < bs.length) (hd : darkB W c = false) {way : Int} (hs : 0 ≤ stepZ W T c way) :
    ∃ l : Nat, stepZ W T c way = l ∧ l < bs.length ∧ darkB W l = true ∧ l ≠ c ∧ stepZ W T l (backZ way) = c ∧ 1 ≤ way ∧ way ≤ 4 := by
  obtain ⟨d1, d2⟩ := step_dir hs
  have h1 := hf.n
  have hb := step_bd (W := W) (T := T) (c := (c : Int)) way hf.w1 hf.w6 hf.t1 hf.t6 (by omega) (by omega)
  have hr := step_rev (W := W) (T := T) (c := (c : Int)) (d := way) hf.w1 hf.w6 hf.t1 hf.t6 (by omega) (by omega) d1 d2 hs
  have hk := dark_step (W := W) (T := T) (c := (c : Int)) way hf.w1 hf.w6 hs
  refine ⟨(stepZ W T c way).toNat, by omega, by omega, ?_, ?_, ?_, d1, d2⟩
  · rw [show (((stepZ W T c way).toNat : Nat) : Int) = stepZ W T c way by omega, hk, hd]; rfl
  · intro e
    have : stepZ W T c way = c := by omega
    rw [this, hd] at hk; simp at hk
  · rw [show (((stepZ W T c way).toNat : Nat) : Int) = stepZ W T c way by omega]; exact hr
/-- a domino on two free cells -/
theorem grows_free {W T : Int} {bs : List Bool} (hf : Fld W T bs) {L : List Int} {c l : Nat} {way : Int} (h : Free W T bs L c) (hs : stepZ W T c way = l) (hb : bs.getD l false = true) (hl : L.getD l 0 = 0) :
    Grows W T bs L c ((L.set c way).set l (backZ way)) := by
  obtain ⟨l', e, l1, ld, lc, lr, d1, d2⟩ := step_info hf h.c1 h.cd (way := way) (by omega)
  obtain rfl : l' = l := by omega
  obtain ⟨b0, b1, b2, b3⟩ := back_ne way d1 d2
  have hlen := h.lay.len
  have hc1 := h.c1
  have hg : ∀ k, ((L.set c way).set l' (backZ way)).getD k 0 = if k = l' then backZ way else if k = c then way else L.getD k 0 := fun k => by
    rw [getD_set _ _ _ _ _ (by rw [List.length_set]; omega), getD_set _ _ _ _ _ (by omega)]
  refine ⟨⟨by simp [hlen], fun k hk => ?_⟩, fun d hd => ?_, ?_, ?_⟩
  · rw [hg]
    rw [List.length_set, List.length_set] at hk
    by_cases h1 : k = l'
    · subst h1
      rw [if_pos rfl]
      exact fun _ => ⟨c, lr, hb, h.cb, by rw [hg, if_neg (fun e => lc e.symm), if_pos rfl, b3]⟩
    · rw [if_neg h1]
      by_cases h2 : k = c
      · subst h2
        rw [if_pos rfl]
        exact fun _ => ⟨l', hs, h.cb, hb, by rw [hg, if_pos rfl]⟩
      · rw [if_neg h2]
        intro h3
        obtain ⟨t, t1, t2, t3, t4⟩ := h.lay.ok k (by omega) h3
        refine ⟨t, t1, t2, t3, ?_⟩
        have hd := step_dir (W := W) (T := T) (c := (k : Int)) (d := L.getD k 0) (by omega)
        have hbn := (back_ne _ hd.1 hd.2).1
        rw [hg, if_neg (fun e => by rw [e, hl] at t4; exact hbn t4.symm), if_neg (fun e => by rw [e, h.c0] at t4; exact hbn t4.symm), t4]
  · rw [hg]
    by_cases h1 : d = l'
    · subst h1; rw [ld] at hd; cases hd
    · rw [if_neg h1]
      by_cases h2 : d = c
      · rw [if_pos h2]; simp [h2, b1]
      · rw [if_neg h2]; simp [h2]
  · have e1 := cntX_set isE L bs.length c way h.c1 (by omega)
    have e2 := cntX_set isE (L.set c way) bs.length l' (backZ way) l1 (by rw [List.length_set]; omega)
    rw [getD_set _ _ _ _ _ (by omega), if_neg lc, hl] at e2
    rw [h.c0] at e1
    simp only [isE_iff] at e1 e2
    rw [if_neg (show ¬ ((0 : Int) = 1 ∨ (0 : Int) = 2) by omega)] at e1 e2
    by_cases hw : way = 1 ∨ way = 2
    · rw [if_pos hw] at e1; rw [if_neg (fun x => b2.1 x hw)] at e2; omega
    · rw [if_neg hw] at e1; rw [if_pos (b2.2 hw)] at e2; omega
  · have e1 := cntX_set (isLm W) L bs.length c way h.c1 (by omega)
    have e2 := cntX_set (isLm W) (L.set c way) bs.length l' (backZ way) l1 (by rw [List.length_set]; omega)
    rw [getD_set _ _ _ _ _ (by omega), if_neg lc, hl] at e2
    rw [h.c0] at e1
    simp [isLm, h.cd, ld, b0] at e1 e2
    omega
/-- the domino of a light cell laid anew -/
theorem free_next {W T : Int} {bs : List Bool} (hf : Fld W T bs) {L : List Int} {c l : Nat} {way : Int} (h : Free W T bs L c) (hs : stepZ W T c way = l) (hb : bs.getD l false = true) (hl : L.getD l 0 ≠ 0) :
    ∃ o : Nat, stepZ W T l (L.getD l 0) = o ∧ o ≠ c ∧ o < bs.length ∧ darkB W o = true ∧ L.getD o 0 ≠ 0 ∧ Free W T bs (((L.set o 0).set l (backZ way)).set c way) o ∧
    (∀ k, (((L.set o 0).set l (backZ way)).set c way).getD k 0 = if k = c then way else if k = l then backZ way else if k = o then 0 else L.getD k 0) ∧
    cntX isE (((L.set o 0).set l (backZ way)).set c way) bs.length = cntX isE L bs.length ∧ cntX (isLm W) (((L.set o 0).set l (backZ way)).set c way) bs.length = cntX (isLm W) L bs.length := by
  obtain ⟨l', e, l1, ld, lc, lr, d1, d2⟩ := step_info hf h.c1 h.cd (way := way) (by omega)
  obtain rfl : l' = l := by omega
  obtain ⟨b0, b1, b2, b3⟩ := back_ne way d1 d2
  have hlen := h.lay.len
  have hc1 := h.c1
  obtain ⟨o, o1, o2, o3, o4⟩ := h.lay.ok l' (by omega) hl
  obtain ⟨o', e', oo1, od, ol, orr, v1, v2⟩ := step_infoL hf l1 ld (way := L.getD l' 0) (by omega)
  obtain rfl : o' = o := by omega
  obtain ⟨c0, c1, c2, c3⟩ := back_ne (L.getD l' 0) v1 v2
  have hoc : o' ≠ c := fun e => by rw [e, h.c0] at o4; exact c0 o4.symm
  have hg : ∀ k, (((L.set o' 0).set l' (backZ way)).set c way).getD k 0 = if k = c then way else if k = l' then backZ way else if k = o' then 0 else L.getD k 0 := fun k => by
    rw [getD_set _ _ _ _ _ (by rw [List.length_set, List.length_set]; omega), getD_set _ _ _ _ _ (by rw [List.length_set]; omega), getD_set _ _ _ _ _ (by omega)]
  refine ⟨o', o1, hoc, oo1, od, by rw [o4]; exact c0, ⟨⟨by simp [hlen], fun k hk => ?_⟩, oo1, o3, od, ?_⟩, hg, ?_, ?_⟩
  · rw [hg]
    simp only [List.length_set] at hk
    by_cases h2 : k = c
    · subst h2
      rw [if_pos rfl]
      exact fun _ => ⟨l', hs, h.cb, hb, by rw [hg, if_neg lc, if_pos rfl]⟩
    · rw [if_neg h2]
      by_cases h1 : k = l'
      · subst h1
        rw [if_pos rfl]
        exact fun _ => ⟨c, lr, hb, h.cb, by rw [hg, if_pos rfl, b3]⟩
      · rw [if_neg h1]
        by_cases h4 : k = o'
        · rw [if_pos h4]; exact fun x => absurd rfl x
        · rw [if_neg h4]
          intro h3
          obtain ⟨t, t1, t2, t3, t4⟩ := h.lay.ok k (by omega) h3
          have hd := step_dir (W := W) (T := T) (c := (k : Int)) (d := L.getD k 0) (by omega)
          have hbn := back_ne _ hd.1 hd.2
          have hrev := step_rev (W := W) (T := T) (c := (k : Int)) (d := L.getD k 0) hf.w1 hf.w6 hf.t1 hf.t6 (by omega) (by have := hf.n; omega) hd.1 hd.2 (by omega)
          rw [t1] at hrev
          refine ⟨t, t1, t2, t3, ?_⟩
          rw [hg, if_neg (fun e => by rw [e, h.c0] at t4; exact hbn.1 t4.symm), if_neg (fun e => ?_), if_neg (fun e => ?_), t4]
          · rw [← t4, e, o4, orr] at hrev; omega
          · rw [← t4, e, o1] at hrev; omega
  · rw [hg, if_neg hoc, if_neg (fun e => ol e), if_pos rfl]
  · have e1 := cntX_set isE L bs.length o' 0 oo1 (by omega)
    have e2 := cntX_set isE (L.set o' 0) bs.length l' (backZ way) l1 (by rw [List.length_set]; omega)
    have e3 := cntX_set isE ((L.set o' 0).set l' (backZ way)) bs.length c way h.c1 (by rw [List.length_set, List.length_set]; omega)
    rw [getD_set L 0 0 o' l' (by omega), if_neg (show ¬ l' = o' from fun e => ol e.symm)] at e2
    rw [getD_set (L.set o' 0) 0 (backZ way) l' c (by rw [List.length_set]; omega), if_neg (show ¬ c = l' from fun e => lc e.symm), getD_set L 0 0 o' c (by omega), if_neg (show ¬ c = o' from fun e => hoc e.symm), h.c0] at e3
    rw [o4] at e1
    generalize L.getD l' 0 = v at *
    simp only [isE_iff] at e1 e2 e3
    rw [if_neg (show ¬ ((0 : Int) = 1 ∨ (0 : Int) = 2) by omega)] at e1 e3
    by_cases hw : way = 1 ∨ way = 2
    · rw [if_pos hw] at e3
      rw [if_neg (fun x => b2.1 x hw)] at e2
      by_cases hv : v = 1 ∨ v = 2
      · rw [if_pos hv] at e2; rw [if_neg (fun x => c2.1 x hv)] at e1; omega
      · rw [if_neg hv] at e2; rw [if_pos (c2.2 hv)] at e1; omega
    · rw [if_neg hw] at e3
      rw [if_pos (b2.2 hw)] at e2
      by_cases hv : v = 1 ∨ v = 2
      · rw [if_pos hv] at e2; rw [if_neg (fun x => c2.1 x hv)] at e1; omega
      · rw [if_neg hv] at e2; rw [if_pos (c2.2 hv)] at e1; omega
  · have e1 := cntX_set (isLm W) L bs.length o' 0 oo1 (by omega)
    have e2 := cntX_set (isLm W) (L.set o' 0) bs.length l' (backZ way) l1 (by rw [List.length_set]; omega)
    have e3 := cntX_set (isLm W) ((L.set o' 0).set l' (backZ way)) bs.length c way h.c1 (by rw [List.length_set, List.length_set]; omega)
    rw [getD_set L 0 0 o' l' (by omega), if_neg (show ¬ l' = o' from fun e => ol e.symm)] at e2
    rw [o4] at e1
    generalize L.getD l' 0 = v at *
    simp [isLm, h.cd, ld, od, b0, hl] at e1 e2 e3
    omega

theorem betT_skip {W T : Int} {bs : List Bool} {rec : List Int → Nat → List Bool → List Int × List Bool × Bool} {laid : List Int} {dark : Nat} {seen : List Bool} {j : Nat} (h : stepZ W T dark (4 - (j : Int)) < 0 ∨ bs.getD (stepZ W T dark (4 - (j : Int))).toNat false = false ∨ seen.getD (stepZ W T dark (4 - (j : Int))).toNat false = true) : betT W T bs rec laid dark (j + 1) seen = betT W T bs rec laid dark j seen := by
  show (if _ then _ else _) = _
  rw [if_pos h]
theorem betT_free {W T : Int} {bs : List Bool} {rec : List Int → Nat → List Bool → List Int × List Bool × Bool} {laid : List Int} {dark : Nat} {seen : List Bool} {j l : Nat} (hs : stepZ W T dark (4 - (j : Int)) = l) (hb : bs.getD l false = true) (hn : seen.getD l false = false) (hl : laid.getD l 0 = 0) :
    betT W T bs rec laid dark (j + 1) seen = ((laid.set dark (4 - (j : Int))).set l (backZ (4 - (j : Int))), seen.set l true, true) := by
  show (if _ then _ else _) = _
  rw [hs, if_neg (by rintro (h | h | h); omega; (rw [Int.toNat_natCast, hb] at h; cases h); (rw [Int.toNat_natCast, hn] at h; cases h)), if_pos (by simpa using hl)]
  simp
theorem betT_rec {W T : Int} {bs : List Bool} {rec : List Int → Nat → List Bool → List Int × List Bool × Bool} {laid : List Int} {dark : Nat} {seen : List Bool} {j l o : Nat} (hs : stepZ W T dark (4 - (j : Int)) = l) (hb : bs.getD l false = true) (hn : seen.getD l false = false) (hl : laid.getD l 0 ≠ 0) (ho : stepZ W T l (laid.getD l 0) = o) :
    betT W T bs rec laid dark (j + 1) seen = (if (rec (((laid.set o 0).set l (backZ (4 - (j : Int)))).set dark (4 - (j : Int))) o (seen.set l true)).2.2 = true then rec (((laid.set o 0).set l (backZ (4 - (j : Int)))).set dark (4 - (j : Int))) o (seen.set l true) else betT W T bs rec laid dark j (rec (((laid.set o 0).set l (backZ (4 - (j : Int)))).set dark (4 - (j : Int))) o (seen.set l true)).2.1) := by
  show (if _ then _ else _) = _
  rw [hs, if_neg (by rintro (h | h | h); omega; (rw [Int.toNat_natCast, hb] at h; cases h); (rw [Int.toNat_natCast, hn] at h; cases h)), if_neg (by simpa using hl)]
  simp only [Int.toNat_natCast, ho]
/-- the three ways on -/
theorem bet_cases {W T : Int} {bs : List Bool} (hf : Fld W T bs) {L : List Int} {c : Nat} (h : Free W T bs L c) (seen : List Bool) (j : Nat) :
    (stepZ W T c (4 - (j : Int)) < 0 ∨ bs.getD (stepZ W T c (4 - (j : Int))).toNat false = false ∨ seen.getD (stepZ W T c (4 - (j : Int))).toNat false = true) ∨
    ∃ l : Nat, stepZ W T c (4 - (j : Int)) = l ∧ l < bs.length ∧ darkB W l = false ∧ bs.getD l false = true ∧ seen.getD l false = false ∧ (L.getD l 0 = 0 ∨
      (L.getD l 0 ≠ 0 ∧ ∃ o : Nat, stepZ W T l (L.getD l 0) = o ∧ o ≠ c ∧ o < bs.length ∧ darkB W o = true ∧ L.getD o 0 ≠ 0 ∧ Free W T bs (((L.set o 0).set l (backZ (4 - (j : Int)))).set c (4 - (j : Int))) o ∧
        (∀ k, (((L.set o 0).set l (backZ (4 - (j : Int)))).set c (4 - (j : Int))).getD k 0 = if k = c then (4 - (j : Int)) else if k = l then backZ (4 - (j : Int)) else if k = o then 0 else L.getD k 0) ∧
        cntX isE (((L.set o 0).set l (backZ (4 - (j : Int)))).set c (4 - (j : Int))) bs.length = cntX isE L bs.length ∧ cntX (isLm W) (((L.set o 0).set l (backZ (4 - (j : Int)))).set c (4 - (j : Int))) bs.length = cntX (isLm W) L bs.length)) := by
  by_cases h1 : stepZ W T c (4 - (j : Int)) < 0 ∨ bs.getD (stepZ W T c (4 - (j : Int))).toNat false = false ∨ seen.getD (stepZ W T c (4 - (j : Int))).toNat false = true
  · exact .inl h1
  · obtain ⟨l, e, l1, ld, lc, lr, d1, d2⟩ := step_info hf h.c1 h.cd (way := 4 - (j : Int)) (by omega)
    rw [e] at h1
    simp only [Int.toNat_natCast, not_or, Bool.not_eq_false, Bool.not_eq_true] at h1
    refine .inr ⟨l, e, l1, ld, h1.2.1, h1.2.2, ?_⟩
    by_cases hl : L.getD l 0 = 0
    · exact .inl hl
    · exact .inr ⟨hl, free_next hf h e h1.2.1 hl⟩
/-- a way on makes a domino more -/
theorem bet_grows {W T : Int} {bs : List Bool} (hf : Fld W T bs) : ∀ (f : Nat) (L : List Int) (c : Nat) (seen : List Bool), Free W T bs L c → (bet W T bs f L c seen).2.2 = true → Grows W T bs L c (bet W T bs f L c seen).1
  | 0, L, c, seen, h, hr => by cases hr
  | f + 1, L, c, seen, h, hr => by
    have key : ∀ (j : Nat) (seen : List Bool), j ≤ 4 → (betT W T bs (bet W T bs f) L c j seen).2.2 = true → Grows W T bs L c (betT W T bs (bet W T bs f) L c j seen).1 := by
      intro j
      induction j with
      | zero => intro seen _ hr; cases hr
      | succ j ih =>
        intro seen hj hr
        rcases bet_cases hf h seen j with h1 | ⟨l, e, l1, ld, hb, hn, hl | ⟨hl, o, o1, oc, o2, od, o3, o4, o5, o6, o7⟩⟩
        · rw [betT_skip h1] at hr ⊢; exact ih seen (by omega) hr
        · rw [betT_free e hb hn hl] at hr ⊢; exact grows_free hf h e hb hl
        · rw [betT_rec e hb hn hl o1] at hr ⊢
          by_cases hr2 : (bet W T bs f (((L.set o 0).set l (backZ (4 - (j : Int)))).set c (4 - (j : Int))) o (seen.set l true)).2.2 = true
          · rw [if_pos hr2] at hr ⊢
            have g := bet_grows hf f _ o _ o4 hr2
            refine ⟨g.lay, fun d hd => ?_, by rw [g.many, o6], by rw [g.light, o7]⟩
            rw [g.dark d hd, o5]
            by_cases h1 : d = c
            · simp [h1]; omega
            · rw [if_neg h1, if_neg (fun e => by rw [e, ld] at hd; cases hd)]
              by_cases h2 : d = o
              · exact ⟨fun _ => .inl (h2 ▸ o3), fun _ => .inr h2⟩
              · rw [if_neg h2]; simp [h1, h2]
          · rw [if_neg hr2] at hr ⊢; exact ih _ (by omega) hr
    exact key 4 seen (Nat.le_refl _) hr
/-- where no way leads on, all that was reached is taken -/
structure Stuck (W T : Int) (bs : List Bool) (L : List Int) (c j : Nat) (seen S : List Bool) : Prop where
  len : S.length = seen.length
  sub : ∀ l, seen.getD l false = true → S.getD l false = true
  near : ∀ (way : Int) (l : Nat), 5 - (j : Int) ≤ way → way ≤ 4 → stepZ W T c way = l → bs.getD l false = true → S.getD l false = true
  new : ∀ l, S.getD l false = true → seen.getD l false = false → darkB W l = false ∧ L.getD l 0 ≠ 0 ∧ ∃ o : Nat, stepZ W T l (L.getD l 0) = o ∧ ∀ (way : Int) (l' : Nat), 1 ≤ way → way ≤ 4 → stepZ W T o way = l' → bs.getD l' false = true → S.getD l' false = true
theorem bet_stuck {W T : Int} {bs : List Bool} (hf : Fld W T bs) : ∀ (f : Nat) (L : List Int) (c : Nat) (seen : List Bool), Free W T bs L c → seen.length = bs.length → unseen seen < f → (bet W T bs f L c seen).2.2 = false → Stuck W T bs L c 4 seen (bet W T bs f L c seen).2.1
  | 0, L, c, seen, h, _, hu, hr => by omega
  | f + 1, L, c, seen, h, hsl, hu, hr => by
    have key : ∀ (j : Nat) (seen : List Bool), j ≤ 4 → seen.length = bs.length → unseen seen < f + 1 → (betT W T bs (bet W T bs f) L c j seen).2.2 = false → Stuck W T bs L c j seen (betT W T bs (bet W T bs f) L c j seen).2.1 := by
      intro j
      induction j with
      | zero => intro seen _ _ _ hr; exact ⟨rfl, fun l h => h, fun way l h1 h2 => by omega, fun l h1 h2 => by rw [show (betT W T bs (bet W T bs f) L c 0 seen).2.1 = seen from rfl, h2] at h1; cases h1⟩
      | succ j ih =>
        intro seen hj hsl hu hr
        rcases bet_cases hf h seen j with h1 | ⟨l, e, l1, ld, hb, hn, hl | ⟨hl, o, o1, oc, o2, od, o3, o4, o5, o6, o7⟩⟩
        · rw [betT_skip h1] at hr ⊢
          have k := ih seen (by omega) hsl hu hr
          refine ⟨k.len, k.sub, fun way l h2 h3 h4 h5 => ?_, k.new⟩
          rcases (show way = 4 - (j : Int) ∨ 5 - (j : Int) ≤ way from by omega) with h6 | h6
          · subst h6
            rw [h4] at h1
            simp only [Int.toNat_natCast] at h1
            rcases h1 with h1 | h1 | h1
            · omega
            · rw [h5] at h1; cases h1
            · exact k.sub l h1
          · exact k.near way l h6 h3 h4 h5
        · rw [betT_free e hb hn hl] at hr; cases hr
        · have hus := unseen_set seen l (by omega) hn
          rw [betT_rec e hb hn hl o1] at hr ⊢
          by_cases hr2 : (bet W T bs f (((L.set o 0).set l (backZ (4 - (j : Int)))).set c (4 - (j : Int))) o (seen.set l true)).2.2 = true
          · rw [if_pos hr2] at hr; rw [hr2] at hr; cases hr
          · rw [if_neg hr2] at hr ⊢
            have g := bet_stuck hf f _ o (seen.set l true) o4 (by simpa using hsl) (by omega) (by simpa using hr2)
            generalize (bet W T bs f (((L.set o 0).set l (backZ (4 - (j : Int)))).set c (4 - (j : Int))) o (seen.set l true)).2.1 = S1 at *
            have hset : ∀ k, (seen.set l true).getD k false = if k = l then true else seen.getD k false := fun k => getD_set seen false true l k (by omega)
            have hl1 : S1.getD l false = true := g.sub l (by rw [hset, if_pos rfl])
            have hlen : S1.length = bs.length := by rw [g.len, List.length_set, hsl]
            have hsub : ∀ k, seen.getD k false = true → S1.getD k false = true := fun k hk => g.sub k (by rw [hset, hk]; simp)
            have hle := unseen_le seen S1 (by omega) hsub
            have k := ih S1 (by omega) hlen (by omega) hr
            refine ⟨by rw [k.len]; omega, fun x hx => k.sub x (hsub x hx), fun way x h2 h3 h4 h5 => ?_, fun x h2 h3 => ?_⟩
            · rcases (show way = 4 - (j : Int) ∨ 5 - (j : Int) ≤ way from by omega) with h6 | h6
              · subst h6
                rw [e] at h4
                obtain rfl : l = x := by omega
                exact k.sub _ hl1
              · exact k.near way x h6 h3 h4 h5
            · cases hx : S1.getD x false with
              | false => exact k.new x h2 hx
              | true =>
                by_cases hxl : x = l
                · subst hxl
                  exact ⟨ld, hl, o, o1, fun way l' w1 w2 w3 w4 => k.sub l' (g.near way l' (by omega) w2 w3 w4)⟩
                · obtain ⟨n1, n2, o', n3, n4⟩ := g.new x hx (by rw [hset, if_neg hxl]; exact h3)
                  have hxc : x ≠ c := fun e => by rw [e, h.cd] at n1; cases n1
                  have hxo : x ≠ o := fun e => by rw [e, od] at n1; cases n1
                  rw [o5, if_neg hxc, if_neg hxl, if_neg hxo] at n2 n3
                  exact ⟨n1, n2, o', n3, fun way l' w1 w2 w3 w4 => k.sub l' (n4 way l' w1 w2 w3 w4)⟩
    exact key 4 seen (Nat.le_refl _) hsl hu hr

/-- what a round does, by the number of its way -/
theorem bet_round {W T : Int} {bs : List Bool} (hf : Fld W T bs) {L : List Int} {c : Nat} (h : Free W T bs L c) (rec : List Int → Nat → List Bool → List Int × List Bool × Bool) (S : List Bool) (hS : S.length = bs.length) (k : Nat) (k1 : 1 ≤ k) (k4 : k ≤ 4) :
    (stepZ W T c k < 0 ∧ betT W T bs rec L c (5 - k) S = betT W T bs rec L c (4 - k) S) ∨
    ∃ l : Nat, stepZ W T c k = l ∧ l < bs.length ∧ l < L.length ∧ l < S.length ∧ l ≠ c ∧
      ((bs.getD l false = false ∧ betT W T bs rec L c (5 - k) S = betT W T bs rec L c (4 - k) S) ∨
       (bs.getD l false = true ∧ ((S.getD l false = true ∧ betT W T bs rec L c (5 - k) S = betT W T bs rec L c (4 - k) S) ∨
        (S.getD l false = false ∧
         ((L.getD l 0 = 0 ∧ betT W T bs rec L c (5 - k) S = ((L.set c k).set l (backZ k), S.set l true, true)) ∨
          (L.getD l 0 ≠ 0 ∧ ∃ o : Nat, stepZ W T l (L.getD l 0) = o ∧ o ≠ c ∧ o < bs.length ∧ Free W T bs (((L.set o 0).set l (backZ k)).set c k) o ∧ unseen (S.set l true) + 1 = unseen S ∧
            betT W T bs rec L c (5 - k) S = (if (rec (((L.set o 0).set l (backZ k)).set c k) o (S.set l true)).2.2 = true then rec (((L.set o 0).set l (backZ k)).set c k) o (S.set l true) else betT W T bs rec L c (4 - k) (rec (((L.set o 0).set l (backZ k)).set c k) o (S.set l true)).2.1))))))) := by
  have e : (4 - ((4 - k : Nat) : Int)) = k := by omega
  have e5 : 5 - k = (4 - k) + 1 := by omega
  have hl := h.lay.len
  rcases Int.lt_or_le (stepZ W T c k) 0 with h0 | h0
  · exact .inl ⟨h0, by rw [e5, betT_skip (.inl (by rw [e]; exact h0))]⟩
  · obtain ⟨l, s, l1, ld, lc, lr, d1, d2⟩ := step_info hf h.c1 h.cd (way := (k : Int)) h0
    refine .inr ⟨l, s, l1, by omega, by omega, lc, ?_⟩
    cases hb : bs.getD l false with
    | false => exact .inl ⟨rfl, by rw [e5, betT_skip (.inr (.inl (by rw [e, s, Int.toNat_natCast]; exact hb)))]⟩
    | true =>
      refine .inr ⟨rfl, ?_⟩
      cases hn : S.getD l false with
      | true => exact .inl ⟨rfl, by rw [e5, betT_skip (.inr (.inr (by rw [e, s, Int.toNat_natCast]; exact hn)))]⟩
      | false =>
        refine .inr ⟨rfl, ?_⟩
        have s' : stepZ W T c (4 - ((4 - k : Nat) : Int)) = l := by rw [e]; exact s
        by_cases hz : L.getD l 0 = 0
        · refine .inl ⟨hz, ?_⟩
          rw [e5, betT_free s' hb hn hz, e]
        · obtain ⟨o, o1, oc, o2, od, o3, o4, o5, o6, o7⟩ := free_next hf h s hb hz
          refine .inr ⟨hz, o, o1, oc, o2, o4, unseen_set S l (by omega) hn, ?_⟩
          rw [e5, betT_rec s' hb hn hz o1, e]
end Go.Proofs.Ytohbnogmeldmpaa

/- Counting the bits of a number by sums of parts, plainly. -/
namespace Go.Proofs.Ytohbnogmeldmpaa

/-- how many of the first n bits are set -/
def bitsCnt (n x : Nat) : Nat := ((List.range n).filter fun i => x.testBit i).length
theorem bits_add (n x : Nat) : bitsCnt (8 + n) x = bitsCnt 8 (x % 256) + bitsCnt n (x / 256) := by
  unfold bitsCnt
  rw [List.range_add, List.filter_append, List.length_append]
  congr 1
  · congr 1
    refine List.filter_congr (fun i hi => ?_)
    rw [List.mem_range] at hi
    rw [show 256 = 2 ^ 8 from rfl, Nat.testBit_mod_two_pow]
    simp [hi]
  · rw [List.filter_map, List.length_map]
    congr 1
    refine List.filter_congr (fun i _ => ?_)
    show x.testBit (8 + i) = (x / 256).testBit i
    rw [show 256 = 2 ^ 8 from rfl, Nat.testBit_div_two_pow, Nat.add_comm]
theorem land_split (x m : Nat) : x &&& m = ((x % 256) &&& (m % 256)) + 256 * ((x / 256) &&& (m / 256)) := by
  have h1 : (x &&& m) % 256 = (x % 256) &&& (m % 256) := Nat.and_mod_two_pow (n := 8)
  have h2 : (x &&& m) / 256 = (x / 256) &&& (m / 256) := Nat.and_div_two_pow (n := 8)
  have := Nat.mod_add_div (x &&& m) 256
  omega
/-- n bytes of a mask -/
def msk (c : Nat) : Nat → Nat
  | 0 => 0
  | n + 1 => c + 256 * msk c n
theorem msk_mod (c n : Nat) (h : c < 256) : msk c (n + 1) % 256 = c ∧ msk c (n + 1) / 256 = msk c n := by
  show (c + 256 * msk c n) % 256 = c ∧ (c + 256 * msk c n) / 256 = msk c n
  omega
def pa (n x : Nat) : Nat := ((x / 2) &&& msk 0x55 n) + (x &&& msk 0x55 n)
def pb (n x : Nat) : Nat := ((x / 4) &&& msk 0x33 n) + (x &&& msk 0x33 n)
def pc (n x : Nat) : Nat := (x / 16 + x) &&& msk 0x0f n
def ga (b : Nat) : Nat := ((b / 2) &&& 0x55) + (b &&& 0x55)
def gb (b : Nat) : Nat := ((b / 4) &&& 0x33) + (b &&& 0x33)
def gc (b : Nat) : Nat := b / 16 + b % 16
theorem ga_lo : ∀ y, y < 512 → ((y / 2) % 256 &&& 0x55) = (y % 256 / 2 &&& 0x55) := by decide +kernel
theorem gb_lo : ∀ y, y < 1024 → ((y / 4) % 256 &&& 0x33) = (y % 256 / 4 &&& 0x33) := by decide +kernel
theorem ga_bd : ∀ b, b < 256 → ga b ≤ 170 := by decide +kernel
theorem gb_bd : ∀ b, b < 256 → gb (ga b) ≤ 68 ∧ gb (ga b) % 16 ≤ 4 := by decide +kernel
theorem gc_eq : ∀ b, b < 256 → gc (gb (ga b)) = bitsCnt 8 b ∧ gc (gb (ga b)) ≤ 8 := by decide +kernel
theorem pa_next (n x : Nat) : pa (n + 1) x = ga (x % 256) + 256 * pa n (x / 256) := by
  unfold pa ga
  rw [land_split (x / 2), land_split x, (msk_mod 0x55 n (by omega)).1, (msk_mod 0x55 n (by omega)).2]
  have h := ga_lo (x % 512) (by omega)
  rw [show x % 512 / 2 % 256 = x / 2 % 256 by omega, show x % 512 % 256 = x % 256 by omega] at h
  rw [h, show x / 2 / 256 = x / 256 / 2 by omega]
  omega
theorem pb_next (n x : Nat) : pb (n + 1) x = gb (x % 256) + 256 * pb n (x / 256) := by
  unfold pb gb
  rw [land_split (x / 4), land_split x, (msk_mod 0x33 n (by omega)).1, (msk_mod 0x33 n (by omega)).2]
  have h := gb_lo (x % 1024) (by omega)
  rw [show x % 1024 / 4 % 256 = x / 4 % 256 by omega, show x % 1024 % 256 = x % 256 by omega] at h
  rw [h, show x / 4 / 256 = x / 256 / 4 by omega]
  omega
theorem pc_next (n x : Nat) (h0 : x % 16 ≤ 4) (h1 : x % 256 ≤ 68) (h2 : x / 256 % 16 ≤ 4) : pc (n + 1) x = gc (x % 256) + 256 * pc n (x / 256) := by
  unfold pc gc
  rw [land_split (x / 16 + x), (msk_mod 0x0f n (by omega)).1, (msk_mod 0x0f n (by omega)).2]
  have e1 : (x / 16 + x) / 256 = x / 256 / 16 + x / 256 := by omega
  have e2 : ((x / 16 + x) % 256 &&& 15) = x % 256 / 16 + x % 256 % 16 := by
    rw [show (15 : Nat) = 2 ^ 4 - 1 from rfl, Nat.and_two_pow_sub_one_eq_mod]
    show (x / 16 + x) % 256 % 16 = _
    omega
  rw [e1, e2]
def pAll (n x : Nat) : Nat := pc n (pb n (pa n x))
theorem pAll_next (n x : Nat) : pAll (n + 1) x = bitsCnt 8 (x % 256) + 256 * pAll n (x / 256) ∧ bitsCnt 8 (x % 256) ≤ 8 := by
  have hb : x % 256 < 256 := by omega
  have a1 := ga_bd _ hb
  have b1 := gb_bd _ hb
  have c1 := gc_eq _ hb
  refine ⟨?_, by omega⟩
  unfold pAll
  have e1 : pa (n + 1) x % 256 = ga (x % 256) ∧ pa (n + 1) x / 256 = pa n (x / 256) := by rw [pa_next]; omega
  have e2 : pb (n + 1) (pa (n + 1) x) = gb (ga (x % 256)) + 256 * pb n (pa n (x / 256)) := by rw [pb_next, e1.1, e1.2]
  have e3 : pb (n + 1) (pa (n + 1) x) % 256 = gb (ga (x % 256)) ∧ pb (n + 1) (pa (n + 1) x) / 256 = pb n (pa n (x / 256)) := by rw [e2]; omega
  have h2 : pb n (pa n (x / 256)) % 16 ≤ 4 := by
    cases n with
    | zero => simp [pb, msk]
    | succ m =>
      have hb' : x / 256 % 256 < 256 := by omega
      have a2 := ga_bd _ hb'
      have b2 := gb_bd _ hb'
      have e : pa (m + 1) (x / 256) % 256 = ga (x / 256 % 256) := by rw [pa_next]; omega
      rw [pb_next, e]
      omega
  rw [pc_next n _ (by have := b1.2; have := e3.1; omega) (by rw [e3.1]; exact b1.1) (by rw [e3.2]; exact h2), e3.1, e3.2, c1.1]
set_option maxHeartbeats 4000000 in
/-- the whole of it, at eight bytes -/
theorem pop_sum (x x3 : Nat) (h3 : x3 = pAll 8 x) :
    x3 ≤ 0x0808080808080808 ∧ (x3 + x3 / 256 + (x3 + x3 / 256) / 65536 + (x3 + x3 / 256 + (x3 + x3 / 256) / 65536) / 4294967296) % 128 = bitsCnt 64 x := by
  have f1 := pAll_next 7 x
  have f2 := pAll_next 6 (x / 256)
  have f3 := pAll_next 5 (x / 256 / 256)
  have f4 := pAll_next 4 (x / 256 / 256 / 256)
  have f5 := pAll_next 3 (x / 256 / 256 / 256 / 256)
  have f6 := pAll_next 2 (x / 256 / 256 / 256 / 256 / 256)
  have f7 := pAll_next 1 (x / 256 / 256 / 256 / 256 / 256 / 256)
  have f8 := pAll_next 0 (x / 256 / 256 / 256 / 256 / 256 / 256 / 256)
  have z : pAll 0 (x / 256 / 256 / 256 / 256 / 256 / 256 / 256 / 256) = 0 := by simp [pAll, pc, msk]
  have g1 := bits_add 56 x
  have g2 := bits_add 48 (x / 256)
  have g3 := bits_add 40 (x / 256 / 256)
  have g4 := bits_add 32 (x / 256 / 256 / 256)
  have g5 := bits_add 24 (x / 256 / 256 / 256 / 256)
  have g6 := bits_add 16 (x / 256 / 256 / 256 / 256 / 256)
  have g7 := bits_add 8 (x / 256 / 256 / 256 / 256 / 256 / 256)
  have g8 := bits_add 0 (x / 256 / 256 / 256 / 256 / 256 / 256 / 256)
  have z2 : bitsCnt 0 (x / 256 / 256 / 256 / 256 / 256 / 256 / 256 / 256) = 0 := rfl
  simp only [Nat.reduceAdd] at f1 f2 f3 f4 f5 f6 f7 f8 g1 g2 g3 g4 g5 g6 g7 g8
  generalize bitsCnt 8 (x % 256) = p0 at *
  generalize bitsCnt 8 (x / 256 % 256) = p1 at *
  generalize bitsCnt 8 (x / 256 / 256 % 256) = p2 at *
  generalize bitsCnt 8 (x / 256 / 256 / 256 % 256) = p3 at *
  generalize bitsCnt 8 (x / 256 / 256 / 256 / 256 % 256) = p4 at *
  generalize bitsCnt 8 (x / 256 / 256 / 256 / 256 / 256 % 256) = p5 at *
  generalize bitsCnt 8 (x / 256 / 256 / 256 / 256 / 256 / 256 % 256) = p6 at *
  generalize bitsCnt 8 (x / 256 / 256 / 256 / 256 / 256 / 256 / 256 % 256) = p7 at *
  have e3 : x3 = p0 + 256 * (p1 + 256 * (p2 + 256 * (p3 + 256 * (p4 + 256 * (p5 + 256 * (p6 + 256 * p7)))))) := by omega
  have eb : bitsCnt 64 x = p0 + p1 + p2 + p3 + p4 + p5 + p6 + p7 := by omega
  rw [eb]
  obtain ⟨-, q0⟩ := f1
  obtain ⟨-, q1⟩ := f2
  obtain ⟨-, q2⟩ := f3
  obtain ⟨-, q3⟩ := f4
  obtain ⟨-, q4⟩ := f5
  obtain ⟨-, q5⟩ := f6
  obtain ⟨-, q6⟩ := f7
  obtain ⟨-, q7⟩ := f8
  clear z z2 h3 eb g1 g2 g3 g4 g5 g6 g7 g8
  subst e3
  refine ⟨by omega, ?_⟩
  have e4 : (p0 + 256 * (p1 + 256 * (p2 + 256 * (p3 + 256 * (p4 + 256 * (p5 + 256 * (p6 + 256 * p7))))))) / 256 = p1 + 256 * (p2 + 256 * (p3 + 256 * (p4 + 256 * (p5 + 256 * (p6 + 256 * p7))))) := by omega
  rw [e4]
  generalize hx4 : p0 + 256 * (p1 + 256 * (p2 + 256 * (p3 + 256 * (p4 + 256 * (p5 + 256 * (p6 + 256 * p7)))))) + (p1 + 256 * (p2 + 256 * (p3 + 256 * (p4 + 256 * (p5 + 256 * (p6 + 256 * p7)))))) = x4
  have e5 : x4 / 65536 = (p2 + p3) + 256 * (p3 + p4) + 65536 * ((p4 + p5) + 256 * (p5 + p6)) + 4294967296 * ((p6 + p7) + 256 * p7) := by omega
  rw [e5]
  generalize hx5 : x4 + ((p2 + p3) + 256 * (p3 + p4) + 65536 * ((p4 + p5) + 256 * (p5 + p6)) + 4294967296 * ((p6 + p7) + 256 * p7)) = x5
  have e6 : x5 / 4294967296 = (p4 + p5 + p6 + p7) + 256 * (p5 + p6 + p7) + 65536 * (p6 + p7 + 256 * p7) := by omega
  rw [e6]
  omega
end Go.Proofs.Ytohbnogmeldmpaa

/- Sets of dark cells with too few cells beside them, plainly. -/
namespace Go.Proofs.Ytohbnogmeldmpaa

/-- the cells of a set among the first k -/
def selTo (D : List Int) (s : Nat) : Nat → List Int
  | 0 => []
  | k + 1 => selTo D s k ++ (if s.testBit k = true then [D.getD k 0] else [])
theorem sel_t {D : List Int} {s k : Nat} (h : s.testBit k = true) : selTo D s (k + 1) = selTo D s k ++ [D.getD k 0] := by show selTo D s k ++ _ = _; rw [if_pos h]
theorem sel_f {D : List Int} {s k : Nat} (h : s.testBit k = false) : selTo D s (k + 1) = selTo D s k := by show selTo D s k ++ _ = _; rw [h]; simp
theorem sel_len (D : List Int) (s k : Nat) : (selTo D s k).length = bitsCnt k s := by
  induction k with
  | zero => rfl
  | succ k ih =>
    unfold bitsCnt at *
    rw [List.range_succ, List.filter_append, List.length_append, ← ih]
    cases h : s.testBit k with
    | true => rw [sel_t h]; simp [h]
    | false => rw [sel_f h]; simp [h]
theorem bits_bd (k s : Nat) : bitsCnt k s ≤ k := by unfold bitsCnt; have := List.length_filter_le (fun i => s.testBit i) (List.range k); simpa using this
theorem bits_low {m s : Nat} (hm : m ≤ 64) (hs : s < 2 ^ m) : bitsCnt 64 s = bitsCnt m s := by
  unfold bitsCnt
  rw [show 64 = m + (64 - m) by omega, List.range_add, List.filter_append, List.length_append]
  have : ((List.range (64 - m)).map (m + ·)).filter (fun i => s.testBit i) = [] := by
    rw [List.filter_eq_nil_iff]
    intro i hi
    obtain ⟨j, -, rfl⟩ := List.mem_map.1 hi
    rw [Nat.testBit_lt_two_pow (Nat.lt_of_lt_of_le hs (Nat.pow_le_pow_right (by omega) (by omega)))]
    simp
  rw [this]; rfl
theorem sel_mem {D : List Int} {s k : Nat} {x : Int} : x ∈ selTo D s k ↔ ∃ i, i < k ∧ s.testBit i = true ∧ D.getD i 0 = x := by
  induction k with
  | zero => simp [selTo]
  | succ k ih =>
    cases h : s.testBit k with
    | true =>
      rw [sel_t h, List.mem_append, ih]
      constructor
      · rintro (⟨i, h1, h2⟩ | h1)
        · exact ⟨i, by omega, h2⟩
        · simp at h1; exact ⟨k, by omega, h, by simpa using h1.symm⟩
      · rintro ⟨i, h1, h2, h3⟩
        rcases Nat.lt_or_ge i k with h4 | h4
        · exact .inl ⟨i, h4, h2, h3⟩
        · obtain rfl : i = k := by omega
          exact .inr (by simpa using h3.symm)
    | false =>
      rw [sel_f h, ih]
      constructor
      · rintro ⟨i, h1, h2⟩; exact ⟨i, by omega, h2⟩
      · rintro ⟨i, h1, h2, h3⟩
        rcases Nat.lt_or_ge i k with h4 | h4
        · exact ⟨i, h4, h2, h3⟩
        · obtain rfl : i = k := by omega
          rw [h] at h2; cases h2
def lackZ (W T : Int) (bs : List Bool) (D : List Int) (s : Nat) : Int := ((selTo D s D.length).length : Int) - (besL W T bs (selTo D s D.length)).length
/-- the first set with the most, and the most, of the first N -/
def bestTo (W T : Int) (bs : List Bool) (D : List Int) : Nat → Nat × Int
  | 0 => (0, 0)
  | s + 1 => if (bestTo W T bs D s).2 < lackZ W T bs D s then (s, lackZ W T bs D s) else bestTo W T bs D s
theorem best_t {W T : Int} {bs : List Bool} {D : List Int} {s : Nat} (h : (bestTo W T bs D s).2 < lackZ W T bs D s) : bestTo W T bs D (s + 1) = (s, lackZ W T bs D s) := by show ite _ _ _ = _; rw [if_pos h]
theorem best_f {W T : Int} {bs : List Bool} {D : List Int} {s : Nat} (h : ¬ (bestTo W T bs D s).2 < lackZ W T bs D s) : bestTo W T bs D (s + 1) = bestTo W T bs D s := by show ite _ _ _ = _; rw [if_neg h]
theorem best_max (W T : Int) (bs : List Bool) (D : List Int) (s : Nat) : (bestTo W T bs D (s + 1)).2 = max (bestTo W T bs D s).2 (lackZ W T bs D s) := by
  by_cases h : (bestTo W T bs D s).2 < lackZ W T bs D s
  · rw [best_t h]; simp only; omega
  · rw [best_f h]; omega
theorem nbr_nil (W T k : Int) (j : Nat) : nbrTo W T [] k j = false := by
  induction j with
  | zero => rfl
  | succ j ih => unfold nbrTo; rw [ih]; simp
theorem bes_nil (W T : Int) (bs : List Bool) : besL W T bs [] = [] := by
  unfold besL pickTo
  have : (List.range bs.length).filter (isBes W T bs []) = [] := by
    rw [List.filter_eq_nil_iff]
    intro i _
    unfold isBes
    rw [nbr_nil]; simp
  rw [this]; rfl
theorem sel_zero (D : List Int) (k : Nat) : selTo D 0 k = [] := by
  induction k with
  | zero => rfl
  | succ k ih => rw [sel_f (by simp), ih]
theorem lack_zero (W T : Int) (bs : List Bool) (D : List Int) : lackZ W T bs D 0 = 0 := by unfold lackZ; rw [sel_zero, bes_nil]; rfl
/-- it is reached, first at that set -/
theorem best_at (W T : Int) (bs : List Bool) (D : List Int) (N : Nat) : (bestTo W T bs D (N + 1)).1 < N + 1 ∧ lackZ W T bs D (bestTo W T bs D (N + 1)).1 = (bestTo W T bs D (N + 1)).2 ∧ ∀ s, s < (bestTo W T bs D (N + 1)).1 → lackZ W T bs D s ≠ (bestTo W T bs D (N + 1)).2 := by
  have hle : ∀ M s, s < M → lackZ W T bs D s ≤ (bestTo W T bs D M).2 := by
    intro M
    induction M with
    | zero => intro s h; omega
    | succ M ih =>
      intro s h
      rw [best_max]
      rcases Nat.lt_or_ge s M with h1 | h1
      · have := ih s h1; omega
      · obtain rfl : s = M := by omega
        omega
  induction N with
  | zero =>
    have h : ¬ (bestTo W T bs D 0).2 < lackZ W T bs D 0 := by rw [lack_zero]; show ¬ ((0 : Int) < 0); omega
    rw [best_f h]
    exact ⟨by show 0 < 1; omega, lack_zero _ _ _ _, fun s h => by have : s < 0 := h; omega⟩
  | succ N ih =>
    obtain ⟨h1, h2, h3⟩ := ih
    by_cases h : (bestTo W T bs D (N + 1)).2 < lackZ W T bs D (N + 1)
    · rw [best_t h]
      refine ⟨by show N + 1 < N + 1 + 1; omega, rfl, fun s hs => ?_⟩
      have hs' : s < N + 1 := hs
      have := hle (N + 1) s hs'
      show _ ≠ lackZ W T bs D (N + 1)
      omega
    · rw [best_f h]
      exact ⟨by omega, h2, h3⟩
theorem lack_bd (W T : Int) (bs : List Bool) (D : List Int) (s : Nat) (hn : bs.length ≤ 36) : -36 ≤ lackZ W T bs D s ∧ lackZ W T bs D s ≤ D.length := by
  have h1 := besL_len W T bs (selTo D s D.length)
  have h2 := sel_len D s D.length
  have h3 := bits_bd D.length s
  unfold lackZ
  omega
theorem best_bd (W T : Int) (bs : List Bool) (D : List Int) (N : Nat) (hn : bs.length ≤ 36) : 0 ≤ (bestTo W T bs D N).2 ∧ (bestTo W T bs D N).2 ≤ D.length ∧ (bestTo W T bs D N).1 ≤ N := by
  induction N with
  | zero => exact ⟨Int.le_refl _, by show (0 : Int) ≤ _; omega, Nat.le_refl _⟩
  | succ N ih =>
    have h := lack_bd W T bs D N hn
    by_cases hl : (bestTo W T bs D N).2 < lackZ W T bs D N
    · rw [best_t hl]; exact ⟨by simp only; omega, h.2, by simp only; omega⟩
    · rw [best_f hl]; exact ⟨ih.1, ih.2.1, by omega⟩

/-! ### Masks -/
/-- a number that has the bits of a list -/
def Msk (x : Nat) (l : List Int) : Prop := x < 18446744073709551616 ∧ ∀ y : Nat, x.testBit y = true ↔ (y : Int) ∈ l
theorem Msk.nil : Msk 0 [] := ⟨by omega, fun y => by simp⟩
theorem Msk.add {x : Nat} {l : List Int} (h : Msk x l) {y : Nat} (hy : y < 64) : Msk (x ||| 2 ^ y) (l ++ [(y : Int)]) := by
  refine ⟨?_, fun z => ?_⟩
  · have := Nat.or_lt_two_pow (n := 64) h.1 (show 2 ^ y < 2 ^ 64 from Nat.pow_lt_pow_right (by omega) hy)
    omega
  · rw [Nat.testBit_or, Bool.or_eq_true, h.2, List.mem_append, Nat.testBit_two_pow]
    simp
    constructor
    · rintro (h1 | h1)
      · exact .inl h1
      · exact .inr (by omega)
    · rintro (h1 | h1)
      · exact .inl h1
      · exact .inr (by omega)
theorem Msk.or {x y : Nat} {l m n : List Int} (h : Msk x l) (k : Msk y m) (hn : ∀ z : Nat, (z : Int) ∈ n ↔ (z : Int) ∈ l ∨ (z : Int) ∈ m) : Msk (x ||| y) n := by
  refine ⟨?_, fun z => ?_⟩
  · have := Nat.or_lt_two_pow (n := 64) h.1 k.1
    omega
  · rw [Nat.testBit_or, Bool.or_eq_true, h.2, k.2, hn]
/-- cells beside those and one more -/
theorem bes_more (W T : Int) (bs : List Bool) (l : List Int) (c : Int) (z : Int) : z ∈ besL W T bs (l ++ [c]) ↔ z ∈ besL W T bs l ∨ z ∈ besL W T bs [c] := by
  unfold besL
  rw [mem_pick, mem_pick, mem_pick]
  unfold isBes
  constructor
  · rintro ⟨i, hi, hp, rfl⟩
    rw [Bool.and_eq_true, nbr_iff] at hp
    obtain ⟨hb, d, d1, d2, s0, hs⟩ := hp
    rcases List.mem_append.1 hs with h | h
    · exact .inl ⟨i, hi, by rw [Bool.and_eq_true, nbr_iff]; exact ⟨hb, d, d1, d2, s0, h⟩, rfl⟩
    · exact .inr ⟨i, hi, by rw [Bool.and_eq_true, nbr_iff]; exact ⟨hb, d, d1, d2, s0, h⟩, rfl⟩
  · rintro (⟨i, hi, hp, rfl⟩ | ⟨i, hi, hp, rfl⟩)
    · rw [Bool.and_eq_true, nbr_iff] at hp
      obtain ⟨hb, d, d1, d2, s0, hs⟩ := hp
      exact ⟨i, hi, by rw [Bool.and_eq_true, nbr_iff]; exact ⟨hb, d, d1, d2, s0, List.mem_append_left _ hs⟩, rfl⟩
    · rw [Bool.and_eq_true, nbr_iff] at hp
      obtain ⟨hb, d, d1, d2, s0, hs⟩ := hp
      exact ⟨i, hi, by rw [Bool.and_eq_true, nbr_iff]; exact ⟨hb, d, d1, d2, s0, List.mem_append_right _ hs⟩, rfl⟩
/-- the bits of a mask are as many as the cells -/
theorem Msk.cnt {x : Nat} {p : Nat → Bool} {n : Nat} (hn : n ≤ 64) (h : Msk x (pickTo p n)) : bitsCnt 64 x = (pickTo p n).length := by
  have e : ∀ y, x.testBit y = (decide (y < n) && p y) := fun y => by
    have := h.2 y
    rw [mem_pick] at this
    cases hb : x.testBit y with
    | true =>
      obtain ⟨i, hi, hp, e⟩ := this.1 hb
      have : y = i := by omega
      subst this
      simp [hi, hp]
    | false =>
      cases hc : (decide (y < n) && p y) with
      | false => rfl
      | true =>
        rw [Bool.and_eq_true, decide_eq_true_eq] at hc
        rw [this.2 ⟨y, hc.1, hc.2, rfl⟩] at hb; cases hb
  unfold bitsCnt pickTo
  rw [List.length_map, show 64 = n + (64 - n) by omega, List.range_add, List.filter_append, List.length_append]
  have e1 : ((List.range (64 - n)).map (n + ·)).filter (fun i => x.testBit i) = [] := by
    rw [List.filter_eq_nil_iff]
    intro i hi
    obtain ⟨j, -, rfl⟩ := List.mem_map.1 hi
    rw [e]
    have : ¬ (n + j < n) := by omega
    simp [this]
  have e2 : (List.range n).filter (fun i => x.testBit i) = (List.range n).filter p := by
    refine List.filter_congr (fun i hi => ?_)
    rw [List.mem_range] at hi
    rw [e]; simp [hi]
  rw [e1, e2]; rfl
end Go.Proofs.Ytohbnogmeldmpaa

/- How many dominoes can be laid, plainly: both ways to count, and the worst set. -/
namespace Go.Proofs.Ytohbnogmeldmpaa
open Go.RowKit

/-- the light cells beside one -/
def nbN (W T : Int) (bs : List Bool) (d : Nat) : List Nat := (besL W T bs [(d : Int)]).map Int.toNat
theorem mem_bes {W T : Int} {bs : List Bool} {cells : List Int} {l : Nat} : (l : Int) ∈ besL W T bs cells ↔ l < bs.length ∧ bs.getD l false = true ∧ ∃ way : Int, 1 ≤ way ∧ way ≤ 4 ∧ 0 ≤ stepZ W T l way ∧ stepZ W T l way ∈ cells := by
  unfold besL
  rw [mem_pick]
  constructor
  · rintro ⟨i, hi, hp, e⟩
    obtain rfl : l = i := by omega
    unfold isBes at hp
    rw [Bool.and_eq_true, nbr_iff] at hp
    obtain ⟨hb, d, d1, d2, h⟩ := hp
    exact ⟨hi, hb, d, d1, by omega, h⟩
  · rintro ⟨hi, hb, d, d1, d2, h⟩
    refine ⟨l, hi, ?_, rfl⟩
    unfold isBes
    rw [Bool.and_eq_true, nbr_iff]
    exact ⟨hb, d, d1, by omega, h⟩
theorem mem_nb {W T : Int} {bs : List Bool} {d l : Nat} : l ∈ nbN W T bs d ↔ (l : Int) ∈ besL W T bs [(d : Int)] := by
  unfold nbN
  rw [List.mem_map]
  constructor
  · rintro ⟨x, hx, rfl⟩
    have : 0 ≤ x := by
      unfold besL at hx
      obtain ⟨i, -, -, rfl⟩ := mem_pick.1 hx
      omega
    rw [show ((x.toNat : Nat) : Int) = x by omega]; exact hx
  · intro h; exact ⟨_, h, by simp⟩
theorem nb_lt {W T : Int} {bs : List Bool} (d l : Nat) (h : l ∈ nbN W T bs d) : l < bs.length := (mem_bes.1 (mem_nb.1 h)).1
theorem nb_adj {W T : Int} {bs : List Bool} (hf : Fld W T bs) {d : Nat} (hd : d < bs.length) (l : Nat) : l ∈ nbN W T bs d ↔ adjL W T bs d l := by
  have hn := hf.n
  rw [mem_nb, mem_bes]
  unfold adjL
  constructor
  · rintro ⟨hl, hb, way, w1, w2, s0, hs⟩
    have hs' : stepZ W T l way = d := by simpa using hs
    obtain ⟨b1, b2⟩ := back_bd way
    have hr := step_rev (W := W) (T := T) (c := (l : Int)) (d := way) hf.w1 hf.w6 hf.t1 hf.t6 (by omega) (by omega) w1 w2 s0
    rw [hs'] at hr
    exact ⟨backZ way, b1, b2, hr, hb⟩
  · rintro ⟨way, w1, w2, hs, hb⟩
    have hbd := step_bd (W := W) (T := T) (c := (d : Int)) way hf.w1 hf.w6 hf.t1 hf.t6 (by omega) (by omega)
    obtain ⟨b1, b2⟩ := back_bd way
    have hr := step_rev (W := W) (T := T) (c := (d : Int)) (d := way) hf.w1 hf.w6 hf.t1 hf.t6 (by omega) (by omega) w1 w2 (by omega)
    rw [hs] at hr
    exact ⟨by omega, hb, backZ way, b1, b2, by omega, by rw [hr]; simp⟩
def darkNn (W : Int) (bs : List Bool) : List Nat := (List.range bs.length).filter (isCol W bs true)
theorem darkNn_eq (W : Int) (bs : List Bool) : darkL W bs true = (darkNn W bs).map fun i : Nat => (i : Int) := rfl
theorem darkNn_mem {W : Int} {bs : List Bool} {d : Nat} : d ∈ darkNn W bs ↔ d < bs.length ∧ bs.getD d false = true ∧ darkB W d = true := by
  unfold darkNn isCol
  rw [List.mem_filter, List.mem_range]
  simp
theorem darkNn_nodup (W : Int) (bs : List Bool) : (darkNn W bs).Nodup := List.nodup_range.filter _
/-- one dark cell after the other -/
def runF (nb : Nat → List Nat) (f : Nat) : List Nat → (Nat → Option Nat) → Nat → (Nat → Option Nat) × Nat
  | [], M, k => (M, k)
  | d :: ds, M, k => runF nb f ds (tryF nb f M d (fun _ => false)).1 (if (tryF nb f M d (fun _ => false)).2.2 = true then k + 1 else k)
theorem runF_max {nb : Nat → List Nat} {n f : Nat} (hnb : ∀ d l, l ∈ nb d → l < n) (hf : n < f) : ∀ (ds D0 : List Nat) (M : Nat → Option Nat) (k : Nat), (D0 ++ ds).Nodup → IsMax (fun d l => l ∈ nb d) n D0 M → szM M n = k →
    IsMax (fun d l => l ∈ nb d) n (D0 ++ ds) (runF nb f ds M k).1 ∧ szM (runF nb f ds M k).1 n = (runF nb f ds M k).2
  | [], D0, M, k, _, h, hk => by rw [List.append_nil]; exact ⟨h, hk⟩
  | d :: ds, D0, M, k, hnd, h, hk => by
    have hd : d ∉ D0 := fun e => by
      have := (List.nodup_append.1 hnd).2.2 d e d (by simp)
      exact this rfl
    have hk2 : D0 ++ d :: ds = (D0 ++ [d]) ++ ds := by simp
    rw [hk2] at hnd ⊢
    obtain ⟨t1, t2⟩ := try_max hnb h hd hf
    show IsMax _ _ _ (runF nb f ds _ _).1 ∧ szM (runF nb f ds _ _).1 n = (runF nb f ds _ _).2
    cases hr : (tryF nb f M d (fun _ => false)).2.2 with
    | true =>
      obtain ⟨a, b⟩ := t1 hr
      rw [if_pos rfl]
      exact runF_max hnb hf ds (D0 ++ [d]) _ _ hnd a (by omega)
    | false =>
      obtain ⟨a, b⟩ := t2 hr
      rw [if_neg (by simp), a]
      exact runF_max hnb hf ds (D0 ++ [d]) _ _ hnd b hk
/-- how many dominoes can be laid -/
def laidN (W T : Int) (bs : List Bool) : Nat := (runF (nbN W T bs) (bs.length + 1) (darkNn W bs) (fun _ => none) 0).2
def laidZ (W T : Int) (bs : List Bool) : Int := if validB W T bs = true then (laidN W T bs : Int) else -1
theorem szM_zero (n : Nat) : szM (fun _ => none) n = 0 := by unfold szM; simp
theorem laid_max (W T : Int) (bs : List Bool) : ∃ M, IsMax (fun d l => l ∈ nbN W T bs d) bs.length (darkNn W bs) M ∧ szM M bs.length = laidN W T bs := by
  obtain ⟨a, b⟩ := runF_max (nb := nbN W T bs) (n := bs.length) (f := bs.length + 1) nb_lt (by omega) (darkNn W bs) [] (fun _ => none) 0 (by simpa using darkNn_nodup W bs) (IsMax.nil _ _) (szM_zero _)
  exact ⟨_, by simpa using a, b⟩
theorem laid_of {W T : Int} {bs : List Bool} (hf : Fld W T bs) {M : Nat → Option Nat} (h : IsMax (adjL W T bs) bs.length (darkNn W bs) M) : szM M bs.length = laidN W T bs := by
  obtain ⟨M', a, b⟩ := laid_max W T bs
  have h' := h.congr (adj' := fun d l => l ∈ nbN W T bs d) (fun d hd l => (nb_adj hf (darkNn_mem.1 hd).1 l).symm)
  rw [h'.uniq a, b]
theorem laidN_le (W T : Int) (bs : List Bool) : laidN W T bs ≤ bs.length := by
  obtain ⟨M, -, b⟩ := laid_max W T bs
  rw [← b]
  unfold szM
  exact Nat.le_trans List.countP_le_length (by simp)
/-! ### The worst set -/
theorem sel_upN {D : List Int} (hD : D.Pairwise (· < ·)) (s k : Nat) (hk : k ≤ D.length) : (selTo D s k).Pairwise (· < ·) := by
  induction k with
  | zero => exact List.Pairwise.nil
  | succ k ih =>
    have ih := ih (by omega)
    cases h : s.testBit k with
    | false => rw [sel_f h]; exact ih
    | true =>
      rw [sel_t h, List.pairwise_append]
      refine ⟨ih, by simp, fun x hx y hy => ?_⟩
      obtain ⟨i, hi, -, rfl⟩ := sel_mem.1 hx
      simp at hy; subst hy
      rw [List.getD_eq_getElem?_getD]
      have := List.pairwise_iff_getElem.1 hD i k (by omega) (by omega) hi
      rw [List.getElem?_eq_getElem (show i < D.length by omega), List.getElem?_eq_getElem (show k < D.length by omega)]
      exact this
theorem near_bes {W T : Int} {bs : List Bool} {D : List Nat} {p : Nat → Bool} {cells : List Int} (h : ∀ x : Int, x ∈ cells ↔ ∃ d ∈ D, p d = true ∧ x = d) : nearN (nbN W T bs) bs.length D p = (besL W T bs cells).length := by
  unfold nearN besL pickTo
  rw [List.length_map, List.countP_eq_length_filter]
  congr 1
  refine List.filter_congr (fun l hl => ?_)
  rw [List.mem_range] at hl
  have e : (D.any fun d => p d && decide (l ∈ nbN W T bs d)) = true ↔ isBes W T bs cells l = true := by
    unfold isBes
    rw [List.any_eq_true, Bool.and_eq_true, nbr_iff]
    constructor
    · rintro ⟨d, hd, e⟩
      simp only [Bool.and_eq_true, decide_eq_true_eq] at e
      obtain ⟨hp, e⟩ := e
      rw [mem_nb, mem_bes] at e
      obtain ⟨-, hb, way, w1, w2, s0, hs⟩ := e
      exact ⟨hb, way, w1, by omega, s0, (h _).2 ⟨d, hd, hp, by simpa using hs⟩⟩
    · rintro ⟨hb, way, w1, w2, s0, hs⟩
      obtain ⟨d, hd, hp, e⟩ := (h _).1 hs
      refine ⟨d, hd, ?_⟩
      rw [hp, Bool.true_and, decide_eq_true_eq, mem_nb, mem_bes]
      exact ⟨hl, hb, way, w1, by omega, s0, by rw [e]; simp⟩
  rcases Bool.eq_false_or_eq_true (isBes W T bs cells l) with h2 | h2
  · rw [h2]; exact e.2 h2
  · rw [h2]
    cases h3 : (D.any fun d => p d && decide (l ∈ nbN W T bs d)) with
    | false => rfl
    | true => rw [e.1 h3] at h2; cases h2
theorem mask_of (p : Nat → Bool) (k : Nat) : ∃ s, s < 2 ^ k ∧ ∀ i, i < k → s.testBit i = p i := by
  induction k with
  | zero => exact ⟨0, by simp, fun i h => by omega⟩
  | succ k ih =>
    obtain ⟨s, h1, h2⟩ := ih
    cases hp : p k with
    | false =>
      refine ⟨s, by rw [Nat.pow_succ]; omega, fun i hi => ?_⟩
      rcases Nat.lt_or_ge i k with h3 | h3
      · exact h2 i h3
      · obtain rfl : i = k := by omega
        rw [hp, Nat.testBit_lt_two_pow h1]
    | true =>
      refine ⟨s + 2 ^ k, by rw [Nat.pow_succ]; omega, fun i hi => ?_⟩
      rw [Nat.add_comm]
      rcases Nat.lt_or_ge i k with h3 | h3
      · rw [Nat.testBit_two_pow_add_gt h3]; exact h2 i h3
      · obtain rfl : i = k := by omega
        rw [Nat.testBit_two_pow_add_eq, Nat.testBit_lt_two_pow h1, hp]; rfl
theorem best_all (W T : Int) (bs : List Bool) (D : List Int) : ∀ N s, s < N → lackZ W T bs D s ≤ (bestTo W T bs D N).2 := by
  intro M
  induction M with
  | zero => intro s h; omega
  | succ M ih =>
    intro s h
    rw [best_max]
    rcases Nat.lt_or_ge s M with h1 | h1
    · have := ih s h1; omega
    · obtain rfl : s = M := by omega
      omega
/-- the greatest lack is what is missing at most -/
theorem lack_laid (W T : Int) (bs : List Bool) : (bestTo W T bs (darkL W bs true) (2 ^ (darkL W bs true).length)).2 = (darkL W bs true).length - (laidN W T bs : Int) := by
  obtain ⟨M, hM, hsz⟩ := laid_max W T bs
  have hDl : (darkL W bs true).length = (darkNn W bs).length := by rw [darkNn_eq, List.length_map]
  have hup : (darkL W bs true).Pairwise (· < ·) := pick_sorted _ _
  have hDe := darkNn_eq W bs
  -- the set of a mask
  have hset : ∀ s, ∃ p : Nat → Bool, (selTo (darkL W bs true) s (darkL W bs true).length).length = ((darkNn W bs).filter p).length ∧ (besL W T bs (selTo (darkL W bs true) s (darkL W bs true).length)).length = nearN (nbN W T bs) bs.length (darkNn W bs) p := by
    intro s
    have hmem : ∀ x : Int, x ∈ selTo (darkL W bs true) s (darkL W bs true).length ↔ ∃ d ∈ darkNn W bs, decide ((d : Int) ∈ selTo (darkL W bs true) s (darkL W bs true).length) = true ∧ x = d := by
      intro x
      constructor
      · intro hx
        obtain ⟨i, hi, -, e⟩ := sel_mem.1 hx
        have hxm : x ∈ darkL W bs true := by
          rw [← e, List.getD_eq_getElem?_getD, List.getElem?_eq_getElem hi]; exact List.getElem_mem hi
        rw [hDe, List.mem_map] at hxm
        obtain ⟨d, hd, e2⟩ := hxm
        exact ⟨d, hd, by rw [decide_eq_true_eq, e2]; exact hx, e2.symm⟩
      · rintro ⟨d, -, h1, rfl⟩; simpa using h1
    refine ⟨fun d => decide ((d : Int) ∈ selTo (darkL W bs true) s (darkL W bs true).length), ?_, (near_bes hmem).symm⟩
    have hs1 := sel_upN hup s _ (Nat.le_refl _)
    have hs2 : (((darkNn W bs).filter fun d : Nat => decide ((d : Int) ∈ selTo (darkL W bs true) s (darkL W bs true).length)).map fun i : Nat => (i : Int)).Pairwise (· < ·) := by
      rw [hDe] at hup
      rw [List.pairwise_map] at hup ⊢
      exact hup.filter _
    have e := congrArg List.length (lt_unique hs1 hs2 (fun x => by
      rw [hmem, List.mem_map]
      constructor
      · rintro ⟨d, h1, h2, h3⟩; exact ⟨d, by rw [List.mem_filter]; exact ⟨h1, h2⟩, h3.symm⟩
      · rintro ⟨d, h1, h2⟩; rw [List.mem_filter] at h1; exact ⟨d, h1.1, h1.2, h2.symm⟩))
    rw [List.length_map] at e
    exact e
  have hle : ∀ s, lackZ W T bs (darkL W bs true) s ≤ (darkL W bs true).length - (laidN W T bs : Int) := by
    intro s
    obtain ⟨p, e1, e2⟩ := hset s
    have := kon_le hM.1 p
    unfold lackZ
    rw [e1, e2, hDl]
    omega
  have hpow : 2 ^ (darkL W bs true).length = (2 ^ (darkL W bs true).length - 1) + 1 := by have := Nat.one_le_two_pow (n := (darkL W bs true).length); omega
  obtain ⟨h1, h2, -⟩ := best_at W T bs (darkL W bs true) (2 ^ (darkL W bs true).length - 1)
  rw [← hpow] at h1 h2
  have hlo : (bestTo W T bs (darkL W bs true) (2 ^ (darkL W bs true).length)).2 ≤ (darkL W bs true).length - (laidN W T bs : Int) := by rw [← h2]; exact hle _
  obtain ⟨p, hp⟩ := kon_ge nb_lt (darkNn_nodup W bs) hM
  obtain ⟨s, hs, hb⟩ := mask_of (fun i => p ((darkL W bs true).getD i 0).toNat) (darkL W bs true).length
  have hge := best_all W T bs (darkL W bs true) _ s hs
  have hmem : ∀ x : Int, x ∈ selTo (darkL W bs true) s (darkL W bs true).length ↔ ∃ d ∈ darkNn W bs, p d = true ∧ x = d := by
    intro x
    rw [sel_mem]
    constructor
    · rintro ⟨i, hi, hbi, e⟩
      rw [hb i hi, e] at hbi
      have hxm : x ∈ darkL W bs true := by
        rw [← e, List.getD_eq_getElem?_getD, List.getElem?_eq_getElem hi]; exact List.getElem_mem hi
      rw [hDe, List.mem_map] at hxm
      obtain ⟨d, hd, e2⟩ := hxm
      exact ⟨d, hd, by rw [← e2, Int.toNat_natCast] at hbi; exact hbi, e2.symm⟩
    · rintro ⟨d, hd, hpd, rfl⟩
      have : (d : Int) ∈ darkL W bs true := by rw [hDe, List.mem_map]; exact ⟨d, hd, rfl⟩
      obtain ⟨i, hi, e⟩ := List.getElem_of_mem this
      have e2 : (darkL W bs true).getD i 0 = d := by rw [List.getD_eq_getElem?_getD, List.getElem?_eq_getElem hi]; exact e
      exact ⟨i, hi, by rw [hb i hi, e2, Int.toNat_natCast]; exact hpd, e2⟩
  have hs1 := sel_upN hup s _ (Nat.le_refl _)
  have hs2 : (((darkNn W bs).filter p).map fun i : Nat => (i : Int)).Pairwise (· < ·) := by
    have hup' := hup
    rw [hDe] at hup'
    rw [List.pairwise_map] at hup' ⊢
    exact hup'.filter _
  have hlen : (selTo (darkL W bs true) s (darkL W bs true).length).length = ((darkNn W bs).filter p).length := by
    have e := congrArg List.length (lt_unique hs1 hs2 (fun x => by
      rw [hmem, List.mem_map]
      constructor
      · rintro ⟨d, h1, h2, h3⟩; exact ⟨d, by rw [List.mem_filter]; exact ⟨h1, h2⟩, h3.symm⟩
      · rintro ⟨d, h1, h2⟩; rw [List.mem_filter] at h1; exact ⟨d, h1.1, h1.2, h2.symm⟩))
    rw [List.length_map] at e
    exact e
  have hz : lackZ W T bs (darkL W bs true) s = ((darkNn W bs).filter p).length - (nearN (nbN W T bs) bs.length (darkNn W bs) p : Int) := by
    unfold lackZ; rw [hlen, ← near_bes hmem]
  omega
end Go.Proofs.Ytohbnogmeldmpaa

/- How many tilings, counted with what is known, plainly. -/
namespace Go.Proofs.Ytohbnogmeldmpaa
open Go.RowKit

/-- what a covered list is known by -/
def bitU (b : Bool) : UInt8 := if b = true then 49 else 48
def keyB (c : Nat) (cov : List Bool) : List UInt8 := UInt8.ofNat c :: (cov.drop c).map bitU
theorem bitU_inj {a b : Bool} (h : bitU a = bitU b) : a = b := by cases a <;> cases b <;> simp_all [bitU]
theorem map_bitU : ∀ {a b : List Bool}, a.map bitU = b.map bitU → a = b
  | [], [], _ => rfl
  | [], _ :: _, h => by simp at h
  | _ :: _, [], h => by simp at h
  | x :: a, y :: b, h => by
    simp only [List.map_cons, List.cons.injEq] at h
    rw [bitU_inj h.1, map_bitU h.2]
theorem key_inj {c c' : Nat} {cov cov' : List Bool} (h1 : c < 256) (h2 : c' < 256) (h : keyB c cov = keyB c' cov') : c = c' ∧ cov.drop c = cov'.drop c' := by
  unfold keyB at h
  simp only [List.cons.injEq] at h
  obtain ⟨ha, hb⟩ := h
  refine ⟨?_, map_bitU hb⟩
  have := congrArg UInt8.toNat ha
  rw [UInt8.toNat_ofNat', UInt8.toNat_ofNat'] at this
  omega
theorem free_of_key {c : Nat} {bs cov cov' : List Bool} (l1 : cov.length = bs.length) (l2 : cov'.length = bs.length) (hd : cov.drop c = cov'.drop c)
    (f1 : ∀ k (hk : k < (freeL bs cov).length), k < c → (freeL bs cov)[k] = false) (f2 : ∀ k (hk : k < (freeL bs cov').length), k < c → (freeL bs cov')[k] = false) : freeL bs cov = freeL bs cov' := by
  have e1 := freeL_len l1
  have e2 := freeL_len l2
  apply List.ext_getElem
  · omega
  · intro i h1 h2
    rcases Nat.lt_or_ge i c with h | h
    · rw [f1 i h1 h, f2 i h2 h]
    · rw [freeL_get (by omega) (by omega), freeL_get (by omega) (by omega)]
      have : cov[i]'(by omega) = cov'[i]'(by omega) := by
        have a : (cov.drop c)[i - c]? = (cov'.drop c)[i - c]? := by rw [hd]
        rw [List.getElem?_drop, List.getElem?_drop, show c + (i - c) = i by omega, List.getElem?_eq_getElem (by omega), List.getElem?_eq_getElem (by omega)] at a
        injection a
      rw [this]
theorem firstB_pre {F : List Bool} {c : Nat} (h : firstB F = c) : ∀ k (hk : k < F.length), k < c → F[k] = false := fun k hk hkc => firstB_f (by omega) hk
theorem clear_cnt {W T : Int} {F : List Bool} {c : Nat} (d : Int) (hc : c < F.length) (h : F[c] = true) : cnt (clearL F (barL W T F d 2 c)) + 1 ≤ cnt F := cnt_bar (by omega) hc h
theorem til_full {W T : Int} {long f : Nat} {F : List Bool} (h : firstB F = F.length) : barsN W T long f F = 1 := by
  cases f with
  | zero => rfl
  | succ f => rw [barsN, if_pos h]
theorem barsN_stab {W T : Int} : ∀ (f f' : Nat) (F : List Bool), cnt F ≤ f → f ≤ f' → barsN W T 2 f' F = barsN W T 2 f F
  | 0, f', F, hc, hf => by
    have h : firstB F = F.length := by
      rcases Nat.lt_or_ge (firstB F) F.length with h | h
      · have h1 := firstB_t h
        have h2 := cnt_set_lt F (firstB F) h h1
        have h3 := (cnt_le (F.set (firstB F) false)).1
        omega
      · have := firstB_le F; omega
    rw [til_full h, til_full h]
  | f + 1, f', F, hc, hf => by
    obtain ⟨f'', rfl⟩ : ∃ f'', f' = f'' + 1 := ⟨f' - 1, by omega⟩
    rw [barsN, barsN]
    by_cases h : firstB F = F.length
    · rw [if_pos h, if_pos h]
    · rw [if_neg h, if_neg h]
      have hlt : firstB F < F.length := by have := firstB_le F; omega
      have ht := firstB_t hlt
      have hp : ∀ d, partB W T 2 (barsN W T 2 f'') F (firstB F) d = partB W T 2 (barsN W T 2 f) F (firstB F) d := fun d => by
        unfold partB
        split
        · have := clear_cnt (W := W) (T := T) d hlt ht
          exact barsN_stab f f'' _ (by omega) (by omega)
        · rfl
      have hs : ∀ k, sumB W T 2 (barsN W T 2 f'') F (firstB F) k = sumB W T 2 (barsN W T 2 f) F (firstB F) k := by
        intro k
        induction k with
        | zero => rfl
        | succ k ih => rw [sumB, sumB, ih, hp]
      exact hs 2
def tilN (W T : Int) (F : List Bool) : Int := barsN W T 2 24 F
theorem barsN_rec {W T : Int} {F : List Bool} {c f : Nat} (hc : cnt F ≤ (f : Int) + 1) (h : firstB F = c) (hlt : c < F.length) : barsN W T 2 (f + 1) F = sumB W T 2 (barsN W T 2 (f + 1)) F c 2 := by
  subst h
  have ht := firstB_t hlt
  have hp : ∀ d, partB W T 2 (barsN W T 2 f) F (firstB F) d = partB W T 2 (barsN W T 2 (f + 1)) F (firstB F) d := fun d => by
    unfold partB
    split
    · have := clear_cnt (W := W) (T := T) d hlt ht
      exact (barsN_stab f (f + 1) _ (by omega) (by omega)).symm
    · rfl
  have hs : ∀ k, sumB W T 2 (barsN W T 2 f) F (firstB F) k = sumB W T 2 (barsN W T 2 (f + 1)) F (firstB F) k := by
    intro k
    induction k with
    | zero => rfl
    | succ k ih => rw [sumB, sumB, ih, hp]
  rw [← hs 2]
  conv => lhs; rw [barsN, if_neg (show ¬ firstB F = F.length by omega)]
theorem tilN_rec {W T : Int} {F : List Bool} {c : Nat} (hc : cnt F ≤ 24) (h : firstB F = c) (hlt : c < F.length) : tilN W T F = sumB W T 2 (tilN W T) F c 2 :=
  barsN_rec (f := 23) (by omega) h hlt
theorem tilN_none {W T : Int} {F : List Bool} (h : firstB F = F.length) : tilN W T F = 1 := by
  exact til_full h
theorem part_f {W T : Int} {rec : List Bool → Int} {F : List Bool} {c : Nat} {d : Int} (hc : c < F.length) (h : F[c] = true) (hs : stepZ W T c d < 0 ∨ F.getD (stepZ W T c d).toNat false = false) : partB W T 2 rec F c d = 0 := by
  unfold partB
  rw [if_neg]
  rintro ⟨hl, -⟩
  rw [barL_head hc h] at hl
  have : barL W T F d 1 (stepZ W T c d) = [] := by
    show (if _ then _ else _) = _
    rw [if_neg]
    rintro ⟨h1, h2⟩
    rcases hs with hs | hs
    · omega
    · rw [hs] at h2; cases h2
  rw [this] at hl
  simp at hl
theorem part_t {W T : Int} {rec : List Bool → Int} {F : List Bool} {c s : Nat} {d : Int} (hc : c < F.length) (h : F[c] = true) (hs : stepZ W T c d = (s : Int)) (hF : F.getD s false = true) : partB W T 2 rec F c d = rec ((F.set c false).set s false) := by
  have e : barL W T F d 2 c = [(c : Int), (s : Int)] := by
    rw [barL_head hc h, hs]
    congr 1
    show (if _ then _ else _) = _
    rw [if_pos ⟨by omega, by simpa using hF⟩]
    rfl
  unfold partB
  rw [e, if_pos ⟨rfl, .inl (by omega)⟩]
  rfl
theorem tilN_bd {W T : Int} (F : List Bool) : 0 ≤ tilN W T F ∧ tilN W T F ≤ 16777216 := by
  have h := barsN_bd W T 2 24 F
  unfold tilN
  have e : (2 : Int) ^ 24 = 16777216 := by decide
  omega
end Go.Proofs.Ytohbnogmeldmpaa

/- Tilings are there exactly if all cells can be laid, plainly. -/
namespace Go.Proofs.Ytohbnogmeldmpaa
open Go.RowKit

/-- cells in pairs -/
def PM (W T : Int) (F : List Bool) : Prop := ∃ g : Nat → Nat, ∀ k, k < F.length → F.getD k false = true → g k < F.length ∧ F.getD (g k) false = true ∧ g (g k) = k ∧ ∃ way : Int, 1 ≤ way ∧ way ≤ 4 ∧ stepZ W T k way = (g k : Int)
theorem cnt_none {F : List Bool} (h : cnt F ≤ 0) (k : Nat) : F.getD k false = false := by
  rcases Nat.lt_or_ge k F.length with hk | hk
  · cases e : F[k] with
    | false => rw [List.getD_eq_getElem?_getD, List.getElem?_eq_getElem hk]; exact e
    | true =>
      have h1 := cnt_set_lt F k hk e
      have h2 := (cnt_le (F.set k false)).1
      omega
  · rw [List.getD_eq_getElem?_getD, List.getElem?_eq_none hk]; rfl
theorem first_none {F : List Bool} (h : firstB F = F.length) (k : Nat) : F.getD k false = false := by
  rcases Nat.lt_or_ge k F.length with hk | hk
  · rw [List.getD_eq_getElem?_getD, List.getElem?_eq_getElem hk]; exact firstB_f (by omega) hk
  · rw [List.getD_eq_getElem?_getD, List.getElem?_eq_none hk]; rfl
theorem getD2 {F : List Bool} {c s k : Nat} (hc : c < F.length) (hs : s < F.length) : ((F.set c false).set s false).getD k false = if k = s then false else if k = c then false else F.getD k false := by
  rw [getD_set _ false false s k (by simpa using hs), getD_set _ false false c k hc]
theorem getD_lt {F : List Bool} {k : Nat} (h : F.getD k false = true) : k < F.length := by
  rcases Nat.lt_or_ge k F.length with hk | hk
  · exact hk
  · rw [List.getD_eq_getElem?_getD, List.getElem?_eq_none hk] at h; cases h
theorem getD_el {F : List Bool} {k : Nat} (hk : k < F.length) : F.getD k false = F[k] := by rw [List.getD_eq_getElem?_getD, List.getElem?_eq_getElem hk]; rfl
theorem pos_pm {W T : Int} (h1 : 1 ≤ W) (h2 : W ≤ 6) (h3 : 1 ≤ T) (h4 : T ≤ 6) : ∀ (f : Nat) (F : List Bool), (F.length : Int) = W * T → cnt F ≤ f → 0 < barsN W T 2 f F → PM W T F
  | 0, F, _, hc, _ => ⟨id, fun k _ h => by rw [cnt_none (by omega)] at h; cases h⟩
  | f + 1, F, hl, hc, hp => by
    by_cases hF : firstB F = F.length
    · exact ⟨id, fun k _ h => by rw [first_none hF] at h; cases h⟩
    · have hlt : firstB F < F.length := by have := firstB_le F; omega
      have ht := firstB_t hlt
      rw [barsN, if_neg hF] at hp
      generalize firstB F = c at *
      have hnn : ∀ G, 0 ≤ barsN W T 2 f G := fun G => (barsN_bd W T 2 f G).1
      have hpart : ∀ d : Int, 0 < partB W T 2 (barsN W T 2 f) F c d → ∃ s : Nat, stepZ W T c d = (s : Int) ∧ F.getD s false = true ∧ 0 < barsN W T 2 f ((F.set c false).set s false) := fun d hd => by
        by_cases hs : stepZ W T c d < 0 ∨ F.getD (stepZ W T c d).toNat false = false
        · rw [part_f hlt ht hs] at hd; omega
        · have hs0 : 0 ≤ stepZ W T c d := by
            rcases Int.lt_or_le (stepZ W T c d) 0 with h | h
            · exact absurd (.inl h) hs
            · exact h
          obtain ⟨s, e⟩ := Int.eq_ofNat_of_zero_le hs0
          have hFs : F.getD s false = true := by
            cases e2 : F.getD s false with
            | true => rfl
            | false => exact absurd (.inr (by rw [e, Int.toNat_natCast]; exact e2)) hs
          rw [part_t hlt ht e hFs] at hd
          exact ⟨s, e, hFs, hd⟩
      have hex : ∃ d : Int, 1 ≤ d ∧ d ≤ 4 ∧ 0 < partB W T 2 (barsN W T 2 f) F c d := by
        have e : sumB W T 2 (barsN W T 2 f) F c 2 = 0 + partB W T 2 (barsN W T 2 f) F c (((0 : Nat) : Int) + 1) + partB W T 2 (barsN W T 2 f) F c (((1 : Nat) : Int) + 1) := rfl
        rw [e] at hp
        rcases Int.lt_or_le 0 (partB W T 2 (barsN W T 2 f) F c (((0 : Nat) : Int) + 1)) with h | h
        · exact ⟨_, by omega, by omega, h⟩
        · exact ⟨((1 : Nat) : Int) + 1, by omega, by omega, by omega⟩
      obtain ⟨d, d1, d4, hd⟩ := hex
      obtain ⟨s, e, hFs, hps⟩ := hpart d hd
      have hs := getD_lt hFs
      have hsc : s ≠ c := fun x => by
        have := step_neq (W := W) (T := T) (c := (c : Int)) (d := d) h1 (by omega)
        rw [e, x] at this; exact this rfl
      have hc2 : cnt ((F.set c false).set s false) ≤ f := by
        have a := cnt_set_lt F c hlt ht
        have b := cnt_set_le (F.set c false) s
        omega
      obtain ⟨g, hg⟩ := pos_pm h1 h2 h3 h4 f ((F.set c false).set s false) (by simpa using hl) hc2 hps
      have hr := step_rev (W := W) (T := T) (c := (c : Int)) (d := d) h1 h2 h3 h4 (by omega) (by omega) d1 d4 (by omega)
      rw [e] at hr
      have hb := back_bd d
      refine ⟨fun k => if k = c then s else if k = s then c else g k, fun k hk hFk => ?_⟩
      by_cases hkc : k = c
      · subst hkc
        simp only [if_true, if_neg hsc]
        exact ⟨hs, hFs, trivial, d, d1, d4, e⟩
      · by_cases hks : k = s
        · subst hks
          simp only [if_true, if_neg hsc]
          exact ⟨hlt, by rw [getD_el hlt]; exact ht, trivial, backZ d, hb.1, hb.2, hr⟩
        · obtain ⟨g1, g2, g3, g4⟩ := hg k (by simpa using hk) (by rw [getD2 hlt hs, if_neg hks, if_neg hkc]; exact hFk)
          rw [getD2 hlt hs] at g2
          have n1 : g k ≠ s := fun x => by rw [if_pos x] at g2; cases g2
          have n2 : g k ≠ c := fun x => by rw [if_neg n1, if_pos x] at g2; cases g2
          rw [if_neg n1, if_neg n2] at g2
          simp only [if_neg hkc, if_neg hks, if_neg n1, if_neg n2]
          exact ⟨by simpa using g1, g2, g3, g4⟩
theorem pm_pos {W T : Int} (h1 : 1 ≤ W) : ∀ (f : Nat) (F : List Bool), cnt F ≤ f → PM W T F → 0 < barsN W T 2 f F
  | 0, F, hc, _ => by show (0 : Int) < 1; omega
  | f + 1, F, hc, hpm => by
    by_cases hF : firstB F = F.length
    · rw [barsN, if_pos hF]; omega
    · have hlt : firstB F < F.length := by have := firstB_le F; omega
      have ht := firstB_t hlt
      have hfirst := fun k (hk : k < F.length) (h : k < firstB F) => firstB_f h hk
      rw [barsN, if_neg hF]
      generalize firstB F = c at *
      obtain ⟨g, hg⟩ := hpm
      obtain ⟨g1, g2, g3, way, w1, w2, hw⟩ := hg c hlt (by rw [getD_el hlt]; exact ht)
      have hsc : g c ≠ c := fun x => by
        have := step_neq (W := W) (T := T) (c := (c : Int)) (d := way) h1 (by omega)
        rw [hw, x] at this; exact this rfl
      have hgt : c < g c := by
        rcases Nat.lt_or_ge (g c) c with h | h
        · have := hfirst (g c) g1 h
          rw [getD_el g1, this] at g2; cases g2
        · omega
      have hw12 : way = 1 ∨ way = 2 := by
        rcases (show way = 1 ∨ way = 2 ∨ way = 3 ∨ way = 4 from by omega) with rfl | rfl | rfl | rfl
        · exact .inl rfl
        · exact .inr rfl
        · rw [step3] at hw; split at hw <;> omega
        · rw [step4] at hw; split at hw <;> omega
      have hc2 : cnt ((F.set c false).set (g c) false) ≤ f := by
        have a := cnt_set_lt F c hlt ht
        have b := cnt_set_le (F.set c false) (g c)
        omega
      have hrec := pm_pos h1 f ((F.set c false).set (g c) false) hc2 ⟨g, fun k hk hFk => by
        rw [getD2 hlt g1] at hFk
        have n1 : k ≠ g c := fun x => by rw [if_pos x] at hFk; cases hFk
        have n2 : k ≠ c := fun x => by rw [if_neg n1, if_pos x] at hFk; cases hFk
        rw [if_neg n1, if_neg n2] at hFk
        obtain ⟨a1, a2, a3, a4⟩ := hg k (by simpa using hk) hFk
        refine ⟨by simpa using a1, ?_, a3, a4⟩
        rw [getD2 hlt g1, if_neg (fun x => n2 (by rw [← a3, x, g3])), if_neg (fun x => n1 (by rw [← a3, x]))]
        exact a2⟩
      have hp := part_t (W := W) (T := T) (rec := barsN W T 2 f) hlt ht hw g2
      have hnn : ∀ d, 0 ≤ partB W T 2 (barsN W T 2 f) F c d := fun d => by
        unfold partB; split
        · exact (barsN_bd W T 2 f _).1
        · omega
      have e : sumB W T 2 (barsN W T 2 f) F c 2 = 0 + partB W T 2 (barsN W T 2 f) F c (((0 : Nat) : Int) + 1) + partB W T 2 (barsN W T 2 f) F c (((1 : Nat) : Int) + 1) := rfl
      rw [e]
      have n1 := hnn (((0 : Nat) : Int) + 1)
      have n2 := hnn (((1 : Nat) : Int) + 1)
      rcases hw12 with rfl | rfl
      · rw [← hp] at hrec
        have : partB W T 2 (barsN W T 2 f) F c (((0 : Nat) : Int) + 1) = partB W T 2 (barsN W T 2 f) F c 1 := rfl
        omega
      · rw [← hp] at hrec
        have : partB W T 2 (barsN W T 2 f) F c (((1 : Nat) : Int) + 1) = partB W T 2 (barsN W T 2 f) F c 2 := rfl
        omega
/-! ### Pairs and dominoes -/
def lightC (W : Int) (bs : List Bool) (n : Nat) : Nat := (List.range n).countP fun k => bs.getD k false && !darkB W k
theorem cnt_split (W : Int) (bs : List Bool) : cnt bs = ((darkNn W bs).length : Int) + lightC W bs bs.length := by
  have key : ∀ m, m ≤ bs.length → cnt (bs.take m) = (((List.range m).countP fun k => bs.getD k false && darkB W k : Nat) : Int) + ((List.range m).countP fun k => bs.getD k false && !darkB W k : Nat) := by
    intro m
    induction m with
    | zero => intro _; rfl
    | succ m ih =>
      intro hm
      have ih := ih (by omega)
      have hg : bs.getD m false = bs[m] := getD_el (by omega)
      rw [cnt_step bs m (by omega), ih, List.range_succ, List.countP_append, List.countP_append]
      simp only [List.countP_cons, List.countP_nil, hg]
      cases bs[m] <;> cases darkB W m <;> simp <;> omega
  have h := key bs.length (Nat.le_refl _)
  rw [List.take_length] at h
  rw [h]
  unfold lightC darkNn
  rw [← List.countP_eq_length_filter]
  have e : (List.range bs.length).countP (isCol W bs true) = (List.range bs.length).countP fun k => bs.getD k false && darkB W k := by
    refine List.countP_congr (fun k _ => ?_)
    unfold isCol
    cases bs.getD k false <;> cases darkB W k <;> simp
  rw [e]
theorem pm_colour {W T : Int} {F : List Bool} {k g : Nat} (hf : Fld W T F) {way : Int} (hw : stepZ W T k way = (g : Int)) : darkB W g = !darkB W k := by
  have h := dark_step (W := W) (T := T) (c := (k : Int)) way hf.w1 hf.w6 (by omega)
  rw [hw] at h
  exact h
theorem laid_le_dark (W T : Int) (bs : List Bool) : laidN W T bs ≤ (darkNn W bs).length := by
  obtain ⟨M, hM, hs⟩ := laid_max W T bs
  rw [← hs]
  refine Nat.le_trans ?_ (inj_count bs.length hM.1.inj (darkNn W bs))
  unfold szM
  refine List.countP_mono_left (fun l _ hl => ?_)
  obtain ⟨d, hd⟩ := Option.isSome_iff_exists.1 hl
  exact List.any_eq_true.2 ⟨d, (hM.1.edge l d hd).2.1, by simp [hd]⟩
theorem mat_light {W T : Int} {bs : List Bool} (hf : Fld W T bs) {M : Nat → Option Nat} (h : IsM (adjL W T bs) bs.length (darkNn W bs) M) {l d : Nat} (e : M l = some d) : bs.getD l false = true ∧ darkB W l = false := by
  obtain ⟨-, e2, way, w1, w2, hs, hb⟩ := h.edge l d e
  refine ⟨hb, ?_⟩
  rw [pm_colour hf hs, (darkNn_mem.1 e2).2.2]; rfl
theorem laid_le_light {W T : Int} {bs : List Bool} (hf : Fld W T bs) : laidN W T bs ≤ lightC W bs bs.length := by
  obtain ⟨M, hM, hs⟩ := laid_max W T bs
  have hM' := hM.1.congr (adj' := adjL W T bs) (fun d hd l => nb_adj hf (darkNn_mem.1 hd).1 l)
  rw [← hs]
  unfold szM lightC
  refine List.countP_mono_left (fun l _ hl => ?_)
  obtain ⟨d, hd⟩ := Option.isSome_iff_exists.1 hl
  obtain ⟨a, b⟩ := mat_light hf hM' hd
  rw [a, b]; rfl
theorem pm_laid {W T : Int} {bs : List Bool} (hf : Fld W T bs) (h : PM W T bs) : (2 : Int) * laidN W T bs = cnt bs := by
  obtain ⟨g, hg⟩ := h
  have hM : IsM (adjL W T bs) bs.length (darkNn W bs) (fun l => if bs.getD l false = true ∧ darkB W l = false then some (g l) else none) := by
    have key : ∀ l d, (if bs.getD l false = true ∧ darkB W l = false then some (g l) else none) = some d → bs.getD l false = true ∧ darkB W l = false ∧ g l = d := fun l d e => by
      by_cases hc : bs.getD l false = true ∧ darkB W l = false
      · rw [if_pos hc] at e; injection e with e; exact ⟨hc.1, hc.2, e⟩
      · rw [if_neg hc] at e; cases e
    refine ⟨fun l d e => ?_, fun l l' d e e' => ?_⟩
    · obtain ⟨a, b, rfl⟩ := key l d e
      have hl := getD_lt a
      obtain ⟨g1, g2, g3, way, w1, w2, hw⟩ := hg l hl a
      have hn := hf.n
      have hr := step_rev (W := W) (T := T) (c := (l : Int)) (d := way) hf.w1 hf.w6 hf.t1 hf.t6 (by omega) (by omega) w1 w2 (by omega)
      rw [hw] at hr
      have hb := back_bd way
      exact ⟨hl, darkNn_mem.2 ⟨g1, g2, by rw [pm_colour hf hw, b]; rfl⟩, backZ way, hb.1, hb.2, hr, a⟩
    · obtain ⟨a, -, e1⟩ := key l d e
      obtain ⟨a', -, e2⟩ := key l' d e'
      have h1 := (hg l (getD_lt a) a).2.2.1
      have h2 := (hg l' (getD_lt a') a').2.2.1
      rw [e1] at h1; rw [e2] at h2; omega
  have hsz : szM (fun l => if bs.getD l false = true ∧ darkB W l = false then some (g l) else none) bs.length = lightC W bs bs.length := by
    unfold szM lightC
    refine List.countP_congr (fun l _ => ?_)
    have key : ∀ u v : Bool, ((if u = true ∧ v = false then some (g l) else none).isSome = true ↔ (u && !v) = true) := by
      intro u v; cases u <;> cases v <;> simp
    exact key _ _
  have hle : lightC W bs bs.length ≤ laidN W T bs := by
    obtain ⟨M, hMx, hs⟩ := laid_max W T bs
    rw [← hsz, ← hs]
    exact hMx.2 _ (hM.congr (fun d hd l => (nb_adj hf (darkNn_mem.1 hd).1 l).symm))
  have hdl : (darkNn W bs).length ≤ lightC W bs bs.length := by
    have hinj : ∀ l l' d, (if bs.getD l false = true ∧ darkB W l = true then some (g l) else none) = some d → (if bs.getD l' false = true ∧ darkB W l' = true then some (g l') else none) = some d → l = l' := fun l l' d e e' => by
      by_cases hc : bs.getD l false = true ∧ darkB W l = true
      · by_cases hc' : bs.getD l' false = true ∧ darkB W l' = true
        · rw [if_pos hc] at e; rw [if_pos hc'] at e'
          injection e with e; injection e' with e'
          have h1 := (hg l (getD_lt hc.1) hc.1).2.2.1
          have h2 := (hg l' (getD_lt hc'.1) hc'.1).2.2.1
          rw [e] at h1; rw [e'] at h2; omega
        · rw [if_neg hc'] at e'; cases e'
      · rw [if_neg hc] at e; cases e
    have h1 := inj_count (M := fun l => if bs.getD l false = true ∧ darkB W l = true then some (g l) else none) bs.length hinj ((List.range bs.length).filter fun k => bs.getD k false && !darkB W k)
    rw [← List.countP_eq_length_filter] at h1
    refine Nat.le_trans ?_ h1
    unfold darkNn
    rw [← List.countP_eq_length_filter]
    refine List.countP_mono_left (fun d hd hc => ?_)
    unfold isCol at hc
    have hc' : bs.getD d false = true ∧ darkB W d = true := by
      rw [Bool.and_eq_true] at hc
      exact ⟨hc.1, by simpa using hc.2⟩
    obtain ⟨g1, g2, g3, way, w1, w2, hw⟩ := hg d (getD_lt hc'.1) hc'.1
    refine List.any_eq_true.2 ⟨g d, List.mem_filter.2 ⟨List.mem_range.2 g1, by rw [g2, pm_colour hf hw, hc'.2]; rfl⟩, ?_⟩
    rw [if_pos hc']; simp
  have h1 := laid_le_dark W T bs
  have h2 := cnt_split W bs
  omega
theorem laid_pm {W T : Int} {bs : List Bool} (hf : Fld W T bs) (h : (2 : Int) * laidN W T bs = cnt bs) : PM W T bs := by
  have h1 := laid_le_dark W T bs
  have h2 := cnt_split W bs
  have h3 := laid_le_light hf
  obtain ⟨M, hMx, hs⟩ := laid_max W T bs
  have hM := hMx.1.congr (adj' := adjL W T bs) (fun d hd l => nb_adj hf (darkNn_mem.1 hd).1 l)
  have hn := hf.n
  -- every light cell has an owner
  have hlight : ∀ l, l < bs.length → bs.getD l false = true → darkB W l = false → ∃ d, M l = some d := by
    have key : ∀ m, m ≤ bs.length → (List.range m).countP (fun l => (M l).isSome) ≤ (List.range m).countP (fun k => bs.getD k false && !darkB W k) ∧ ((List.range m).countP (fun l => (M l).isSome) = (List.range m).countP (fun k => bs.getD k false && !darkB W k) → ∀ l, l < m → bs.getD l false = true → darkB W l = false → ∃ d, M l = some d) := by
      intro m
      induction m with
      | zero => intro _; exact ⟨by simp, fun _ l hl => by omega⟩
      | succ m ih =>
        intro hm
        obtain ⟨i1, i2⟩ := ih (by omega)
        rw [List.range_succ, List.countP_append, List.countP_append]
        simp only [List.countP_cons, List.countP_nil]
        generalize (List.range m).countP (fun l => (M l).isSome) = ca at *
        generalize (List.range m).countP (fun k => bs.getD k false && !darkB W k) = cb at *
        cases hMm : M m with
        | none =>
          cases hb : (bs.getD m false && !darkB W m) with
          | false =>
            refine ⟨by simp; exact i1, fun e l hl a b => ?_⟩
            simp at e
            rcases Nat.lt_or_ge l m with h4 | h4
            · exact i2 e l h4 a b
            · obtain rfl : l = m := by omega
              rw [a, b] at hb; cases hb
          | true => exact ⟨by simp; omega, fun e => by simp at e; omega⟩
        | some d =>
          obtain ⟨a', b'⟩ := mat_light hf hM hMm
          rw [a', b']
          refine ⟨by simp; exact i1, fun e l hl a b => ?_⟩
          simp at e
          rcases Nat.lt_or_ge l m with h4 | h4
          · exact i2 e l h4 a b
          · obtain rfl : l = m := by omega
            exact ⟨d, hMm⟩
    obtain ⟨k1, k2⟩ := key bs.length (Nat.le_refl _)
    exact k2 (by
      have e : (List.range bs.length).countP (fun l => (M l).isSome) = laidN W T bs := hs
      have e2 : (List.range bs.length).countP (fun k => bs.getD k false && !darkB W k) = lightC W bs bs.length := rfl
      omega)
  -- every dark cell owns one
  have hdark : ∀ d, d ∈ darkNn W bs → ∃ l, M l = some d := fun d hd => by
    by_cases hex : ∃ l, M l = some d
    · exact hex
    · exfalso
      have h5 := inj_count bs.length hM.inj ((darkNn W bs).erase d)
      have h6 : szM M bs.length ≤ ((List.range bs.length).countP fun l => ((darkNn W bs).erase d).any fun d => M l == some d) := by
        unfold szM
        refine List.countP_mono_left (fun l _ hl => ?_)
        obtain ⟨d', hd'⟩ := Option.isSome_iff_exists.1 hl
        have hne : d' ≠ d := fun x => hex ⟨l, by rw [hd', x]⟩
        exact List.any_eq_true.2 ⟨d', (List.mem_erase_of_ne hne).2 (hM.edge l d' hd').2.1, by simp [hd']⟩
      rw [List.length_erase_of_mem hd] at h5
      have h7 := List.length_pos_of_mem hd
      omega
  have hch : ∀ k, ∃ j, k < bs.length → bs.getD k false = true → (darkB W k = false → M k = some j) ∧ (darkB W k = true → M j = some k) := fun k => by
    by_cases hk : k < bs.length ∧ bs.getD k false = true
    · cases hc : darkB W k with
      | false =>
        obtain ⟨d, hd⟩ := hlight k hk.1 hk.2 hc
        exact ⟨d, fun _ _ => ⟨fun _ => hd, (fun x => by cases x)⟩⟩
      | true =>
        obtain ⟨l, hl⟩ := hdark k (darkNn_mem.2 ⟨hk.1, hk.2, hc⟩)
        exact ⟨l, fun _ _ => ⟨(fun x => by cases x), fun _ => hl⟩⟩
    · exact ⟨0, fun a b => absurd ⟨a, b⟩ hk⟩
  obtain ⟨g, hg⟩ := Classical.axiomOfChoice hch
  refine ⟨g, fun k hk hFk => ?_⟩
  obtain ⟨p1, p2⟩ := hg k hk hFk
  cases hc : darkB W k with
  | false =>
    have e := p1 hc
    obtain ⟨-, e2, way, w1, w2, hs2, hb⟩ := hM.edge k (g k) e
    obtain ⟨d1, d2, d3⟩ := darkNn_mem.1 e2
    have hr := step_rev (W := W) (T := T) (c := ((g k : Nat) : Int)) (d := way) hf.w1 hf.w6 hf.t1 hf.t6 (by omega) (by omega) w1 w2 (by omega)
    rw [hs2] at hr
    have hbb := back_bd way
    have q := (hg (g k) d1 d2).2 d3
    exact ⟨d1, d2, hM.inj _ _ _ q e, backZ way, hbb.1, hbb.2, hr⟩
  | true =>
    have e := p2 hc
    obtain ⟨e1, e2, way, w1, w2, hs2, hb⟩ := hM.edge (g k) k e
    obtain ⟨a, b⟩ := mat_light hf hM e
    have q := (hg (g k) e1 a).1 b
    rw [e] at q
    injection q with q
    exact ⟨e1, a, q.symm, way, w1, w2, hs2⟩
/-- there is a tiling exactly if all cells can be laid -/
theorem til_laid {W T : Int} {bs : List Bool} (hv : validB W T bs = true) : 0 < tilN W T bs ↔ (2 : Int) * laidN W T bs = cnt bs := by
  obtain ⟨h1, h2, h3, h4, h5, h6⟩ := valid_len hv
  have hf : Fld W T bs := ⟨h1, h2, h3, h4, h6⟩
  have hc : cnt bs ≤ 24 := (validB_iff.1 hv).2.2.2
  constructor
  · intro h; exact pm_laid hf (pos_pm h1 h2 h3 h4 24 bs h6 hc h)
  · intro h; exact pm_pos h1 24 bs hc (laid_pm hf h)
end Go.Proofs.Ytohbnogmeldmpaa

/- Dominoes in a region as a list of pairs, plainly: how many can be laid; one cell less. -/
namespace Go.Proofs.Ytohbnogmeldmpaa
open Go.RowKit

/-- two cells of a region, side by side -/
def Pr (W T : Int) (bs : List Bool) (p : Nat × Nat) : Prop := p.1 < bs.length ∧ p.2 < bs.length ∧ bs.getD p.1 false = true ∧ bs.getD p.2 false = true ∧ ∃ way : Int, 1 ≤ way ∧ way ≤ 4 ∧ stepZ W T p.1 way = (p.2 : Int)
def flatP (L : List (Nat × Nat)) : List Nat := L.flatMap fun p => [p.1, p.2]
theorem flatP_cons (p : Nat × Nat) (L : List (Nat × Nat)) : flatP (p :: L) = p.1 :: p.2 :: flatP L := by unfold flatP; simp
/-- dominoes that lie apart -/
def Doms (W T : Int) (bs : List Bool) (L : List (Nat × Nat)) : Prop := (∀ p ∈ L, Pr W T bs p) ∧ (flatP L).Nodup
theorem Pr.swap {W T : Int} {bs : List Bool} {a b : Nat} (hf : Fld W T bs) (h : Pr W T bs (a, b)) : Pr W T bs (b, a) := by
  obtain ⟨h1, h2, h3, h4, way, w1, w2, hs⟩ := h
  have hn := hf.n
  have hr := step_rev (W := W) (T := T) (c := (a : Int)) (d := way) hf.w1 hf.w6 hf.t1 hf.t6 (by omega) (by simp only at h1; omega) w1 w2 (by simp only at hs; omega)
  have hbb := back_bd way
  simp only at hs h1 h2 h3 h4
  rw [hs] at hr
  exact ⟨h2, h1, h4, h3, backZ way, hbb.1, hbb.2, hr⟩
theorem Pr.dark {W T : Int} {bs : List Bool} {a b : Nat} (hf : Fld W T bs) (h : Pr W T bs (a, b)) : darkB W b = !darkB W a := by
  obtain ⟨h1, h2, h3, h4, way, w1, w2, hs⟩ := h
  simp only at hs
  have := dark_step (W := W) (T := T) (c := (a : Int)) way hf.w1 hf.w6 (by omega)
  rw [hs] at this
  exact this
theorem szM_put {M : Nat → Option Nat} {l0 : Nat} (d : Nat) (h : M l0 = none) (n : Nat) : szM (fun l => if l = l0 then some d else M l) n = szM M n + (if l0 < n then 1 else 0) := by
  induction n with
  | zero => simp [szM]
  | succ n ih =>
    rw [szM_succ, szM_succ, ih]
    rcases Nat.decEq n l0 with hn | hn
    · rw [if_neg hn]
      have e : (if l0 < n + 1 then 1 else 0) = (if l0 < n then 1 else 0) := by split <;> split <;> omega
      rw [e]; omega
    · subst hn
      have e1 : (if n < n then 1 else 0) = 0 := if_neg (by omega)
      have e2 : (if n < n + 1 then 1 else 0) = 1 := if_pos (by omega)
      rw [if_pos rfl, h, e1, e2]; simp
/-- dominoes make a matching -/
theorem doms_mat {W T : Int} {bs : List Bool} (hf : Fld W T bs) : ∀ L : List (Nat × Nat), Doms W T bs L → ∃ M, IsM (adjL W T bs) bs.length (darkNn W bs) M ∧ szM M bs.length = L.length ∧ ∀ l d, M l = some d → l ∈ flatP L ∧ d ∈ flatP L
  | [], _ => ⟨fun _ => none, (IsMax.nil (adjL W T bs) bs.length).1.mono (by simp), szM_zero _, fun l d e => by cases e⟩
  | (a, b) :: L, h => by
    obtain ⟨h1, h2⟩ := h
    have h2' := h2
    rw [flatP_cons, List.nodup_cons, List.nodup_cons] at h2
    obtain ⟨n1, n2, n3⟩ := h2
    obtain ⟨M, m1, m2, m3⟩ := doms_mat hf L ⟨fun p hp => h1 p (List.mem_cons_of_mem _ hp), n3⟩
    have hp := h1 (a, b) (List.mem_cons_self ..)
    simp only [List.mem_cons, not_or] at n1
    -- the light one and the dark one
    have key : ∀ l d : Nat, Pr W T bs (d, l) → darkB W d = true → l ∉ flatP L → d ∉ flatP L → (∀ x, x ∈ flatP L → x ∈ flatP ((a, b) :: L)) → l ∈ flatP ((a, b) :: L) → d ∈ flatP ((a, b) :: L) →
        ∃ M, IsM (adjL W T bs) bs.length (darkNn W bs) M ∧ szM M bs.length = ((a, b) :: L).length ∧ ∀ l d, M l = some d → l ∈ flatP ((a, b) :: L) ∧ d ∈ flatP ((a, b) :: L) := by
      intro l0 d0 hpr hdk hl0 hd0 hsub hl1 hd1
      obtain ⟨p1, p2, p3, p4, way, w1, w2, hs⟩ := hpr
      have hno : M l0 = none := by
        cases e : M l0 with
        | none => rfl
        | some d => exact absurd (m3 l0 d e).1 hl0
      refine ⟨fun l => if l = l0 then some d0 else M l, ⟨fun l d e => ?_, fun l l' d e e' => ?_⟩, ?_, fun l d e => ?_⟩
      · by_cases hl : l = l0
        · simp only [if_pos hl, Option.some.injEq] at e
          subst hl e
          exact ⟨p2, darkNn_mem.2 ⟨p1, p3, hdk⟩, way, w1, w2, hs, p4⟩
        · simp only [if_neg hl] at e
          exact m1.edge l d e
      · by_cases hl : l = l0
        · by_cases hl' : l' = l0
          · rw [hl, hl']
          · simp only [if_pos hl, Option.some.injEq] at e
            simp only [if_neg hl'] at e'
            subst e
            exact absurd (m3 l' _ e').2 hd0
        · by_cases hl' : l' = l0
          · simp only [if_pos hl', Option.some.injEq] at e'
            simp only [if_neg hl] at e
            subst e'
            exact absurd (m3 l _ e).2 hd0
          · simp only [if_neg hl] at e
            simp only [if_neg hl'] at e'
            exact m1.inj l l' d e e'
      · rw [szM_put d0 hno, m2, if_pos p2]; rfl
      · by_cases hl : l = l0
        · simp only [if_pos hl, Option.some.injEq] at e
          subst hl e
          exact ⟨hl1, hd1⟩
        · simp only [if_neg hl] at e
          exact ⟨hsub _ (m3 l d e).1, hsub _ (m3 l d e).2⟩
    have hsub : ∀ x, x ∈ flatP L → x ∈ flatP ((a, b) :: L) := fun x hx => by rw [flatP_cons]; simp [hx]
    have ha : a ∈ flatP ((a, b) :: L) := by rw [flatP_cons]; simp
    have hb : b ∈ flatP ((a, b) :: L) := by rw [flatP_cons]; simp
    cases hd : darkB W a with
    | true => exact key b a hp hd n2 n1.2 hsub hb ha
    | false => exact key a b (hp.swap hf) (by rw [hp.dark hf, hd]; rfl) n1.2 n2 hsub ha hb
theorem doms_le {W T : Int} {bs : List Bool} (hf : Fld W T bs) {L : List (Nat × Nat)} (h : Doms W T bs L) : L.length ≤ laidN W T bs := by
  obtain ⟨M, m1, m2, -⟩ := doms_mat hf L h
  obtain ⟨M', a, b⟩ := laid_max W T bs
  rw [← m2, ← b]
  exact a.2 M (m1.congr (fun d hd l => (nb_adj hf (darkNn_mem.1 hd).1 l).symm))
/-- .. and a matching makes dominoes -/
theorem mat_doms {W T : Int} {bs : List Bool} (hf : Fld W T bs) {M : Nat → Option Nat} (hM : IsM (adjL W T bs) bs.length (darkNn W bs) M) : ∀ n, n ≤ bs.length → ∃ L, Doms W T bs L ∧ L.length = szM M n ∧ ∀ x ∈ flatP L, ∃ l, l < n ∧ ((M l).isSome = true ∧ x = l ∨ M l = some x)
  | 0, _ => ⟨[], ⟨by simp, by unfold flatP; simp⟩, by simp [szM], fun x hx => by unfold flatP at hx; simp at hx⟩
  | n + 1, hn => by
    obtain ⟨L, d1, d2, d3⟩ := mat_doms hf hM n (by omega)
    cases e : M n with
    | none => exact ⟨L, d1, by rw [szM_succ, e, d2]; simp, fun x hx => by obtain ⟨l, h1, h2⟩ := d3 x hx; exact ⟨l, by omega, h2⟩⟩
    | some d =>
      obtain ⟨e1, e2, way, w1, w2, hs, hb⟩ := hM.edge n d e
      obtain ⟨f1, f2, f3⟩ := darkNn_mem.1 e2
      have hl := mat_light hf hM e
      have hnl : n ∉ flatP L := fun hx => by
        obtain ⟨l, h1, h2 | h2⟩ := d3 n hx
        · omega
        · have := (darkNn_mem.1 (hM.edge l n h2).2.1).2.2
          rw [hl.2] at this; cases this
      have hnd : d ∉ flatP L := fun hx => by
        obtain ⟨l, h1, h2 | h2⟩ := d3 d hx
        · obtain ⟨d', hd'⟩ := Option.isSome_iff_exists.1 h2.1
          have := (mat_light hf hM hd').2
          rw [← h2.2, f3] at this; cases this
        · have := hM.inj l n d h2 e
          omega
      have hne : d ≠ n := fun x => by subst x; rw [hl.2] at f3; cases f3
      refine ⟨(d, n) :: L, ⟨fun p hp => ?_, ?_⟩, ?_, fun x hx => ?_⟩
      · rcases List.mem_cons.1 hp with rfl | hp
        · exact ⟨f1, e1, f2, hb, way, w1, w2, hs⟩
        · exact d1.1 p hp
      · rw [flatP_cons, List.nodup_cons, List.nodup_cons]
        exact ⟨by simp only [List.mem_cons, not_or]; exact ⟨hne, hnd⟩, hnl, d1.2⟩
      · rw [szM_succ, e, List.length_cons, d2]; simp
      · rw [flatP_cons] at hx
        simp only [List.mem_cons] at hx
        rcases hx with rfl | rfl | hx
        · exact ⟨n, by omega, .inr e⟩
        · exact ⟨x, by omega, .inl ⟨by rw [e]; rfl, rfl⟩⟩
        · obtain ⟨l, h1, h2⟩ := d3 x hx; exact ⟨l, by omega, h2⟩
theorem doms_ex {W T : Int} {bs : List Bool} (hf : Fld W T bs) : ∃ L, Doms W T bs L ∧ L.length = laidN W T bs := by
  obtain ⟨M, a, b⟩ := laid_max W T bs
  have hM := a.1.congr (adj' := adjL W T bs) (fun d hd l => nb_adj hf (darkNn_mem.1 hd).1 l)
  obtain ⟨L, h1, h2, -⟩ := mat_doms hf hM bs.length (Nat.le_refl _)
  exact ⟨L, h1, by rw [h2, b]⟩
theorem rem_len (k : Nat) : ∀ L : List (Nat × Nat), L.length ≤ (L.filter fun p => !(p.1 == k) && !(p.2 == k)).length + (flatP L).count k
  | [] => by simp
  | p :: L => by
    have := rem_len k L
    rw [flatP_cons, List.filter_cons, List.count_cons, List.count_cons]
    by_cases h1 : p.1 = k
    · simp [h1]; split <;> omega
    · by_cases h2 : p.2 = k
      · simp [h1, h2]; omega
      · simp [h1, h2]; omega
theorem flatP_filter {q : Nat × Nat → Bool} : ∀ L : List (Nat × Nat), ((flatP (L.filter q)).Sublist (flatP L))
  | [] => by simp
  | p :: L => by
    have := flatP_filter (q := q) L
    rw [List.filter_cons, flatP_cons]
    split
    · rw [flatP_cons]; exact (this.cons_cons _).cons_cons _
    · exact (this.cons _).cons _
theorem getD_set_ne {bs : List Bool} {k j : Nat} {v : Bool} (h : j ≠ k) : (bs.set k v).getD j false = bs.getD j false := by
  rw [List.getD_eq_getElem?_getD, List.getD_eq_getElem?_getD, List.getElem?_set_ne (by omega)]
theorem getD_off {bs : List Bool} {k j : Nat} (h : (bs.set k false).getD j false = true) : j ≠ k ∧ bs.getD j false = true := by
  have hne : j ≠ k := fun e => by
    subst e
    rw [List.getD_eq_getElem?_getD] at h
    rcases Nat.lt_or_ge j bs.length with hj | hj
    · rw [List.getElem?_set_self hj] at h; cases h
    · rw [List.getElem?_eq_none (by rw [List.length_set]; omega)] at h; cases h
  exact ⟨hne, by rwa [getD_set_ne hne] at h⟩
/-- one cell less: as many dominoes, or one less -/
theorem laid_off {W T : Int} {bs : List Bool} (hf : Fld W T bs) (k : Nat) : laidN W T (bs.set k false) ≤ laidN W T bs ∧ laidN W T bs ≤ laidN W T (bs.set k false) + 1 := by
  have hf' : Fld W T (bs.set k false) := ⟨hf.w1, hf.w6, hf.t1, hf.t6, by rw [List.length_set]; exact hf.n⟩
  constructor
  · obtain ⟨L, h1, h2⟩ := doms_ex hf'
    rw [← h2]
    refine doms_le hf ⟨fun p hp => ?_, h1.2⟩
    obtain ⟨a, b, c, d, e⟩ := h1.1 p hp
    rw [List.length_set] at a b
    exact ⟨a, b, (getD_off c).2, (getD_off d).2, e⟩
  · obtain ⟨L, h1, h2⟩ := doms_ex hf
    have h3 := rem_len k L
    have h4 : (flatP L).count k ≤ 1 := List.nodup_iff_count.1 h1.2 k
    have h5 : (L.filter fun p => !(p.1 == k) && !(p.2 == k)).length ≤ laidN W T (bs.set k false) := by
      refine doms_le hf' ⟨fun p hp => ?_, (flatP_filter L).nodup h1.2⟩
      rw [List.mem_filter] at hp
      obtain ⟨a, b, c, d, e⟩ := h1.1 p hp.1
      have hq := hp.2
      simp only [Bool.and_eq_true, Bool.not_eq_true', beq_eq_false_iff_ne, ne_eq] at hq
      exact ⟨by rw [List.length_set]; exact a, by rw [List.length_set]; exact b, by rw [getD_set_ne hq.1]; exact c, by rw [getD_set_ne hq.2]; exact d, e⟩
    omega
end Go.Proofs.Ytohbnogmeldmpaa

/- A turned region lays as many dominoes, plainly. -/
namespace Go.Proofs.Ytohbnogmeldmpaa
open Go.RowKit

theorem divmod {T x r : Int} (h0 : 0 ≤ r) (h1 : r < T) : (x * T + r) % T = r ∧ (x * T + r) / T = x := by
  have hT : T ≠ 0 := by omega
  constructor
  · rw [Int.add_comm, Int.add_mul_emod_self_right]; exact Int.emod_eq_of_lt h0 h1
  · rw [Int.add_comm, Int.add_mul_ediv_right _ _ hT, Int.ediv_eq_zero_of_lt h0 h1]; omega
theorem flatP_map (f : Nat → Nat) : ∀ L : List (Nat × Nat), flatP (L.map fun p => (f p.1, f p.2)) = (flatP L).map f
  | [] => rfl
  | p :: L => by rw [List.map_cons, flatP_cons, flatP_cons, flatP_map f L]; rfl
theorem nodup_on {f : Nat → Nat} : ∀ {l : List Nat}, l.Nodup → (∀ i ∈ l, ∀ j ∈ l, f i = f j → i = j) → (l.map f).Nodup
  | [], _, _ => by simp
  | a :: l, h, hf => by
    rw [List.nodup_cons] at h
    rw [List.map_cons, List.nodup_cons]
    refine ⟨fun hm => ?_, nodup_on h.2 (fun i hi j hj => hf i (List.mem_cons_of_mem _ hi) j (List.mem_cons_of_mem _ hj))⟩
    obtain ⟨b, hb, e⟩ := List.mem_map.1 hm
    have := hf b (List.mem_cons_of_mem _ hb) a (List.mem_cons_self ..) e
    subst this
    exact h.1 hb
theorem flatP_lt {W T : Int} {bs : List Bool} {L : List (Nat × Nat)} (h : ∀ p ∈ L, Pr W T bs p) : ∀ x ∈ flatP L, x < bs.length := fun x hx => by
  unfold flatP at hx
  obtain ⟨p, hp, h2⟩ := List.mem_flatMap.1 hx
  obtain ⟨a, b, -⟩ := h p hp
  simp only [List.mem_cons, List.not_mem_nil, or_false] at h2
  rcases h2 with rfl | rfl
  · exact a
  · exact b
/-- a map of the cells that keeps neighbours keeps dominoes -/
theorem laid_map {W T W' T' : Int} {bs bs' : List Bool} (f : Nat → Nat) (hf : Fld W T bs) (hf' : Fld W' T' bs')
    (h1 : ∀ k, k < bs.length → f k < bs'.length ∧ bs'.getD (f k) false = bs.getD k false)
    (h2 : ∀ i j, i < bs.length → j < bs.length → f i = f j → i = j)
    (h3 : ∀ (k j : Nat) (way : Int), k < bs.length → j < bs.length → 1 ≤ way → way ≤ 4 → stepZ W T k way = (j : Int) → ∃ way' : Int, 1 ≤ way' ∧ way' ≤ 4 ∧ stepZ W' T' (f k) way' = (f j : Int)) :
    laidN W T bs ≤ laidN W' T' bs' := by
  obtain ⟨L, d1, d2⟩ := doms_ex hf
  rw [← d2, ← List.length_map (fun p : Nat × Nat => (f p.1, f p.2))]
  refine doms_le hf' ⟨fun p hp => ?_, ?_⟩
  · obtain ⟨q, hq, rfl⟩ := List.mem_map.1 hp
    obtain ⟨a, b, c, d, way, w1, w2, hs⟩ := d1.1 q hq
    exact ⟨(h1 _ a).1, (h1 _ b).1, (h1 _ a).2.trans c, (h1 _ b).2.trans d, h3 _ _ way a b w1 w2 hs⟩
  · rw [flatP_map]
    exact nodup_on d1.2 (fun i hi j hj => h2 i j (flatP_lt d1.1 i hi) (flatP_lt d1.1 j hj))

/-- where a cell goes when the region is turned, and back -/
def tauZ (W T c : Int) : Int := c % W * T + (T - 1 - c / W)
def iotaZ (W T c : Int) : Int := (T - 1 - c % T) * W + c / T
theorem tau_xy {W T X Y : Int} (x0 : 0 ≤ X) (x1 : X ≤ W - 1) : tauZ W T (Y * W + X) = X * T + (T - 1 - Y) := by
  obtain ⟨a, b⟩ := divmod (T := W) (x := Y) x0 (by omega)
  unfold tauZ; rw [a, b]
theorem iota_xy {W T X Y : Int} (x0 : 0 ≤ X) (x1 : X ≤ T - 1) : iotaZ W T (Y * T + X) = (T - 1 - X) * W + Y := by
  obtain ⟨a, b⟩ := divmod (T := T) (x := Y) x0 (by omega)
  unfold iotaZ; rw [a, b]
theorem step_xy {W T X Y : Int} (d : Int) (x0 : 0 ≤ X) (x1 : X ≤ W - 1) : stepZ W T (Y * W + X) d = if d = 1 then (if X < W - 1 then Y * W + (X + 1) else -1) else if d = 2 then (if Y < T - 1 then (Y + 1) * W + X else -1)
  else if d = 3 then (if 0 < X then Y * W + (X - 1) else -1) else if d = 4 then (if 0 < Y then (Y - 1) * W + X else -1) else -1 := by
  obtain ⟨a, b⟩ := divmod (T := W) (x := Y) x0 (by omega)
  unfold stepZ; rw [a, b, show Y * W + X + 1 = Y * W + (X + 1) by omega, show Y * W + X - 1 = Y * W + (X - 1) by omega, Int.add_mul, Int.sub_mul, Int.one_mul, show Y * W + X + W = Y * W + W + X by omega, show Y * W + X - W = Y * W - W + X by omega]
theorem tau_step {W T c : Int} (h1 : 1 ≤ W) (h2 : W ≤ 6) (h3 : 1 ≤ T) (h4 : T ≤ 6) (c0 : 0 ≤ c) (c1 : c < W * T) {way : Int} (w1 : 1 ≤ way) (w2 : way ≤ 4) (h : 0 ≤ stepZ W T c way) :
    ∃ way' : Int, 1 ≤ way' ∧ way' ≤ 4 ∧ stepZ T W (tauZ W T c) way' = tauZ W T (stepZ W T c way) := by
  obtain ⟨X, Y, -, -, x0, x1, y0, y1, rfl, -⟩ := cell_xy h1 h2 h3 h4 c0 c1
  rw [step_xy way x0 x1] at h ⊢
  rw [tau_xy x0 x1]
  have q0 : 0 ≤ T - 1 - Y := by omega
  have q1 : T - 1 - Y ≤ T - 1 := by omega
  rcases (show way = 1 ∨ way = 2 ∨ way = 3 ∨ way = 4 from by omega) with rfl | rfl | rfl | rfl
  · simp only [if_true] at h ⊢
    by_cases hc : X < W - 1
    · rw [if_pos hc, tau_xy (by omega) (by omega)]
      exact ⟨2, by omega, by omega, by rw [step_xy 2 q0 q1]; simp [hc]⟩
    · rw [if_neg hc] at h; omega
  · simp only [show ¬ ((2 : Int) = 1) by decide, if_false, if_true] at h ⊢
    by_cases hc : Y < T - 1
    · rw [if_pos hc, tau_xy (by omega) (by omega)]
      exact ⟨3, by omega, by omega, by rw [step_xy 3 q0 q1]; simp only [show ¬ ((3 : Int) = 1) by decide, show ¬ ((3 : Int) = 2) by decide, if_false, if_true]; rw [if_pos (by omega)]; congr 1; omega⟩
    · rw [if_neg hc] at h; omega
  · simp only [show ¬ ((3 : Int) = 1) by decide, show ¬ ((3 : Int) = 2) by decide, if_false, if_true] at h ⊢
    by_cases hc : 0 < X
    · rw [if_pos hc, tau_xy (by omega) (by omega)]
      exact ⟨4, by omega, by omega, by rw [step_xy 4 q0 q1]; simp [hc]⟩
    · rw [if_neg hc] at h; omega
  · simp only [show ¬ ((4 : Int) = 1) by decide, show ¬ ((4 : Int) = 2) by decide, show ¬ ((4 : Int) = 3) by decide, if_false, if_true] at h ⊢
    by_cases hc : 0 < Y
    · rw [if_pos hc, tau_xy (by omega) (by omega)]
      exact ⟨1, by omega, by omega, by rw [step_xy 1 q0 q1]; simp only [if_true]; rw [if_pos (by omega)]; congr 1; omega⟩
    · rw [if_neg hc] at h; omega
theorem iota_step {W T c : Int} (h1 : 1 ≤ W) (h2 : W ≤ 6) (h3 : 1 ≤ T) (h4 : T ≤ 6) (c0 : 0 ≤ c) (c1 : c < T * W) {way : Int} (w1 : 1 ≤ way) (w2 : way ≤ 4) (h : 0 ≤ stepZ T W c way) :
    ∃ way' : Int, 1 ≤ way' ∧ way' ≤ 4 ∧ stepZ W T (iotaZ W T c) way' = iotaZ W T (stepZ T W c way) := by
  obtain ⟨X, Y, -, -, x0, x1, y0, y1, rfl, -⟩ := cell_xy h3 h4 h1 h2 c0 c1
  rw [step_xy way x0 x1] at h ⊢
  rw [iota_xy x0 x1]
  rcases (show way = 1 ∨ way = 2 ∨ way = 3 ∨ way = 4 from by omega) with rfl | rfl | rfl | rfl
  · simp only [if_true] at h ⊢
    by_cases hc : X < T - 1
    · rw [if_pos hc, iota_xy (by omega) (by omega)]
      exact ⟨4, by omega, by omega, by rw [step_xy 4 y0 y1]; simp only [show ¬ ((4 : Int) = 1) by decide, show ¬ ((4 : Int) = 2) by decide, show ¬ ((4 : Int) = 3) by decide, if_false, if_true]; rw [if_pos (by omega)]; congr 2; omega⟩
    · rw [if_neg hc] at h; omega
  · simp only [show ¬ ((2 : Int) = 1) by decide, if_false, if_true] at h ⊢
    by_cases hc : Y < W - 1
    · rw [if_pos hc, iota_xy (by omega) (by omega)]
      exact ⟨1, by omega, by omega, by rw [step_xy 1 y0 y1]; simp [hc]⟩
    · rw [if_neg hc] at h; omega
  · simp only [show ¬ ((3 : Int) = 1) by decide, show ¬ ((3 : Int) = 2) by decide, if_false, if_true] at h ⊢
    by_cases hc : 0 < X
    · rw [if_pos hc, iota_xy (by omega) (by omega)]
      exact ⟨2, by omega, by omega, by rw [step_xy 2 y0 y1]; simp only [show ¬ ((2 : Int) = 1) by decide, if_false, if_true]; rw [if_pos (by omega)]; congr 2; omega⟩
    · rw [if_neg hc] at h; omega
  · simp only [show ¬ ((4 : Int) = 1) by decide, show ¬ ((4 : Int) = 2) by decide, show ¬ ((4 : Int) = 3) by decide, if_false, if_true] at h ⊢
    by_cases hc : 0 < Y
    · rw [if_pos hc, iota_xy (by omega) (by omega)]
      exact ⟨3, by omega, by omega, by rw [step_xy 3 y0 y1]; simp [hc]⟩
    · rw [if_neg hc] at h; omega
theorem tau_in {W T c : Int} (h1 : 1 ≤ W) (h2 : W ≤ 6) (h3 : 1 ≤ T) (h4 : T ≤ 6) (c0 : 0 ≤ c) (c1 : c < W * T) : 0 ≤ tauZ W T c ∧ tauZ W T c < W * T ∧ iotaZ W T (tauZ W T c) = c := by
  obtain ⟨X, Y, -, -, x0, x1, y0, y1, rfl, -⟩ := cell_xy h1 h2 h3 h4 c0 c1
  rw [tau_xy x0 x1, iota_xy (by omega) (by omega)]
  have := xy_cell (X := T - 1 - Y) (Y := X) h3 h4 h1 h2 (by omega) (by omega) x0 x1
  rw [Int.mul_comm T W] at this
  exact ⟨this.1, this.2, by rw [show T - 1 - (T - 1 - Y) = Y by omega]⟩
theorem iota_in {W T c : Int} (h1 : 1 ≤ W) (h2 : W ≤ 6) (h3 : 1 ≤ T) (h4 : T ≤ 6) (c0 : 0 ≤ c) (c1 : c < T * W) : 0 ≤ iotaZ W T c ∧ iotaZ W T c < W * T ∧ tauZ W T (iotaZ W T c) = c := by
  obtain ⟨X, Y, -, -, x0, x1, y0, y1, rfl, -⟩ := cell_xy h3 h4 h1 h2 c0 c1
  rw [iota_xy x0 x1, tau_xy (by omega) (by omega)]
  have := xy_cell (X := Y) (Y := T - 1 - X) h1 h2 h3 h4 (by omega) (by omega) (by omega) (by omega)
  exact ⟨this.1, this.2, by rw [show T - 1 - (T - 1 - X) = X by omega]⟩
/-- a turned region -/
structure IsTurn (W T : Int) (bs bs' : List Bool) : Prop where
  len : bs'.length = bs.length
  at_ : ∀ k, k < bs.length → bs'.getD (tauZ W T k).toNat false = bs.getD k false
  cn : cnt bs' ≤ cnt bs
theorem IsTurn.fld {W T : Int} {bs bs' : List Bool} (h : IsTurn W T bs bs') (hf : Fld W T bs) : Fld T W bs' :=
  ⟨hf.t1, hf.t6, hf.w1, hf.w6, by rw [h.len, Int.mul_comm]; exact hf.n⟩
theorem laid_turn {W T : Int} {bs bs' : List Bool} (hf : Fld W T bs) (h : IsTurn W T bs bs') : laidN T W bs' = laidN W T bs := by
  have hf' := h.fld hf
  have hn := hf.n
  have hn' : (bs.length : Int) = T * W := by rw [Int.mul_comm]; exact hn
  have hl := h.len
  have tin := fun k (hk : k < bs.length) => tau_in (W := W) (T := T) (c := (k : Int)) hf.w1 hf.w6 hf.t1 hf.t6 (by omega) (by omega)
  have iin := fun k (hk : k < bs.length) => iota_in (W := W) (T := T) (c := (k : Int)) hf.w1 hf.w6 hf.t1 hf.t6 (by omega) (by omega)
  refine Nat.le_antisymm ?_ ?_
  · refine laid_map (fun k => (iotaZ W T k).toNat) hf' hf (fun k hk => ?_) (fun i j hi hj e => ?_) (fun k j way hk hj w1 w2 hs => ?_)
    · rw [hl] at hk
      obtain ⟨a, b, c⟩ := iin k hk
      have hlt : (iotaZ W T k).toNat < bs.length := by omega
      refine ⟨hlt, ?_⟩
      have := h.at_ _ hlt
      rw [show (((iotaZ W T k).toNat : Nat) : Int) = iotaZ W T k by omega, c] at this
      rw [← this]; simp
    · rw [hl] at hi hj
      obtain ⟨a, b, c⟩ := iin i hi
      obtain ⟨a', b', c'⟩ := iin j hj
      have e' : iotaZ W T i = iotaZ W T j := by omega
      rw [e', c'] at c; omega
    · rw [hl] at hk hj
      obtain ⟨a, b, c⟩ := iin k hk
      obtain ⟨a', b', c'⟩ := iin j hj
      obtain ⟨way', p1, p2, p3⟩ := iota_step (W := W) (T := T) (c := (k : Int)) hf.w1 hf.w6 hf.t1 hf.t6 (by omega) (by omega) w1 w2 (by omega)
      rw [hs] at p3
      exact ⟨way', p1, p2, by rw [show (((iotaZ W T k).toNat : Nat) : Int) = iotaZ W T k by omega, show (((iotaZ W T j).toNat : Nat) : Int) = iotaZ W T j by omega]; exact p3⟩
  · refine laid_map (fun k => (tauZ W T k).toNat) hf hf' (fun k hk => ?_) (fun i j hi hj e => ?_) (fun k j way hk hj w1 w2 hs => ?_)
    · obtain ⟨a, b, c⟩ := tin k hk
      exact ⟨by omega, h.at_ k hk⟩
    · obtain ⟨a, b, c⟩ := tin i hi
      obtain ⟨a', b', c'⟩ := tin j hj
      have e' : tauZ W T i = tauZ W T j := by omega
      rw [e', c'] at c; omega
    · obtain ⟨a, b, c⟩ := tin k hk
      obtain ⟨a', b', c'⟩ := tin j hj
      obtain ⟨way', p1, p2, p3⟩ := tau_step (W := W) (T := T) (c := (k : Int)) hf.w1 hf.w6 hf.t1 hf.t6 (by omega) (by omega) w1 w2 (by omega)
      rw [hs] at p3
      exact ⟨way', p1, p2, by rw [show (((tauZ W T k).toNat : Nat) : Int) = tauZ W T k by omega, show (((tauZ W T j).toNat : Nat) : Int) = tauZ W T j by omega]; exact p3⟩
end Go.Proofs.Ytohbnogmeldmpaa
