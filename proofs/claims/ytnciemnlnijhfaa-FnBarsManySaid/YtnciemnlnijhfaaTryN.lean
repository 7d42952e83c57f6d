/- Matchings grown by a search that changes owners (the program's LaidMost), plainly. -/
import Derived.Test.YtnciemnlnijhfaaMatchN
namespace Go.Proofs.Ytnciemnlnijhfaa

def updM (M : Nat → Option Nat) (t c : Nat) : Nat → Option Nat := fun l => if l = t then some c else M l
def updB (S : Nat → Bool) (t : Nat) : Nat → Bool := fun l => if l = t then true else S l
/-- without some places -/
def subM (M : Nat → Option Nat) (H : Nat → Bool) : Nat → Option Nat := fun l => if H l = true then none else M l
def tryT (rec : (Nat → Option Nat) → Nat → (Nat → Bool) → (Nat → Option Nat) × (Nat → Bool) × Bool) (c : Nat) : List Nat → (Nat → Option Nat) → (Nat → Bool) → (Nat → Option Nat) × (Nat → Bool) × Bool
  | [], M, S => (M, S, false)
  | t :: ts, M, S =>
    if S t = true then tryT rec c ts M S
    else match M t with
      | none => (updM M t c, updB S t, true)
      | some old => if (rec M old (updB S t)).2.2 = true then (updM (rec M old (updB S t)).1 t c, (rec M old (updB S t)).2.1, true) else tryT rec c ts (rec M old (updB S t)).1 (rec M old (updB S t)).2.1
def tryF (nb : Nat → List Nat) : Nat → (Nat → Option Nat) → Nat → (Nat → Bool) → (Nat → Option Nat) × (Nat → Bool) × Bool
  | 0, M, _, S => (M, S, false)
  | f + 1, M, c, S => tryT (tryF nb f) c (nb c) M S
/-- how many are not met -/
def unm (S : Nat → Bool) (n : Nat) : Nat := (List.range n).countP fun l => !S l
theorem unm_succ (S : Nat → Bool) (n : Nat) : unm S (n + 1) = unm S n + (if S n = true then 0 else 1) := by
  unfold unm; rw [List.range_succ, List.countP_append]; simp; cases S n <;> simp
theorem unm_le {S S' : Nat → Bool} (h : ∀ l, S l = true → S' l = true) (n : Nat) : unm S' n ≤ unm S n := by
  unfold unm
  refine List.countP_mono_left (fun l _ hl => ?_)
  cases e : S l with
  | false => rfl
  | true => rw [h l e] at hl; cases hl
theorem unm_upd (S : Nat → Bool) (t n : Nat) (ht : t < n) (h : S t = false) : unm (updB S t) n + 1 = unm S n := by
  have low : ∀ m, m ≤ t → unm (updB S t) m = unm S m := by
    intro m
    induction m with
    | zero => intro _; rfl
    | succ m ih =>
      intro hm
      rw [unm_succ, unm_succ, ih (by omega), show updB S t m = S m by unfold updB; rw [if_neg (by omega)]]
  have key : ∀ m, t < m → unm (updB S t) m + 1 = unm S m := by
    intro m
    induction m with
    | zero => intro h; omega
    | succ m ih =>
      intro hm
      rw [unm_succ, unm_succ]
      rcases Nat.lt_or_ge t m with h1 | h1
      · have := ih h1
        rw [show updB S t m = S m by unfold updB; rw [if_neg (by omega)]]
        omega
      · obtain rfl : m = t := by omega
        rw [low m (Nat.le_refl _), show updB S m m = true by unfold updB; rw [if_pos rfl], h]
        simp
  exact key n ht
theorem tryT_met {rec : (Nat → Option Nat) → Nat → (Nat → Bool) → (Nat → Option Nat) × (Nat → Bool) × Bool} {c t : Nat} {ts : List Nat} {M : Nat → Option Nat} {S : Nat → Bool} (h : S t = true) : tryT rec c (t :: ts) M S = tryT rec c ts M S := by
  show (if _ then _ else _) = _; rw [if_pos h]
theorem tryT_free {rec : (Nat → Option Nat) → Nat → (Nat → Bool) → (Nat → Option Nat) × (Nat → Bool) × Bool} {c t : Nat} {ts : List Nat} {M : Nat → Option Nat} {S : Nat → Bool} (h : S t = false) (hM : M t = none) : tryT rec c (t :: ts) M S = (updM M t c, updB S t, true) := by
  show (if _ then _ else _) = _; rw [if_neg (by rw [h]; simp), hM]
theorem tryT_old {rec : (Nat → Option Nat) → Nat → (Nat → Bool) → (Nat → Option Nat) × (Nat → Bool) × Bool} {c t old : Nat} {ts : List Nat} {M : Nat → Option Nat} {S : Nat → Bool} (h : S t = false) (hM : M t = some old) : tryT rec c (t :: ts) M S = (if (rec M old (updB S t)).2.2 = true then (updM (rec M old (updB S t)).1 t c, (rec M old (updB S t)).2.1, true) else tryT rec c ts (rec M old (updB S t)).1 (rec M old (updB S t)).2.1) := by
  show (if _ then _ else _) = _; rw [if_neg (by rw [h]; simp), hM]
theorem subM_in {M : Nat → Option Nat} {H : Nat → Bool} {l d : Nat} (h : subM M H l = some d) : H l = false ∧ M l = some d := by
  unfold subM at h
  split at h
  · cases h
  · rename_i e; exact ⟨by simpa using e, h⟩
theorem subM_of {M : Nat → Option Nat} {H : Nat → Bool} {l : Nat} (h : H l = false) : subM M H l = M l := by unfold subM; rw [h]; rfl
theorem szM_upd {M M' : Nat → Option Nat} {t n : Nat} (ht : t < n) (h0 : M t = none) (h1 : (M' t).isSome = true) (h : ∀ l, l ≠ t → (M' l).isSome = (M l).isSome) : szM M' n = szM M n + 1 := by
  have low : ∀ m, m ≤ t → szM M' m = szM M m := by
    intro m
    induction m with
    | zero => intro _; rfl
    | succ m ih => intro hm; rw [szM_succ, szM_succ, ih (by omega), h m (by omega)]
  have key : ∀ m, t < m → szM M' m = szM M m + 1 := by
    intro m
    induction m with
    | zero => intro h; omega
    | succ m ih =>
      intro hm
      rw [szM_succ, szM_succ]
      rcases Nat.lt_or_ge t m with h2 | h2
      · rw [ih h2, h m (by omega)]; omega
      · obtain rfl : m = t := by omega
        rw [low m (Nat.le_refl _), h1, h0]; simp
  exact key n ht
/-- what is left where the search came through -/
structure Grown (nb : Nat → List Nat) (n : Nat) (D : List Nat) (H : Nat → Bool) (M : Nat → Option Nat) (c : Nat) (S : Nat → Bool) (M' : Nat → Option Nat) : Prop where
  mat : IsM (fun d l => l ∈ nb d) n D (subM M' H)
  size : szM (subM M' H) n = szM (subM M H) n + 1
  keep : ∀ l, S l = true → M' l = M l
  from_ : ∀ l d, subM M' H l = some d → d = c ∨ ∃ l', subM M H l' = some d
/-- a search that fails changes no owner, and all that it met is taken -/
theorem try_false {nb : Nat → List Nat} {n : Nat} (hnb : ∀ d l, l ∈ nb d → l < n) : ∀ (f : Nat) (M : Nat → Option Nat) (c : Nat) (S : Nat → Bool), (tryF nb f M c S).2.2 = false →
    (tryF nb f M c S).1 = M ∧ (∀ l, S l = true → (tryF nb f M c S).2.1 l = true) ∧
    (unm S n < f → (∀ l ∈ nb c, (tryF nb f M c S).2.1 l = true) ∧ ∀ l, (tryF nb f M c S).2.1 l = true → S l = false → ∃ s, M l = some s ∧ ∀ l' ∈ nb s, (tryF nb f M c S).2.1 l' = true)
  | 0, M, c, S, _ => ⟨rfl, fun _ h => h, fun h => by omega⟩
  | f + 1, M, c, S, hr => by
    have key : ∀ (ts : List Nat) (S : Nat → Bool), (∀ t ∈ ts, t < n) → (tryT (tryF nb f) c ts M S).2.2 = false →
        (tryT (tryF nb f) c ts M S).1 = M ∧ (∀ l, S l = true → (tryT (tryF nb f) c ts M S).2.1 l = true) ∧
        (unm S n < f + 1 → (∀ l ∈ ts, (tryT (tryF nb f) c ts M S).2.1 l = true) ∧ ∀ l, (tryT (tryF nb f) c ts M S).2.1 l = true → S l = false → ∃ s, M l = some s ∧ ∀ l' ∈ nb s, (tryT (tryF nb f) c ts M S).2.1 l' = true) := by
      intro ts
      induction ts with
      | nil =>
        intro S _ _
        exact ⟨rfl, fun _ h => h, fun _ => ⟨fun l hl => by simp at hl, fun l h1 h2 => by rw [show (tryT (tryF nb f) c [] M S).2.1 = S from rfl, h2] at h1; cases h1⟩⟩
      | cons t ts ih =>
        intro S hts hr
        have htn := hts t (by simp)
        have hts' : ∀ x ∈ ts, x < n := fun x hx => hts x (by simp [hx])
        cases hS : S t with
        | true =>
          rw [tryT_met hS] at hr ⊢
          obtain ⟨a, b, d⟩ := ih S hts' hr
          refine ⟨a, b, fun hu => ⟨fun l hl => ?_, (d hu).2⟩⟩
          rcases List.mem_cons.1 hl with e | e
          · rw [e]; exact b t hS
          · exact (d hu).1 l e
        | false =>
          cases hM : M t with
          | none => rw [tryT_free hS hM] at hr; cases hr
          | some old =>
            rw [tryT_old hS hM] at hr ⊢
            cases hrec : (tryF nb f M old (updB S t)).2.2 with
            | true => rw [hrec, if_pos rfl] at hr; cases hr
            | false =>
              rw [hrec, if_neg (by simp)] at hr
              rw [if_neg (by simp)]
              obtain ⟨a, b, d⟩ := try_false hnb f M old (updB S t) hrec
              rw [a] at hr ⊢
              generalize (tryF nb f M old (updB S t)).2.1 = S1 at *
              obtain ⟨a', b', d'⟩ := ih S1 hts' hr
              have hb : ∀ l, S l = true → S1 l = true := fun l hl => b l (by unfold updB; split; rfl; exact hl)
              have ht1 : S1 t = true := b t (by unfold updB; rw [if_pos rfl])
              refine ⟨a', fun l hl => b' l (hb l hl), fun hu => ?_⟩
              have hu1 := unm_upd S t n htn hS
              have hu2 := unm_le (S := updB S t) (S' := S1) b n
              obtain ⟨d1, d2⟩ := d (by omega)
              obtain ⟨d3, d4⟩ := d' (by omega)
              refine ⟨fun l hl => ?_, fun l h1 h2 => ?_⟩
              · rcases List.mem_cons.1 hl with e | e
                · rw [e]; exact b' t ht1
                · exact d3 l e
              · cases h3 : S1 l with
                | false => exact d4 l h1 h3
                | true =>
                  by_cases e : l = t
                  · exact ⟨old, by rw [e]; exact hM, fun l' hl' => b' l' (d1 l' hl')⟩
                  · obtain ⟨s, e1, e2⟩ := d2 l h3 (by unfold updB; rw [if_neg e]; exact h2)
                    exact ⟨s, e1, fun l' hl' => b' l' (e2 l' hl')⟩
    exact key (nb c) S (fun t ht => hnb c t ht) hr
theorem try_true {nb : Nat → List Nat} {n : Nat} {D : List Nat} (hnb : ∀ d l, l ∈ nb d → l < n) : ∀ (f : Nat) (M : Nat → Option Nat) (c : Nat) (S H : Nat → Bool), (∀ l, H l = true → S l = true) → IsM (fun d l => l ∈ nb d) n D (subM M H) → c ∈ D → (∀ l, subM M H l ≠ some c) →
    (tryF nb f M c S).2.2 = true → Grown nb n D H M c S (tryF nb f M c S).1
  | 0, M, c, S, H, _, _, _, _, hr => by cases hr
  | f + 1, M, c, S, H, hHS, hM, hc, hcM, hr => by
    have key : ∀ (ts : List Nat) (S : Nat → Bool), (∀ t ∈ ts, t ∈ nb c) → (∀ l, H l = true → S l = true) → (tryT (tryF nb f) c ts M S).2.2 = true → Grown nb n D H M c S (tryT (tryF nb f) c ts M S).1 := by
      intro ts
      induction ts with
      | nil => intro S _ _ hr; cases hr
      | cons t ts ih =>
        intro S hts hHS hr
        have htc := hts t (by simp)
        have htn := hnb c t htc
        have hts' : ∀ x ∈ ts, x ∈ nb c := fun x hx => hts x (by simp [hx])
        cases hS : S t with
        | true => rw [tryT_met hS] at hr ⊢; exact ih S hts' hHS hr
        | false =>
          have hHt : H t = false := by
            cases e : H t with
            | false => rfl
            | true => rw [hHS t e] at hS; cases hS
          cases hMt : M t with
          | none =>
            rw [tryT_free hS hMt]
            have hne : ∀ l, l ≠ t → subM (updM M t c) H l = subM M H l := fun l hl => by unfold subM updM; rw [if_neg hl]
            have heq : subM (updM M t c) H t = some c := by rw [subM_of hHt]; unfold updM; rw [if_pos rfl]
            refine ⟨⟨fun l d e => ?_, fun l l' d e e' => ?_⟩, szM_upd htn (by rw [subM_of hHt]; exact hMt) (by rw [heq]; rfl) (fun l hl => by rw [hne l hl]), fun l hl => ?_, fun l d e => ?_⟩
            · by_cases h : l = t
              · subst h; rw [heq] at e; injection e with e; subst e; exact ⟨htn, hc, htc⟩
              · rw [hne l h] at e; exact hM.edge l d e
            · by_cases h : l = t <;> by_cases h' : l' = t
              · rw [h, h']
              · rw [h, heq] at e; rw [hne l' h'] at e'; injection e with e; subst e; exact absurd e' (hcM l')
              · rw [h', heq] at e'; rw [hne l h] at e; injection e' with e'; subst e'; exact absurd e (hcM l)
              · rw [hne l h] at e; rw [hne l' h'] at e'; exact hM.inj l l' d e e'
            · have h : l ≠ t := fun e => by rw [e, hS] at hl; cases hl
              show updM M t c l = M l
              unfold updM; rw [if_neg h]
            · by_cases h : l = t
              · subst h; rw [heq] at e; injection e with e; exact .inl e.symm
              · rw [hne l h] at e; exact .inr ⟨l, e⟩
          | some old =>
            rw [tryT_old hS hMt] at hr ⊢
            cases hrec : (tryF nb f M old (updB S t)).2.2 with
            | false =>
              rw [hrec, if_neg (by simp)] at hr
              rw [if_neg (by simp)]
              obtain ⟨a, b, -⟩ := try_false hnb f M old (updB S t) hrec
              rw [a] at hr ⊢
              have hb : ∀ l, S l = true → (tryF nb f M old (updB S t)).2.1 l = true := fun l hl => b l (by unfold updB; split; rfl; exact hl)
              have g := ih _ hts' (fun l hl => hb l (hHS l hl)) hr
              exact ⟨g.mat, g.size, fun l hl => g.keep l (hb l hl), g.from_⟩
            | true =>
              rw [if_pos rfl]
              have hsub : subM M H t = some old := by rw [subM_of hHt]; exact hMt
              have hH1 : updB H t t = true := by unfold updB; rw [if_pos rfl]
              have hH2 : ∀ l, l ≠ t → updB H t l = H l := fun l hl => by unfold updB; rw [if_neg hl]
              have hs1 : ∀ (N : Nat → Option Nat) l, l ≠ t → subM N (updB H t) l = subM N H l := fun N l hl => by unfold subM; rw [hH2 l hl]
              have hs2 : ∀ (N : Nat → Option Nat), subM N (updB H t) t = none := fun N => by unfold subM; rw [hH1]; rfl
              have hin : ∀ (N : Nat → Option Nat) l d, subM N (updB H t) l = some d → l ≠ t ∧ subM N H l = some d := fun N l d e => by
                have h : l ≠ t := fun h => by rw [h, hs2] at e; cases e
                exact ⟨h, by rw [← hs1 N l h]; exact e⟩
              have g := try_true hnb f M old (updB S t) (updB H t) (D := D) (fun l hl => by
                  by_cases h : l = t
                  · unfold updB; rw [if_pos h]
                  · rw [hH2 l h] at hl; unfold updB; rw [if_neg h]; exact hHS l hl)
                ⟨fun l d e => hM.edge l d (hin M l d e).2, fun l l' d e e' => hM.inj l l' d (hin M l d e).2 (hin M l' d e').2⟩
                (hM.edge t old hsub).2.1 (fun l e => (hin M l old e).1 (hM.inj l t old (hin M l old e).2 hsub)) hrec
              generalize (tryF nb f M old (updB S t)).1 = N at *
              have hne : ∀ l, l ≠ t → subM (updM N t c) H l = subM N H l := fun l hl => by unfold subM updM; rw [if_neg hl]
              have heq : subM (updM N t c) H t = some c := by rw [subM_of hHt]; unfold updM; rw [if_pos rfl]
              have hnoc : ∀ l, l ≠ t → subM N H l ≠ some c := fun l hl e => by
                rw [← hs1 N l hl] at e
                rcases g.from_ l c e with h | ⟨l', h⟩
                · subst h; exact hcM t hsub
                · exact hcM l' (hin M l' c h).2
              have e1 : szM (subM (updM N t c) H) n = szM (subM N (updB H t)) n + 1 := szM_upd htn (hs2 N) (by rw [heq]; rfl) (fun l hl => by rw [hne l hl, hs1 N l hl])
              have e2 : szM (subM M H) n = szM (subM M (updB H t)) n + 1 := szM_upd htn (hs2 M) (by rw [hsub]; rfl) (fun l hl => by rw [hs1 M l hl])
              have e3 := g.size
              refine ⟨⟨fun l d e => ?_, fun l l' d e e' => ?_⟩, (show szM (subM (updM N t c) H) n = _ by omega), fun l hl => ?_, fun l d e => ?_⟩
              · by_cases h : l = t
                · subst h; rw [heq] at e; injection e with e; subst e; exact ⟨htn, hc, htc⟩
                · rw [hne l h, ← hs1 N l h] at e; exact g.mat.edge l d e
              · by_cases h : l = t <;> by_cases h' : l' = t
                · rw [h, h']
                · rw [h, heq] at e; rw [hne l' h'] at e'; injection e with e; subst e; exact absurd e' (hnoc l' h')
                · rw [h', heq] at e'; rw [hne l h] at e; injection e' with e'; subst e'; exact absurd e (hnoc l h)
                · rw [hne l h, ← hs1 N l h] at e; rw [hne l' h', ← hs1 N l' h'] at e'; exact g.mat.inj l l' d e e'
              · have h : l ≠ t := fun e => by rw [e, hS] at hl; cases hl
                show updM N t c l = M l
                unfold updM; rw [if_neg h]
                exact g.keep l (by unfold updB; rw [if_neg h]; exact hl)
              · by_cases h : l = t
                · subst h; rw [heq] at e; injection e with e; exact .inl e.symm
                · rw [hne l h, ← hs1 N l h] at e
                  rcases g.from_ l d e with h1 | ⟨l', h1⟩
                  · exact .inr ⟨t, by rw [hsub, h1]⟩
                  · exact .inr ⟨l', (hin M l' d h1).2⟩
    exact key (nb c) S (fun t ht => ht) hHS hr
theorem subM_none (M : Nat → Option Nat) : subM M (fun _ => false) = M := by funext l; rfl
/-- a search from nothing met -/
theorem try_max {nb : Nat → List Nat} {n : Nat} {D : List Nat} (hnb : ∀ d l, l ∈ nb d → l < n) {M : Nat → Option Nat} {d f : Nat} (h : IsMax (fun d l => l ∈ nb d) n D M) (hd : d ∉ D) (hf : n < f) :
    ((tryF nb f M d (fun _ => false)).2.2 = true → IsMax (fun d l => l ∈ nb d) n (D ++ [d]) (tryF nb f M d (fun _ => false)).1 ∧ szM (tryF nb f M d (fun _ => false)).1 n = szM M n + 1) ∧
    ((tryF nb f M d (fun _ => false)).2.2 = false → (tryF nb f M d (fun _ => false)).1 = M ∧ IsMax (fun d l => l ∈ nb d) n (D ++ [d]) M) := by
  constructor
  · intro hr
    have g := try_true (D := D ++ [d]) hnb f M d (fun _ => false) (fun _ => false) (fun l hl => by cases hl) (by rw [subM_none]; exact h.1.mono (fun x hx => List.mem_append_left _ hx)) (by simp)
      (fun l e => by rw [subM_none] at e; exact hd (h.1.edge l d e).2.1) hr
    have hs := g.size
    have hm := g.mat
    rw [subM_none, subM_none] at hs
    rw [subM_none] at hm
    exact ⟨h.more hm hs, hs⟩
  · intro hr
    obtain ⟨a, -, b⟩ := try_false (n := n) hnb f M d (fun _ => false) hr
    have hu : unm (fun _ => false) n ≤ n := by unfold unm; exact Nat.le_trans List.countP_le_length (by simp)
    obtain ⟨b1, b2⟩ := b (by omega)
    refine ⟨a, h.same hd ⟨_, fun l hl => b1 l hl, fun l hl => b2 l hl rfl⟩⟩
theorem IsM.congr {adj adj' : Nat → Nat → Prop} {n : Nat} {D : List Nat} {M : Nat → Option Nat} (ha : ∀ d ∈ D, ∀ l, adj d l ↔ adj' d l) (h : IsM adj n D M) : IsM adj' n D M :=
  ⟨fun l d e => by obtain ⟨a, b, c⟩ := h.edge l d e; exact ⟨a, b, (ha d b l).1 c⟩, h.inj⟩
theorem IsMax.congr {adj adj' : Nat → Nat → Prop} {n : Nat} {D : List Nat} {M : Nat → Option Nat} (ha : ∀ d ∈ D, ∀ l, adj d l ↔ adj' d l) (h : IsMax adj n D M) : IsMax adj' n D M :=
  ⟨h.1.congr ha, fun M' h' => h.2 M' (h'.congr fun d hd l => (ha d hd l).symm)⟩
end Go.Proofs.Ytnciemnlnijhfaa
