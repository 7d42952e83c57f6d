
/- Heights from rises, plainly: what rises by nothing around each cell is the rise of a height. -/
namespace Go.Proofs.YtafmpgikdhlknaaGreat
/-! Heights from rises: what rises by nothing around each cell is the rise of a height. -/
def rnd (H V : Nat → Nat → Int) (x y : Nat) : Int := H x y + V (x + 1) y - H x (y + 1) - V x y
def potZ (H V : Nat → Nat → Int) (x : Nat) : Nat → Int
  | 0 => (List.range x).foldl (fun s i => s + H i 0) 0
  | y + 1 => potZ H V x y + V x y
theorem potZ_x (H V : Nat → Nat → Int) (x : Nat) : potZ H V (x + 1) 0 = potZ H V x 0 + H x 0 := by
  unfold potZ; rw [List.range_succ, List.foldl_append]; rfl
theorem pot_h {H V : Nat → Nat → Int} {A B : Nat} (h : ∀ x y, x < A → y < B → rnd H V x y = 0) {x : Nat} (hx : x < A) : ∀ y, y ≤ B → potZ H V (x + 1) y - potZ H V x y = H x y
  | 0, _ => by rw [potZ_x]; omega
  | y + 1, hy => by
    have ih := pot_h h hx y (by omega)
    have h1 := h x y hx (by omega)
    unfold rnd at h1
    show potZ H V (x + 1) y + V (x + 1) y - (potZ H V x y + V x y) = _
    omega
theorem pot_v (H V : Nat → Nat → Int) (x y : Nat) : potZ H V x (y + 1) - potZ H V x y = V x y := by
  show potZ H V x y + V x y - _ = _; omega
def near4 (a b : Nat × Nat) : Prop := (a.2 = b.2 ∧ (a.1 = b.1 + 1 ∨ b.1 = a.1 + 1)) ∨ (a.1 = b.1 ∧ (a.2 = b.2 + 1 ∨ b.2 = a.2 + 1))
theorem near_symm {a b : Nat × Nat} (h : near4 a b) : near4 b a := by unfold near4 at *; omega
/-- both sides of both ways of a cell are as before -/
def sameAt (H V H' V' : Nat → Nat → Int) (x y : Nat) : Prop := H' x y = H x y ∧ H' x (y + 1) = H x (y + 1) ∧ V' x y = V x y ∧ V' (x + 1) y = V (x + 1) y
theorem same_rnd {H V H' V' : Nat → Nat → Int} {x y : Nat} (h : sameAt H V H' V' x y) : rnd H' V' x y = rnd H V x y := by
  obtain ⟨a, b, c, d⟩ := h; unfold rnd; rw [a, b, c, d]
def upd (H : Nat → Nat → Int) (x y : Nat) (v : Int) : Nat → Nat → Int := fun a b => if a = x ∧ b = y then v else H a b
theorem upd_eq (H : Nat → Nat → Int) (x y : Nat) (v : Int) : upd H x y v x y = v := by unfold upd; simp
theorem upd_ne {H : Nat → Nat → Int} {x y a b : Nat} {v : Int} (h : ¬ (a = x ∧ b = y)) : upd H x y v a b = H a b := by unfold upd; rw [if_neg h]
/-- one cell mended by the side to one beside it -/
theorem mend (H V : Nat → Nat → Int) (c p : Nat × Nat) (hn : near4 p c) :
    ∃ H' V', rnd H' V' c.1 c.2 = 0 ∧ ∀ d : Nat × Nat, d ≠ c → d ≠ p → sameAt H V H' V' d.1 d.2 := by
  obtain ⟨x, y⟩ := c
  obtain ⟨a, b⟩ := p
  unfold near4 at hn
  simp only at hn
  rcases hn with ⟨hy, h | h⟩ | ⟨hx, h | h⟩
  · subst hy; subst h
    refine ⟨H, upd V (x + 1) b (V (x + 1) b - rnd H V x b), ?_, ?_⟩
    · show rnd _ _ x b = 0
      unfold rnd; rw [upd_eq, upd_ne (by omega)]; omega
    · rintro ⟨u, v⟩ h1 h2
      simp only [ne_eq, Prod.mk.injEq] at h1 h2
      refine ⟨rfl, rfl, upd_ne ?_, upd_ne ?_⟩ <;> simp only <;> omega
  · subst hy; subst h
    refine ⟨H, upd V (a + 1) b (V (a + 1) b + rnd H V (a + 1) b), ?_, ?_⟩
    · show rnd _ _ (a + 1) b = 0
      unfold rnd; rw [upd_eq, upd_ne (by omega)]; omega
    · rintro ⟨u, v⟩ h1 h2
      simp only [ne_eq, Prod.mk.injEq] at h1 h2
      refine ⟨rfl, rfl, upd_ne ?_, upd_ne ?_⟩ <;> simp only <;> omega
  · subst hx; subst h
    refine ⟨upd H a (y + 1) (H a (y + 1) + rnd H V a y), V, ?_, ?_⟩
    · show rnd _ _ a y = 0
      unfold rnd; rw [upd_eq, upd_ne (by omega)]; omega
    · rintro ⟨u, v⟩ h1 h2
      simp only [ne_eq, Prod.mk.injEq] at h1 h2
      refine ⟨upd_ne ?_, upd_ne ?_, rfl, rfl⟩ <;> simp only <;> omega
  · subst hx; subst h
    refine ⟨upd H a (b + 1) (H a (b + 1) - rnd H V a (b + 1)), V, ?_, ?_⟩
    · show rnd _ _ a (b + 1) = 0
      unfold rnd; rw [upd_eq, upd_ne (by omega)]; omega
    · rintro ⟨u, v⟩ h1 h2
      simp only [ne_eq, Prod.mk.injEq] at h1 h2
      refine ⟨upd_ne ?_, upd_ne ?_, rfl, rfl⟩ <;> simp only <;> omega
/-- the cell at the edge mended by its own side -/
theorem mend0 (H V : Nat → Nat → Int) : ∃ H' V', rnd H' V' 0 0 = 0 ∧ ∀ d : Nat × Nat, d ≠ (0, 0) → sameAt H V H' V' d.1 d.2 := by
  refine ⟨upd H 0 0 (H 0 0 - rnd H V 0 0), V, ?_, ?_⟩
  · unfold rnd; rw [upd_eq, upd_ne (by omega)]; omega
  · rintro ⟨u, v⟩ h1
    simp only [ne_eq, Prod.mk.injEq] at h1
    refine ⟨upd_ne ?_, upd_ne ?_, rfl, rfl⟩ <;> simp only <;> omega
/-- cells told one by one, each but the first beside one that was told -/
inductive Grow (P : Nat × Nat → Prop) : List (Nat × Nat) → Prop
  | root : Grow P [(0, 0)]
  | add {q : List (Nat × Nat)} {c p : Nat × Nat} : Grow P q → c ∉ q → P c → p ∈ q → near4 p c → Grow P (c :: q)
/-- all of these can be mended, and no side of another cell changes -/
theorem mend_all {P : Nat × Nat → Prop} {q : List (Nat × Nat)} (hq : Grow P q) : ∀ H V : Nat → Nat → Int,
    ∃ H' V', (∀ c ∈ q, rnd H' V' c.1 c.2 = 0) ∧ ∀ d : Nat × Nat, d ∉ q → sameAt H V H' V' d.1 d.2 := by
  induction hq with
  | root =>
    intro H V
    obtain ⟨H', V', h1, h2⟩ := mend0 H V
    refine ⟨H', V', ?_, ?_⟩
    · intro c hc; rw [List.mem_singleton] at hc; subst hc; exact h1
    · intro d hd; rw [List.mem_singleton] at hd; exact h2 d hd
  | add hg hc hP hp hn ih =>
    rename_i q c p
    intro H V
    obtain ⟨H1, V1, h1, h2⟩ := mend H V c p hn
    obtain ⟨H2, V2, h3, h4⟩ := ih H1 V1
    refine ⟨H2, V2, ?_, ?_⟩
    · intro d hd
      rcases List.mem_cons.1 hd with rfl | hd
      · rw [same_rnd (h4 d hc)]; exact h1
      · exact h3 d hd
    · intro d hd
      have n1 : d ≠ c := fun e => hd (by rw [e]; exact List.mem_cons_self)
      have n2 : d ∉ q := fun e => hd (List.mem_cons_of_mem _ e)
      have n3 : d ≠ p := fun e => n2 (by rw [e]; exact hp)
      obtain ⟨a1, a2, a3, a4⟩ := h2 d n1 n3
      obtain ⟨b1, b2, b3, b4⟩ := h4 d n2
      exact ⟨b1.trans a1, b2.trans a2, b3.trans a3, b4.trans a4⟩
/-- what hangs together, over cells of a set -/
inductive Conn2 (P : Nat × Nat → Prop) : Nat × Nat → Nat × Nat → Prop
  | refl (a : Nat × Nat) : Conn2 P a a
  | step {a b c : Nat × Nat} : P b → near4 a b → Conn2 P b c → Conn2 P a c
theorem Grow.to {P : Nat × Nat → Prop} {a c : Nat × Nat} (h : Conn2 P a c) : ∀ q, Grow P q → a ∈ q → ∃ q', Grow P q' ∧ (∀ x ∈ q, x ∈ q') ∧ c ∈ q' := by
  induction h with
  | refl a => intro q hq ha; exact ⟨q, hq, fun _ h => h, ha⟩
  | step h1 h2 _ ih =>
    rename_i a b c _
    intro q hq ha
    by_cases hb : b ∈ q
    · exact ih q hq hb
    · obtain ⟨q', g, s, m⟩ := ih (b :: q) (.add hq hb h1 ha h2) List.mem_cons_self
      exact ⟨q', g, fun x hx => s x (List.mem_cons_of_mem _ hx), m⟩
theorem Grow.all {P : Nat × Nat → Prop} : ∀ l : List (Nat × Nat), (∀ c ∈ l, Conn2 P (0, 0) c) → ∃ q, Grow P q ∧ ∀ c ∈ l, c ∈ q
  | [], _ => ⟨_, .root, by simp⟩
  | a :: l, h => by
    obtain ⟨q, g, hq⟩ := Grow.all l (fun c hc => h c (List.mem_cons_of_mem _ hc))
    have h0 : (0, 0) ∈ q := by
      have : ∀ q, Grow P q → (0, 0) ∈ q := by
        intro q g
        induction g with
        | root => simp
        | add _ _ _ _ _ ih => exact List.mem_cons_of_mem _ ih
      exact this q g
    obtain ⟨q', g', s, m⟩ := Grow.to (h a List.mem_cons_self) q g h0
    refine ⟨q', g', fun c hc => ?_⟩
    rcases List.mem_cons.1 hc with rfl | hc
    · exact m
    · exact s c (hq c hc)
theorem Grow.mem {P : Nat × Nat → Prop} (h0 : P (0, 0)) {q : List (Nat × Nat)} (h : Grow P q) : ∀ c ∈ q, P c := by
  induction h with
  | root => intro c hc; rw [List.mem_singleton] at hc; subst hc; exact h0
  | add _ _ hP _ _ ih =>
    intro d hd
    rcases List.mem_cons.1 hd with rfl | hd
    · exact hP
    · exact ih d hd
/-- if all that is not in a set hangs together with the edge, and the rises around each cell of the set are nothing together, there are heights -/
theorem pot_ex {P : Nat × Nat → Prop} {A B : Nat} (H V : Nat → Nat → Int) (h0 : P (0, 0)) (hP : ∀ c, c.1 < A → c.2 < B → P c → Conn2 P (0, 0) c)
    (hR : ∀ c : Nat × Nat, c.1 < A → c.2 < B → ¬ P c → rnd H V c.1 c.2 = 0) :
    ∃ p : Nat → Nat → Int, ∀ c : Nat × Nat, c.1 < A → c.2 < B → ¬ P c →
      p (c.1 + 1) c.2 - p c.1 c.2 = H c.1 c.2 ∧ p (c.1 + 1) (c.2 + 1) - p c.1 (c.2 + 1) = H c.1 (c.2 + 1) ∧ p c.1 (c.2 + 1) - p c.1 c.2 = V c.1 c.2 ∧ p (c.1 + 1) (c.2 + 1) - p (c.1 + 1) c.2 = V (c.1 + 1) c.2 := by
  classical
  obtain ⟨q, g, hq⟩ := Grow.all (P := P) (((List.range A).flatMap fun x => (List.range B).map fun y => (x, y)).filter fun c => decide (P c)) (by
    intro c hc
    rw [List.mem_filter] at hc
    obtain ⟨hc, hp⟩ := hc
    obtain ⟨x, hx, hc⟩ := List.mem_flatMap.1 hc
    obtain ⟨y, hy, rfl⟩ := List.mem_map.1 hc
    exact hP _ (List.mem_range.1 hx) (List.mem_range.1 hy) (by simpa using hp))
  obtain ⟨H', V', h1, h2⟩ := mend_all g H V
  have hqP : ∀ c : Nat × Nat, ¬ P c → c ∉ q := fun c hc hm => hc (Grow.mem h0 g c hm)
  have hall : ∀ x y, x < A → y < B → rnd H' V' x y = 0 := by
    intro x y hx hy
    by_cases hp : P (x, y)
    · exact h1 (x, y) (hq _ (List.mem_filter.2 ⟨List.mem_flatMap.2 ⟨x, List.mem_range.2 hx, List.mem_map.2 ⟨y, List.mem_range.2 hy, rfl⟩⟩, by simpa using hp⟩))
    · rw [same_rnd (h2 (x, y) (hqP _ hp))]; exact hR (x, y) hx hy hp
  refine ⟨potZ H' V', fun c hx hy hc => ?_⟩
  obtain ⟨a1, a2, a3, a4⟩ := h2 c (hqP c hc)
  refine ⟨?_, ?_, ?_, ?_⟩
  · rw [← a1]; exact pot_h hall hx _ (by omega)
  · rw [← a2]; exact pot_h hall hx _ (by omega)
  · rw [← a3]; exact pot_v _ _ _ _
  · rw [← a4]; exact pot_v _ _ _ _
end Go.Proofs.YtafmpgikdhlknaaGreat
