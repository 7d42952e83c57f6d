
/- What hangs together, and labels that spread, plainly. -/
namespace Go.Proofs.YtafmpgikdhlknaaGreat
theorem nodup_len {n : Nat} : ∀ (m : Nat) (L : List Nat), m = n → L.Nodup → (∀ a ∈ L, a < m) → L.length ≤ m
  | m, L, _, hn, h => by
    have : L.length ≤ (List.range m).length := by
      have key : ∀ (L p : List Nat), L.Nodup → (∀ a ∈ L, a ∈ p) → L.length ≤ p.length := by
        intro L
        induction L with
        | nil => intro p _ _; simp
        | cons a L ih =>
          intro p hn hs
          obtain ⟨h1, h2⟩ := List.nodup_cons.1 hn
          have ha := hs a List.mem_cons_self
          have := ih (p.erase a) h2 (fun b hb => (List.mem_erase_of_ne (by rintro rfl; exact h1 hb)).2 (hs b (List.mem_cons_of_mem _ hb)))
          rw [List.length_erase_of_mem ha] at this
          have hp : 0 < p.length := List.length_pos_of_mem ha
          simp only [List.length_cons]; omega
      exact key L _ hn (fun a ha => List.mem_range.2 (h a ha))
    simpa using this
/-- what hangs together, over places of a set -/
inductive Conn (P : Nat → Prop) (adj : Nat → Nat → Prop) : Nat → Nat → Prop
  | refl (a : Nat) : Conn P adj a a
  | step {a b c : Nat} : P b → adj a b → Conn P adj b c → Conn P adj a c
/-- .. within so many steps -/
inductive Within (P : Nat → Prop) (adj : Nat → Nat → Prop) : Nat → Nat → Nat → Prop
  | refl (k a : Nat) : Within P adj k a a
  | step {k a b c : Nat} : P b → adj a b → Within P adj k b c → Within P adj (k + 1) a c
section
variable {P : Nat → Prop} {adj : Nat → Nat → Prop}
theorem Conn.trans {a b c : Nat} (h : Conn P adj a b) (k : Conn P adj b c) : Conn P adj a c := by
  induction h with
  | refl _ => exact k
  | step h1 h2 _ ih => exact .step h1 h2 (ih k)
theorem Conn.one {a b : Nat} (h : P b) (h2 : adj a b) : Conn P adj a b := .step h h2 (.refl _)
theorem Conn.symm (hs : ∀ a b, adj a b → adj b a) {a b : Nat} (ha : P a) (h : Conn P adj a b) : Conn P adj b a := by
  induction h with
  | refl _ => exact .refl _
  | step h1 h2 _ ih => exact (ih h1).trans (.one ha (hs _ _ h2))
theorem Conn.mem {a b : Nat} (ha : P a) (h : Conn P adj a b) : P b := by
  induction h with
  | refl _ => exact ha
  | step h1 _ _ ih => exact ih h1
theorem Within.mono {k k' a b : Nat} (h : Within P adj k a b) (hk : k ≤ k') : Within P adj k' a b := by
  induction h generalizing k' with
  | refl _ _ => exact .refl _ _
  | step h1 h2 _ ih =>
    obtain ⟨m, rfl⟩ : ∃ m, k' = m + 1 := ⟨k' - 1, by omega⟩
    exact .step h1 h2 (ih (by omega))
/-- a way without loops -/
inductive Way (P : Nat → Prop) (adj : Nat → Nat → Prop) : Nat → Nat → List Nat → Prop
  | refl (a : Nat) : Way P adj a a [a]
  | step {a b c : Nat} {L : List Nat} : P b → adj a b → Way P adj b c L → Way P adj a c (a :: L)
theorem Way.from {a c : Nat} {L : List Nat} (h : Way P adj a c L) (hn : L.Nodup) : ∀ b ∈ L, ∃ L', Way P adj b c L' ∧ L'.Nodup ∧ (∀ x ∈ L', x ∈ L) := by
  induction h with
  | refl a => intro b hb; rw [List.mem_singleton] at hb; subst hb; exact ⟨_, .refl _, by simp, fun _ h => h⟩
  | step h1 h2 h3 ih =>
    rename_i a' b' c' L'
    intro b hb
    rcases List.mem_cons.1 hb with rfl | hb
    · exact ⟨_, .step h1 h2 h3, hn, fun _ h => h⟩
    · obtain ⟨L2, w, nd, hs⟩ := ih (List.nodup_cons.1 hn).2 b hb
      exact ⟨L2, w, nd, fun x hx => List.mem_cons_of_mem _ (hs x hx)⟩
theorem Way.ofConn {a c : Nat} (h : Conn P adj a c) : ∃ L, Way P adj a c L ∧ L.Nodup := by
  induction h with
  | refl a => exact ⟨_, .refl a, by simp⟩
  | step h1 h2 _ ih =>
    rename_i a b c _
    obtain ⟨L, w, nd⟩ := ih
    by_cases ha : a ∈ L
    · obtain ⟨L', w', nd', _⟩ := w.from nd a ha; exact ⟨L', w', nd'⟩
    · exact ⟨a :: L, .step h1 h2 w, List.nodup_cons.2 ⟨ha, nd⟩⟩
theorem Way.within {a c : Nat} {L : List Nat} (h : Way P adj a c L) : Within P adj L.length a c := by
  induction h with
  | refl a => exact .refl _ _
  | step h1 h2 _ ih => exact .step h1 h2 ih
theorem Way.mem {a c : Nat} {L : List Nat} (h : Way P adj a c L) (ha : P a) : ∀ x ∈ L, P x := by
  induction h with
  | refl a => intro x hx; rw [List.mem_singleton] at hx; subst hx; exact ha
  | step h1 _ _ ih =>
    intro x hx
    rcases List.mem_cons.1 hx with rfl | hx
    · exact ha
    · exact ih h1 x hx
/-- n places: within n steps -/
theorem Conn.within {n a c : Nat} (hn : ∀ x, P x → x < n) (ha : P a) (h : Conn P adj a c) : Within P adj n a c := by
  obtain ⟨L, w, nd⟩ := Way.ofConn h
  exact w.within.mono (nodup_len n L rfl nd (fun x hx => hn x (w.mem ha x hx)))
theorem Within.conn {k a c : Nat} (h : Within P adj k a c) : Conn P adj a c := by
  induction h with
  | refl _ _ => exact .refl _
  | step h1 h2 _ ih => exact .step h1 h2 ih
/-- labels after a round: none greater than before or than those beside it, each one of a place that hangs together with it -/
def RoundL (P : Nat → Prop) (adj : Nat → Nat → Prop) (L L' : Nat → Int) : Prop :=
  ∀ c, P c → L' c ≤ L c ∧ (∀ d, P d → adj c d → L' c ≤ L d) ∧ ∃ d, P d ∧ Conn P adj c d ∧ L' c = L d
theorem label_le {L : Nat → Nat → Int} {n : Nat} (h0 : ∀ c, P c → L 0 c = c) (h : ∀ k, k < n → RoundL P adj (L k) (L (k + 1))) :
    ∀ k, k ≤ n → ∀ c d, P c → Within P adj k c d → L k c ≤ d := by
  intro k
  induction k with
  | zero => intro _ c d hc w; cases w; rw [h0 c hc]; exact Int.le_refl _
  | succ k ih =>
    intro hk c d hc w
    cases w with
    | refl _ _ =>
      have h1 := (h k (by omega) c hc).1
      have h2 := ih (by omega) c c hc (.refl _ _)
      omega
    | step h1 h2 h3 =>
      have a := (h k (by omega) c hc).2.1 _ h1 h2
      have b := ih (by omega) _ d h1 h3
      omega
theorem label_of {L : Nat → Nat → Int} {n : Nat} (h0 : ∀ c, P c → L 0 c = c) (h : ∀ k, k < n → RoundL P adj (L k) (L (k + 1))) :
    ∀ k, k ≤ n → ∀ c, P c → ∃ d : Nat, L k c = d ∧ P d ∧ Conn P adj c d := by
  intro k
  induction k with
  | zero => intro _ c hc; exact ⟨c, h0 c hc, hc, .refl _⟩
  | succ k ih =>
    intro hk c hc
    obtain ⟨-, -, d, hd, hcd, e⟩ := h k (by omega) c hc
    obtain ⟨d', e', hd', hdd'⟩ := ih (by omega) d hd
    exact ⟨d', by rw [e, e'], hd', hcd.trans hdd'⟩
/-- after n rounds: the least one that hangs together -/
theorem label_end {L : Nat → Nat → Int} {n : Nat} (hn : ∀ x, P x → x < n) (h0 : ∀ c, P c → L 0 c = c) (h : ∀ k, k < n → RoundL P adj (L k) (L (k + 1))) {c : Nat} (hc : P c) :
    (∃ d : Nat, L n c = d ∧ P d ∧ Conn P adj c d) ∧ ∀ d, Conn P adj c d → L n c ≤ d :=
  ⟨label_of h0 h n (Nat.le_refl _) c hc, fun d hd => label_le h0 h n (Nat.le_refl _) c d hc (hd.within hn hc)⟩
/-- all hangs together: one root, the least one -/
theorem root_one {L : Nat → Nat → Int} {n m : Nat} (hn : ∀ x, P x → x < n) (h0 : ∀ c, P c → L 0 c = c) (h : ∀ k, k < n → RoundL P adj (L k) (L (k + 1)))
    (hall : ∀ c, P c → Conn P adj c m) (hle : ∀ c, P c → m ≤ c) : ∀ c, P c → (L n c = c ↔ c = m) := by
  intro c hc
  obtain ⟨⟨d, e, hd, -⟩, hl⟩ := label_end hn h0 h hc
  have h1 := hl m (hall c hc)
  have h2 := hle d hd
  have h3 := hle c hc
  constructor
  · intro h4; omega
  · intro h4; omega
/-- one root alone: all hangs together -/
theorem one_root {L : Nat → Nat → Int} {n m : Nat} (hn : ∀ x, P x → x < n) (h0 : ∀ c, P c → L 0 c = c) (h : ∀ k, k < n → RoundL P adj (L k) (L (k + 1)))
    (huni : ∀ c, P c → L n c = c → c = m) : ∀ c, P c → Conn P adj c m := by
  intro c hc
  obtain ⟨⟨d, e, hd, hcd⟩, hl⟩ := label_end hn h0 h hc
  obtain ⟨⟨d', e', hd', hdd'⟩, hl'⟩ := label_end hn h0 h hd
  have h1 := hl d' (hcd.trans hdd')
  have h2 := hl' d (.refl _)
  have h3 : d = m := huni d hd (by omega)
  rw [← h3]; exact hcd
end
end Go.Proofs.YtafmpgikdhlknaaGreat
