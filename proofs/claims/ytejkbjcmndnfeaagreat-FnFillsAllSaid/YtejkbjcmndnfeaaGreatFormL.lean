
/- Forms of pieces, plainly: the forms of a form are the same; there are 1, 2, 4 or 8. -/
import Derived.Test.YtejkbjcmndnfeaaGreatFormN
namespace Go.Proofs.YtejkbjcmndnfeaaGreat

theorem nodup_leG {α : Type} [DecidableEq α] : ∀ (L p : List α), L.Nodup → (∀ a ∈ L, a ∈ p) → L.length ≤ p.length
  | [], p, _, _ => by simp
  | a :: L, p, hn, hs => by
    have h1 := List.nodup_cons.1 hn
    have hp : a ∈ p := hs a (by simp)
    have h2 := nodup_leG L (p.erase a) h1.2 (fun b hb => by
      have : b ≠ a := fun e => h1.1 (e ▸ hb)
      exact (List.mem_erase_of_ne this).2 (hs b (by simp [hb])))
    rw [List.length_erase_of_mem hp] at h2
    have : 0 < p.length := List.length_pos_of_mem hp
    simp; omega
theorem nodup_eqG {α : Type} [DecidableEq α] {L p : List α} (h1 : L.Nodup) (h2 : p.Nodup) (h : ∀ a, a ∈ L ↔ a ∈ p) : L.length = p.length :=
  Nat.le_antisymm (nodup_leG L p h1 (fun a ha => (h a).1 ha)) (nodup_leG p L h2 (fun a ha => (h a).2 ha))

/-! ### The eight, numbered: t^n is n, t^n f is n + 4 -/
def tI (i : Nat) : Nat := if i < 4 then (i + 1) % 4 else 4 + (i - 4 + 1) % 4
def sI (i : Nat) : Nat := if i < 4 then 4 + (4 - i) % 4 else (4 - (i - 4)) % 4
def mulI (i j : Nat) : Nat := if i < 4 then (if j < 4 then (i + j) % 4 else 4 + (i + (j - 4)) % 4) else (if j < 4 then 4 + ((i - 4) + (4 - j)) % 4 else ((i - 4) + (4 - (j - 4))) % 4)
def invI (i : Nat) : Nat := if i < 4 then (4 - i) % 4 else i
theorem t_walk {ps : List Ce} (h : PieceOk ps) {i : Nat} (hi : i < 8) : mvdV turnC (walkF ps i) = walkF ps (tI i) := by
  have ht4 : turnN 4 = turnN 0 := by funext c; simp [turnN, turnC]
  have ht5 : turnFlip 4 = turnFlip 0 := by funext c; simp [turnFlip, turnN, turnC]
  by_cases h3 : i = 3
  · subst h3
    show mvdV turnC (fmC (turnN 3) ps) = fmC (turnN 0) ps
    rw [turn_fm (ok_turnN h 3), ← ht4]; rfl
  · by_cases h7 : i = 7
    · subst h7
      show mvdV turnC (fmC (turnFlip 3) ps) = fmC (turnFlip 0) ps
      rw [turn_fm (ok_turnFlip h 3), ← ht5]; rfl
    · rw [walkF_step h h3]
      congr 1
      unfold tI
      split <;> omega
theorem s_walk {ps : List Ce} (h : PieceOk ps) {i : Nat} (hi : i < 8) : mvdV flipC (walkF ps i) = walkF ps (sI i) := by
  have key : ∀ (g k : Ce → Ce), PieceOk (ps.map g) → (∀ c, flipC (g c) = k c) → mvdV flipC (fmC g ps) = fmC k ps := fun g k hg e => by
    rw [flip_fm hg]
    congr 1
    funext c
    exact e c
  have : i = 0 ∨ i = 1 ∨ i = 2 ∨ i = 3 ∨ i = 4 ∨ i = 5 ∨ i = 6 ∨ i = 7 := by omega
  rcases this with rfl | rfl | rfl | rfl | rfl | rfl | rfl | rfl
  · exact key (turnN 0) (turnFlip 0) (ok_turnN h 0) (fun c => by simp [turnFlip, turnN])
  · exact key (turnN 1) (turnFlip 3) (ok_turnN h 1) (fun c => by simp [turnFlip, turnN, turnC, flipC])
  · exact key (turnN 2) (turnFlip 2) (ok_turnN h 2) (fun c => by simp [turnFlip, turnN, turnC, flipC])
  · exact key (turnN 3) (turnFlip 1) (ok_turnN h 3) (fun c => by simp [turnFlip, turnN, turnC, flipC])
  · exact key (turnFlip 0) (turnN 0) (ok_turnFlip h 0) (fun c => by simp [turnFlip, turnN, flipC])
  · exact key (turnFlip 1) (turnN 3) (ok_turnFlip h 1) (fun c => by simp [turnFlip, turnN, turnC, flipC])
  · exact key (turnFlip 2) (turnN 2) (ok_turnFlip h 2) (fun c => by simp [turnFlip, turnN, turnC, flipC])
  · exact key (turnFlip 3) (turnN 1) (ok_turnFlip h 3) (fun c => by simp [turnFlip, turnN, turnC, flipC])
/-- turned n times, a list of cells -/
noncomputable def tNl : Nat → List Ce → List Ce
  | 0, x => x
  | n + 1, x => mvdV turnC (tNl n x)
noncomputable def actL (i : Nat) (x : List Ce) : List Ce := if i < 4 then tNl i x else tNl (i - 4) (mvdV flipC x)
def tNi : Nat → Nat → Nat
  | 0, j => j
  | n + 1, j => tI (tNi n j)
theorem tI_lt (j : Nat) : tI j < 8 := by unfold tI; split <;> omega
theorem sI_lt (j : Nat) : sI j < 8 := by unfold sI; split <;> omega
theorem tNi_lt (n : Nat) {j : Nat} (h : j < 8) : tNi n j < 8 := by
  cases n with
  | zero => exact h
  | succ n => exact tI_lt _
theorem tNl_walk {ps : List Ce} (h : PieceOk ps) (n : Nat) {j : Nat} (hj : j < 8) : tNl n (walkF ps j) = walkF ps (tNi n j) := by
  induction n with
  | zero => rfl
  | succ n ih => unfold tNl tNi; rw [ih, t_walk h (tNi_lt n hj)]
theorem mul_tab : ∀ i, i < 8 → ∀ j, j < 8 → mulI i j < 8 ∧ (if i < 4 then tNi i j else tNi (i - 4) (sI j)) = mulI i j := by decide
theorem act_walk {ps : List Ce} (h : PieceOk ps) {i j : Nat} (hi : i < 8) (hj : j < 8) : actL i (walkF ps j) = walkF ps (mulI i j) := by
  obtain ⟨-, e⟩ := mul_tab i hi j hj
  unfold actL
  rw [← e]
  split
  · exact tNl_walk h i hj
  · rw [s_walk h hj, tNl_walk h _ (sI_lt j)]
theorem grp_tab : (∀ i, i < 8 → invI i < 8 ∧ mulI (invI i) i = 0) ∧ ∀ i, i < 8 → ∀ j, j < 8 → mulI (mulI i (invI j)) j = i := by decide
theorem assoc_tab : ∀ i, i < 8 → ∀ j, j < 8 → mulI i (mulI (invI i) j) = j := by decide
theorem zero_tab : ∀ i, i < 8 → mulI i 0 = i := by decide
theorem walkF_mem {ps x : List Ce} : x ∈ formsF ps ↔ ∃ i, i < 8 ∧ walkF ps i = x := by
  rw [← walkF_list, List.mem_map]
  constructor
  · rintro ⟨i, hi, e⟩; exact ⟨i, by simpa using hi, e⟩
  · rintro ⟨i, hi, e⟩; exact ⟨i, by simpa using hi, e⟩
/-- equal forms stay equal, turned and mirrored alike -/
theorem walk_eq {ps : List Ce} (h : PieceOk ps) {i j : Nat} (hi : i < 8) (hj : j < 8) : walkF ps i = walkF ps j ↔ walkF ps 0 = walkF ps (mulI (invI i) j) := by
  obtain ⟨gi, gz⟩ := grp_tab.1 i hi
  constructor
  · intro e
    have := congrArg (actL (invI i)) e
    rw [act_walk h gi hi, act_walk h gi hj, gz] at this
    exact this
  · intro e
    have := congrArg (actL i) e
    rw [act_walk h hi (by omega), act_walk h hi (mul_tab _ gi j hj).1, zero_tab i hi, assoc_tab i hi j hj] at this
    exact this
/-- the forms of a form are the forms -/
theorem forms_of_walk {ps : List Ce} (h : PieceOk ps) {k : Nat} (hk : k < 8) : formsV (walkF ps k) = formsV ps := by
  have hok := walkF_ok h k
  rw [formsV_ok hok, formsV_ok h]
  have hw : ∀ i, i < 8 → walkF (walkF ps k) i = walkF ps (mulI i k) := by
    intro i hi
    have h0 : walkF (walkF ps k) 0 = walkF ps k := by
      rw [← walkF_zero hok]
      unfold walkF
      split
      · unfold fmC
        rw [mvdV_ok stayC (ok_mvd (ok_turnN h k)), mvd_map (ok_turnN h k).ne stayC lin_stay, map_stay]
      · unfold fmC
        rw [mvdV_ok stayC (ok_mvd (ok_turnFlip h _)), mvd_map (ok_turnFlip h _).ne stayC lin_stay, map_stay]
    have h1 := act_walk hok hi (show 0 < 8 by omega)
    rw [zero_tab i hi, h0, act_walk h hi hk] at h1
    exact h1.symm
  refine incOf_eq (fun x => ?_)
  rw [walkF_mem, walkF_mem]
  constructor
  · rintro ⟨i, hi, rfl⟩
    exact ⟨mulI i k, (mul_tab i hi k hk).1, (hw i hi).symm⟩
  · rintro ⟨i, hi, rfl⟩
    have g1 := (grp_tab.1 k hk).1
    refine ⟨mulI i (invI k), (mul_tab i hi _ g1).1, ?_⟩
    rw [hw _ (mul_tab i hi _ g1).1, grp_tab.2 i hi k hk]
theorem forms_of_form {ps x : List Ce} (hx : x ∈ formsV ps) : formsV x = formsV ps ∧ PieceOk x := by
  have hp := (formsV_each hx).2
  have h := ok_of_pieceB hp
  rw [formsV_ok h, incOf_mem, walkF_mem] at hx
  obtain ⟨k, hk, rfl⟩ := hx
  exact ⟨forms_of_walk h hk, walkF_ok h k⟩
theorem first_mem {ps : List Ce} (h : PieceOk ps) : firstV ps ∈ formsV ps := by
  unfold firstV
  have := formsV_pos h
  cases hc : formsV ps with
  | nil => rw [hc] at this; simp at this
  | cons a l => simp
theorem first_no {ps : List Ce} (h : pieceB ps = false) : firstV ps = [] := by unfold firstV; rw [formsV_no h]; rfl
theorem first_len {ps : List Ce} (h : PieceOk ps) : (firstV ps).length = ps.length := (formsV_each (first_mem h)).1
/-- pieces with the same first form have the same forms -/
theorem same_forms {a b : List Ce} (ha : PieceOk a) (hb : PieceOk b) (h : firstV a = firstV b) : formsV a = formsV b ∧ a.length = b.length := by
  refine ⟨?_, by rw [← first_len ha, ← first_len hb, h]⟩
  rw [← (forms_of_form (first_mem ha)).1, h, (forms_of_form (first_mem hb)).1]
theorem moved_mem {ps : List Ce} (h : PieceOk ps) : mvdV stayC ps ∈ formsV ps := by
  rw [formsV_ok h, incOf_mem, walkF_mem]; exact ⟨0, by omega, (walkF_zero h).symm⟩
theorem turn_mem {ps x : List Ce} (hx : x ∈ formsV ps) : mvdV turnC x ∈ formsV ps := by
  have h := ok_of_pieceB (formsV_each hx).2
  rw [formsV_ok h, incOf_mem, walkF_mem] at *
  obtain ⟨k, hk, rfl⟩ := hx
  exact ⟨tI k, tI_lt k, (t_walk h hk).symm⟩
theorem flip_mem {ps x : List Ce} (hx : x ∈ formsV ps) : mvdV flipC x ∈ formsV ps := by
  have h := ok_of_pieceB (formsV_each hx).2
  rw [formsV_ok h, incOf_mem, walkF_mem] at *
  obtain ⟨k, hk, rfl⟩ := hx
  exact ⟨sI k, sI_lt k, (s_walk h hk).symm⟩
theorem turn_mem0 {ps : List Ce} (h : PieceOk ps) : mvdV turnC ps ∈ formsV ps := by
  rw [formsV_ok h, incOf_mem, walkF_mem]
  refine ⟨1, by omega, ?_⟩
  rw [mvdV_ok turnC h]; rfl
theorem flip_mem0 {ps : List Ce} (h : PieceOk ps) : mvdV flipC ps ∈ formsV ps := by
  rw [formsV_ok h, incOf_mem, walkF_mem]
  refine ⟨4, by omega, ?_⟩
  rw [mvdV_ok flipC h]; rfl

/-! ### How many there are -/
def bAt (bl : List Bool) (i : Nat) : Bool := bl.getD i false
def closedB (bl : List Bool) : Bool := (List.range 8).all fun i => (List.range 8).all fun j => !(bAt bl i && bAt bl j) || bAt bl (mulI i j)
def frstO (bl : List Bool) (i : Nat) : Bool := (List.range i).all fun j => !bAt bl (mulI (invI j) i)
def countB (bl : List Bool) : Nat := ((List.range 8).filter (frstO bl)).length
theorem count_tab : ∀ b1 b2 b3 b4 b5 b6 b7 : Bool, closedB [true, b1, b2, b3, b4, b5, b6, b7] = true → countB [true, b1, b2, b3, b4, b5, b6, b7] = 1 ∨ countB [true, b1, b2, b3, b4, b5, b6, b7] = 2 ∨ countB [true, b1, b2, b3, b4, b5, b6, b7] = 4 ∨ countB [true, b1, b2, b3, b4, b5, b6, b7] = 8 := by decide +kernel
theorem forms_count {ps : List Ce} (h : PieceOk ps) : (formsV ps).length = 1 ∨ (formsV ps).length = 2 ∨ (formsV ps).length = 4 ∨ (formsV ps).length = 8 := by
  let b : Nat → Bool := fun i => decide (walkF ps 0 = walkF ps i)
  have hb0 : b 0 = true := by simp [b]
  have hat : ∀ i, i < 8 → bAt [true, b 1, b 2, b 3, b 4, b 5, b 6, b 7] i = b i := by
    intro i hi
    have : i = 0 ∨ i = 1 ∨ i = 2 ∨ i = 3 ∨ i = 4 ∨ i = 5 ∨ i = 6 ∨ i = 7 := by omega
    rcases this with rfl | rfl | rfl | rfl | rfl | rfl | rfl | rfl
    · rw [hb0]; rfl
    all_goals rfl
  have hcl : closedB [true, b 1, b 2, b 3, b 4, b 5, b 6, b 7] = true := by
    unfold closedB
    rw [List.all_eq_true]
    intro i hi
    rw [List.all_eq_true]
    intro j hj
    have hi' : i < 8 := by simpa using hi
    have hj' : j < 8 := by simpa using hj
    rw [hat i hi', hat j hj', hat _ (mul_tab i hi' j hj').1]
    cases hbi : b i with
    | false => rfl
    | true => cases hbj : b j with
      | false => rfl
      | true =>
        have e1 : walkF ps 0 = walkF ps i := by simpa [b] using hbi
        have e2 : walkF ps 0 = walkF ps j := by simpa [b] using hbj
        have e3 := congrArg (actL i) e2
        rw [act_walk h hi' (by omega), act_walk h hi' hj', zero_tab i hi'] at e3
        have : b (mulI i j) = true := by simp only [b, decide_eq_true_eq]; rw [e1, e3]
        rw [this]; rfl
  have hfirst : ∀ i, i < 8 → (frstO [true, b 1, b 2, b 3, b 4, b 5, b 6, b 7] i = true ↔ ∀ j, j < i → walkF ps j ≠ walkF ps i) := by
    intro i hi
    unfold frstO
    rw [List.all_eq_true]
    constructor
    · intro hh j hj e
      have h1 := hh j (by simpa using hj)
      rw [hat _ (mul_tab _ (grp_tab.1 j (by omega)).1 i hi).1] at h1
      have := (walk_eq h (show j < 8 by omega) hi).1 e
      simp [b, this] at h1
    · intro hh j hj
      have hj' : j < i := by simpa using hj
      rw [hat _ (mul_tab _ (grp_tab.1 j (by omega)).1 i hi).1]
      have := hh j hj'
      rw [Ne, walk_eq h (show j < 8 by omega) hi] at this
      simpa [b] using this
  have hlen : (formsV ps).length = countB [true, b 1, b 2, b 3, b 4, b 5, b 6, b 7] := by
    unfold countB
    rw [← List.length_map (f := walkF ps), formsV_ok h]
    refine nodup_eqG (incOf_inc _).nodup ?_ (fun x => ?_)
    · unfold List.Nodup
      rw [List.pairwise_map]
      have hr : (List.range 8).Pairwise (· < ·) := List.pairwise_lt_range
      have hr2 := hr.filter (frstO [true, b 1, b 2, b 3, b 4, b 5, b 6, b 7])
      refine List.Pairwise.imp_of_mem (fun {i j} hi hj hij => ?_) hr2
      rw [List.mem_filter] at hj
      exact (hfirst j (by simpa using hj.1)).1 hj.2 i hij
    · rw [incOf_mem, walkF_mem, List.mem_map]
      constructor
      · rintro ⟨i, hi, rfl⟩
        induction i using Nat.strongRecOn with
        | _ i ih =>
          by_cases hf : frstO [true, b 1, b 2, b 3, b 4, b 5, b 6, b 7] i = true
          · exact ⟨i, by rw [List.mem_filter]; exact ⟨by simpa using hi, hf⟩, rfl⟩
          · rw [hfirst i hi] at hf
            have : ∃ j, j < i ∧ walkF ps j = walkF ps i := by
              refine Classical.byContradiction fun hk => hf (fun j hj e => hk ⟨j, hj, e⟩)
            obtain ⟨j, hj, e⟩ := this
            obtain ⟨k, hk1, hk2⟩ := ih j hj (by omega)
            exact ⟨k, hk1, by rw [hk2, e]⟩
      · rintro ⟨i, hi, rfl⟩
        rw [List.mem_filter] at hi
        exact ⟨i, by simpa using hi.1, rfl⟩
  rw [hlen]
  exact count_tab _ _ _ _ _ _ _ hcl
end Go.Proofs.YtejkbjcmndnfeaaGreat
