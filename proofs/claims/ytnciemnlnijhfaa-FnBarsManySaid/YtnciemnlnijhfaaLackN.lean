/- Sets of dark cells with too few cells beside them, plainly. -/
import Derived.Test.YtnciemnlnijhfaaBesideN
import Derived.Test.YtnciemnlnijhfaaPopN
namespace Go.Proofs.Ytnciemnlnijhfaa

/-- the cells of a set among the first k -/
def selTo (D : List Int) (s : Nat) : Nat → List Int
  | 0 => []
  | k + 1 => selTo D s k ++ (if s.testBit k = true then [D.getD k 0] else [])
theorem sel_t {D : List Int} {s k : Nat} (h : s.testBit k = true) : selTo D s (k + 1) = selTo D s k ++ [D.getD k 0] := by show selTo D s k ++ _ = _; rw [if_pos h]
theorem sel_f {D : List Int} {s k : Nat} (h : s.testBit k = false) : selTo D s (k + 1) = selTo D s k := by show selTo D s k ++ _ = _; rw [h]; simp
theorem sel_len (D : List Int) (s k : Nat) : (selTo D s k).length = bitsCnt k s := by
  induction k with
  | zero => rfl
  | succ k ih =>
    unfold bitsCnt at *
    rw [List.range_succ, List.filter_append, List.length_append, ← ih]
    cases h : s.testBit k with
    | true => rw [sel_t h]; simp [h]
    | false => rw [sel_f h]; simp [h]
theorem bits_bd (k s : Nat) : bitsCnt k s ≤ k := by unfold bitsCnt; have := List.length_filter_le (fun i => s.testBit i) (List.range k); simpa using this
theorem bits_low {m s : Nat} (hm : m ≤ 64) (hs : s < 2 ^ m) : bitsCnt 64 s = bitsCnt m s := by
  unfold bitsCnt
  rw [show 64 = m + (64 - m) by omega, List.range_add, List.filter_append, List.length_append]
  have : ((List.range (64 - m)).map (m + ·)).filter (fun i => s.testBit i) = [] := by
    rw [List.filter_eq_nil_iff]
    intro i hi
    obtain ⟨j, -, rfl⟩ := List.mem_map.1 hi
    rw [Nat.testBit_lt_two_pow (Nat.lt_of_lt_of_le hs (Nat.pow_le_pow_right (by omega) (by omega)))]
    simp
  rw [this]; rfl
theorem sel_mem {D : List Int} {s k : Nat} {x : Int} : x ∈ selTo D s k ↔ ∃ i, i < k ∧ s.testBit i = true ∧ D.getD i 0 = x := by
  induction k with
  | zero => simp [selTo]
  | succ k ih =>
    cases h : s.testBit k with
    | true =>
      rw [sel_t h, List.mem_append, ih]
      constructor
      · rintro (⟨i, h1, h2⟩ | h1)
        · exact ⟨i, by omega, h2⟩
        · simp at h1; exact ⟨k, by omega, h, by simpa using h1.symm⟩
      · rintro ⟨i, h1, h2, h3⟩
        rcases Nat.lt_or_ge i k with h4 | h4
        · exact .inl ⟨i, h4, h2, h3⟩
        · obtain rfl : i = k := by omega
          exact .inr (by simpa using h3.symm)
    | false =>
      rw [sel_f h, ih]
      constructor
      · rintro ⟨i, h1, h2⟩; exact ⟨i, by omega, h2⟩
      · rintro ⟨i, h1, h2, h3⟩
        rcases Nat.lt_or_ge i k with h4 | h4
        · exact ⟨i, h4, h2, h3⟩
        · obtain rfl : i = k := by omega
          rw [h] at h2; cases h2
def lackZ (W T : Int) (bs : List Bool) (D : List Int) (s : Nat) : Int := ((selTo D s D.length).length : Int) - (besL W T bs (selTo D s D.length)).length
/-- the first set with the most, and the most, of the first N -/
def bestTo (W T : Int) (bs : List Bool) (D : List Int) : Nat → Nat × Int
  | 0 => (0, 0)
  | s + 1 => if (bestTo W T bs D s).2 < lackZ W T bs D s then (s, lackZ W T bs D s) else bestTo W T bs D s
theorem best_t {W T : Int} {bs : List Bool} {D : List Int} {s : Nat} (h : (bestTo W T bs D s).2 < lackZ W T bs D s) : bestTo W T bs D (s + 1) = (s, lackZ W T bs D s) := by show ite _ _ _ = _; rw [if_pos h]
theorem best_f {W T : Int} {bs : List Bool} {D : List Int} {s : Nat} (h : ¬ (bestTo W T bs D s).2 < lackZ W T bs D s) : bestTo W T bs D (s + 1) = bestTo W T bs D s := by show ite _ _ _ = _; rw [if_neg h]
theorem best_max (W T : Int) (bs : List Bool) (D : List Int) (s : Nat) : (bestTo W T bs D (s + 1)).2 = max (bestTo W T bs D s).2 (lackZ W T bs D s) := by
  by_cases h : (bestTo W T bs D s).2 < lackZ W T bs D s
  · rw [best_t h]; simp only; omega
  · rw [best_f h]; omega
theorem nbr_nil (W T k : Int) (j : Nat) : nbrTo W T [] k j = false := by
  induction j with
  | zero => rfl
  | succ j ih => unfold nbrTo; rw [ih]; simp
theorem bes_nil (W T : Int) (bs : List Bool) : besL W T bs [] = [] := by
  unfold besL pickTo
  have : (List.range bs.length).filter (isBes W T bs []) = [] := by
    rw [List.filter_eq_nil_iff]
    intro i _
    unfold isBes
    rw [nbr_nil]; simp
  rw [this]; rfl
theorem sel_zero (D : List Int) (k : Nat) : selTo D 0 k = [] := by
  induction k with
  | zero => rfl
  | succ k ih => rw [sel_f (by simp), ih]
theorem lack_zero (W T : Int) (bs : List Bool) (D : List Int) : lackZ W T bs D 0 = 0 := by unfold lackZ; rw [sel_zero, bes_nil]; rfl
/-- it is reached, first at that set -/
theorem best_at (W T : Int) (bs : List Bool) (D : List Int) (N : Nat) : (bestTo W T bs D (N + 1)).1 < N + 1 ∧ lackZ W T bs D (bestTo W T bs D (N + 1)).1 = (bestTo W T bs D (N + 1)).2 ∧ ∀ s, s < (bestTo W T bs D (N + 1)).1 → lackZ W T bs D s ≠ (bestTo W T bs D (N + 1)).2 := by
  have hle : ∀ M s, s < M → lackZ W T bs D s ≤ (bestTo W T bs D M).2 := by
    intro M
    induction M with
    | zero => intro s h; omega
    | succ M ih =>
      intro s h
      rw [best_max]
      rcases Nat.lt_or_ge s M with h1 | h1
      · have := ih s h1; omega
      · obtain rfl : s = M := by omega
        omega
  induction N with
  | zero =>
    have h : ¬ (bestTo W T bs D 0).2 < lackZ W T bs D 0 := by rw [lack_zero]; show ¬ ((0 : Int) < 0); omega
    rw [best_f h]
    exact ⟨by show 0 < 1; omega, lack_zero _ _ _ _, fun s h => by have : s < 0 := h; omega⟩
  | succ N ih =>
    obtain ⟨h1, h2, h3⟩ := ih
    by_cases h : (bestTo W T bs D (N + 1)).2 < lackZ W T bs D (N + 1)
    · rw [best_t h]
      refine ⟨by show N + 1 < N + 1 + 1; omega, rfl, fun s hs => ?_⟩
      have hs' : s < N + 1 := hs
      have := hle (N + 1) s hs'
      show _ ≠ lackZ W T bs D (N + 1)
      omega
    · rw [best_f h]
      exact ⟨by omega, h2, h3⟩
theorem lack_bd (W T : Int) (bs : List Bool) (D : List Int) (s : Nat) (hn : bs.length ≤ 36) : -36 ≤ lackZ W T bs D s ∧ lackZ W T bs D s ≤ D.length := by
  have h1 := besL_len W T bs (selTo D s D.length)
  have h2 := sel_len D s D.length
  have h3 := bits_bd D.length s
  unfold lackZ
  omega
theorem best_bd (W T : Int) (bs : List Bool) (D : List Int) (N : Nat) (hn : bs.length ≤ 36) : 0 ≤ (bestTo W T bs D N).2 ∧ (bestTo W T bs D N).2 ≤ D.length ∧ (bestTo W T bs D N).1 ≤ N := by
  induction N with
  | zero => exact ⟨Int.le_refl _, by show (0 : Int) ≤ _; omega, Nat.le_refl _⟩
  | succ N ih =>
    have h := lack_bd W T bs D N hn
    by_cases hl : (bestTo W T bs D N).2 < lackZ W T bs D N
    · rw [best_t hl]; exact ⟨by simp only; omega, h.2, by simp only; omega⟩
    · rw [best_f hl]; exact ⟨ih.1, ih.2.1, by omega⟩

/-! ### Masks -/
/-- a number that has the bits of a list -/
def Msk (x : Nat) (l : List Int) : Prop := x < 18446744073709551616 ∧ ∀ y : Nat, x.testBit y = true ↔ (y : Int) ∈ l
theorem Msk.nil : Msk 0 [] := ⟨by omega, fun y => by simp⟩
theorem Msk.add {x : Nat} {l : List Int} (h : Msk x l) {y : Nat} (hy : y < 64) : Msk (x ||| 2 ^ y) (l ++ [(y : Int)]) := by
  refine ⟨?_, fun z => ?_⟩
  · have := Nat.or_lt_two_pow (n := 64) h.1 (show 2 ^ y < 2 ^ 64 from Nat.pow_lt_pow_right (by omega) hy)
    omega
  · rw [Nat.testBit_or, Bool.or_eq_true, h.2, List.mem_append, Nat.testBit_two_pow]
    simp
    constructor
    · rintro (h1 | h1)
      · exact .inl h1
      · exact .inr (by omega)
    · rintro (h1 | h1)
      · exact .inl h1
      · exact .inr (by omega)
theorem Msk.or {x y : Nat} {l m n : List Int} (h : Msk x l) (k : Msk y m) (hn : ∀ z : Nat, (z : Int) ∈ n ↔ (z : Int) ∈ l ∨ (z : Int) ∈ m) : Msk (x ||| y) n := by
  refine ⟨?_, fun z => ?_⟩
  · have := Nat.or_lt_two_pow (n := 64) h.1 k.1
    omega
  · rw [Nat.testBit_or, Bool.or_eq_true, h.2, k.2, hn]
/-- cells beside those and one more -/
theorem bes_more (W T : Int) (bs : List Bool) (l : List Int) (c : Int) (z : Int) : z ∈ besL W T bs (l ++ [c]) ↔ z ∈ besL W T bs l ∨ z ∈ besL W T bs [c] := by
  unfold besL
  rw [mem_pick, mem_pick, mem_pick]
  unfold isBes
  constructor
  · rintro ⟨i, hi, hp, rfl⟩
    rw [Bool.and_eq_true, nbr_iff] at hp
    obtain ⟨hb, d, d1, d2, s0, hs⟩ := hp
    rcases List.mem_append.1 hs with h | h
    · exact .inl ⟨i, hi, by rw [Bool.and_eq_true, nbr_iff]; exact ⟨hb, d, d1, d2, s0, h⟩, rfl⟩
    · exact .inr ⟨i, hi, by rw [Bool.and_eq_true, nbr_iff]; exact ⟨hb, d, d1, d2, s0, h⟩, rfl⟩
  · rintro (⟨i, hi, hp, rfl⟩ | ⟨i, hi, hp, rfl⟩)
    · rw [Bool.and_eq_true, nbr_iff] at hp
      obtain ⟨hb, d, d1, d2, s0, hs⟩ := hp
      exact ⟨i, hi, by rw [Bool.and_eq_true, nbr_iff]; exact ⟨hb, d, d1, d2, s0, List.mem_append_left _ hs⟩, rfl⟩
    · rw [Bool.and_eq_true, nbr_iff] at hp
      obtain ⟨hb, d, d1, d2, s0, hs⟩ := hp
      exact ⟨i, hi, by rw [Bool.and_eq_true, nbr_iff]; exact ⟨hb, d, d1, d2, s0, List.mem_append_right _ hs⟩, rfl⟩
/-- the bits of a mask are as many as the cells -/
theorem Msk.cnt {x : Nat} {p : Nat → Bool} {n : Nat} (hn : n ≤ 64) (h : Msk x (pickTo p n)) : bitsCnt 64 x = (pickTo p n).length := by
  have e : ∀ y, x.testBit y = (decide (y < n) && p y) := fun y => by
    have := h.2 y
    rw [mem_pick] at this
    cases hb : x.testBit y with
    | true =>
      obtain ⟨i, hi, hp, e⟩ := this.1 hb
      have : y = i := by omega
      subst this
      simp [hi, hp]
    | false =>
      cases hc : (decide (y < n) && p y) with
      | false => rfl
      | true =>
        rw [Bool.and_eq_true, decide_eq_true_eq] at hc
        rw [this.2 ⟨y, hc.1, hc.2, rfl⟩] at hb; cases hb
  unfold bitsCnt pickTo
  rw [List.length_map, show 64 = n + (64 - n) by omega, List.range_add, List.filter_append, List.length_append]
  have e1 : ((List.range (64 - n)).map (n + ·)).filter (fun i => x.testBit i) = [] := by
    rw [List.filter_eq_nil_iff]
    intro i hi
    obtain ⟨j, -, rfl⟩ := List.mem_map.1 hi
    rw [e]
    have : ¬ (n + j < n) := by omega
    simp [this]
  have e2 : (List.range n).filter (fun i => x.testBit i) = (List.range n).filter p := by
    refine List.filter_congr (fun i hi => ?_)
    rw [List.mem_range] at hi
    rw [e]; simp [hi]
  rw [e1, e2]; rfl
end Go.Proofs.Ytnciemnlnijhfaa
