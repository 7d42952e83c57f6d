/- Cells beside some cells, plainly. -/
import Derived.Test.YtnciemnlnijhfaaStepN
import Derived.Test.YtnciemnlnijhfaaDark
import Derived.Lib.SlicesCompact
namespace Go.Proofs.Ytnciemnlnijhfaa
open Go.RowKit

theorem mem_pick {p : Nat → Bool} {k : Nat} {x : Int} : x ∈ pickTo p k ↔ ∃ i : Nat, i < k ∧ p i = true ∧ x = i := by
  unfold pickTo
  rw [List.mem_map]
  constructor
  · rintro ⟨i, hi, rfl⟩
    rw [List.mem_filter, List.mem_range] at hi
    exact ⟨i, hi.1, hi.2, rfl⟩
  · rintro ⟨i, hi, hp, rfl⟩
    exact ⟨i, by rw [List.mem_filter, List.mem_range]; exact ⟨hi, hp⟩, rfl⟩
theorem pick_sorted (p : Nat → Bool) (k : Nat) : (pickTo p k).Pairwise (· < ·) := by
  induction k with
  | zero => simp [pickTo]
  | succ k ih =>
    cases h : p k with
    | false => rw [pick_f h]; exact ih
    | true =>
      rw [pick_t h, List.pairwise_append]
      refine ⟨ih, by simp, fun x hx y hy => ?_⟩
      obtain ⟨i, hi, -, rfl⟩ := mem_pick.1 hx
      simp at hy; subst hy; omega
theorem lt_unique : ∀ {a b : List Int}, a.Pairwise (· < ·) → b.Pairwise (· < ·) → (∀ x, x ∈ a ↔ x ∈ b) → a = b
  | [], [], _, _, _ => rfl
  | [], y :: b, _, _, h => absurd ((h y).2 (by simp)) (by simp)
  | x :: a, [], _, _, h => absurd ((h x).1 (by simp)) (by simp)
  | x :: a, y :: b, ha, hb, h => by
    rw [List.pairwise_cons] at ha hb
    have hxy : x = y := by
      have h1 : x ∈ y :: b := (h x).1 (by simp)
      have h2 : y ∈ x :: a := (h y).2 (by simp)
      rcases List.mem_cons.1 h1 with e | e
      · exact e
      · rcases List.mem_cons.1 h2 with e2 | e2
        · exact e2.symm
        · have := hb.1 x e; have := ha.1 y e2; omega
    subst hxy
    congr 1
    refine lt_unique ha.2 hb.2 (fun z => ?_)
    constructor
    · intro hz
      have := ha.1 z hz
      rcases List.mem_cons.1 ((h z).1 (by simp [hz])) with e | e
      · omega
      · exact e
    · intro hz
      have := hb.1 z hz
      rcases List.mem_cons.1 ((h z).2 (by simp [hz])) with e | e
      · omega
      · exact e
theorem compact_up (d : Array Int) (hs : ∀ i j, i ≤ j → j < d.size → d[i]! ≤ d[j]!) (m : Nat) (hm : m ≤ d.size) :
    (Lib.compactUpTo d m).Pairwise (· < ·) ∧ ∀ x, x ∈ Lib.compactUpTo d m ↔ ∃ j, j < m ∧ d[j]! = x := by
  induction m with
  | zero => simp [Lib.compactUpTo]
  | succ m ih =>
    obtain ⟨ih1, ih2⟩ := ih (by omega)
    rw [Lib.compactUpTo_succ]
    by_cases hk : m = 0 ∨ d[m]! ≠ d[m - 1]!
    · have e : Lib.keeps d m = true := by unfold Lib.keeps; simpa using hk
      rw [if_pos e]
      refine ⟨?_, fun x => ?_⟩
      · rw [List.pairwise_append]
        refine ⟨ih1, by simp, fun x hx y hy => ?_⟩
        simp at hy; subst hy
        obtain ⟨j, hj, rfl⟩ := (ih2 x).1 hx
        rcases hk with h | h
        · omega
        · have h1 := hs j (m - 1) (by omega) (by omega)
          have h2 := hs (m - 1) m (by omega) (by omega)
          omega
      · rw [List.mem_append, ih2]
        constructor
        · rintro (⟨j, hj, rfl⟩ | h)
          · exact ⟨j, by omega, rfl⟩
          · simp at h; exact ⟨m, by omega, h.symm⟩
        · rintro ⟨j, hj, rfl⟩
          rcases Nat.lt_or_ge j m with h | h
          · exact .inl ⟨j, h, rfl⟩
          · obtain rfl : j = m := by omega
            exact .inr (by simp)
    · have e : Lib.keeps d m = false := by unfold Lib.keeps; simp; simp at hk; omega
      rw [e]
      simp only [Bool.false_eq_true, if_false, List.append_nil]
      refine ⟨ih1, fun x => ?_⟩
      rw [ih2]
      have hk1 : 0 < m := by omega
      have hk2 : d[m]! = d[m - 1]! := by
        rcases Decidable.em (d[m]! = d[m - 1]!) with h | h
        · exact h
        · exact absurd (Or.inr h) hk
      constructor
      · rintro ⟨j, hj, rfl⟩; exact ⟨j, by omega, rfl⟩
      · rintro ⟨j, hj, rfl⟩
        rcases Nat.lt_or_ge j m with h | h
        · exact ⟨j, h, rfl⟩
        · obtain rfl : j = m := by omega
          exact ⟨j - 1, by omega, hk2.symm⟩
/-- sorted and compacted: the cells of it, in order -/
theorem compact_sort (l : List Int) (p : Nat → Bool) (n : Nat) (h : ∀ x, x ∈ l ↔ ∃ i : Nat, i < n ∧ p i = true ∧ x = i) :
    Lib.compact (l.mergeSort fun x y => decide (x ≤ y)) = pickTo p n := by
  have hp := List.mergeSort_perm l (fun x y => decide (x ≤ y))
  have hpw := List.pairwise_mergeSort (le := fun x y : Int => decide (x ≤ y)) (fun a b c h1 h2 => by simp at *; omega) (fun a b => by simp; omega) l
  generalize l.mergeSort (fun x y => decide (x ≤ y)) = s at hp hpw
  have hs : ∀ i j, i ≤ j → j < s.toArray.size → s.toArray[i]! ≤ s.toArray[j]! := fun i j hij hj => by
    have hj' : j < s.length := by simpa using hj
    rcases Nat.lt_or_ge i j with h1 | h1
    · have := (List.pairwise_iff_getElem.1 hpw) i j (by omega) hj' h1
      simp at this
      simpa [hj', show i < s.length by omega] using this
    · obtain rfl : i = j := by omega
      exact Int.le_refl _
  have hc := compact_up s.toArray hs s.length (by simp)
  refine lt_unique hc.1 (pick_sorted p n) (fun x => ?_)
  unfold Lib.compact
  rw [hc.2, mem_pick, ← h x, ← hp.mem_iff]
  constructor
  · rintro ⟨j, hj, rfl⟩
    simp [hj]
  · intro hx
    obtain ⟨j, hj, e⟩ := List.getElem_of_mem hx
    exact ⟨j, hj, by simp [hj, e]⟩

/-! ### The cells beside -/
/-- a step and back -/
theorem step_rev {W T c d : Int} (h1 : 1 ≤ W) (h2 : W ≤ 6) (h3 : 1 ≤ T) (h4 : T ≤ 6) (c0 : 0 ≤ c) (c1 : c < W * T) (d1 : 1 ≤ d) (d2 : d ≤ 4) (h : 0 ≤ stepZ W T c d) : stepZ W T (stepZ W T c d) (backZ d) = c := by
  rcases (show d = 1 ∨ d = 2 ∨ d = 3 ∨ d = 4 from by omega) with rfl | rfl | rfl | rfl
  · rw [show backZ 1 = 3 by decide, step3, step1] at *
    split at h
    · rename_i hc
      rw [if_pos hc]
      rcases (show W = 1 ∨ W = 2 ∨ W = 3 ∨ W = 4 ∨ W = 5 ∨ W = 6 from by omega) with rfl | rfl | rfl | rfl | rfl | rfl <;> (rw [if_pos (by omega)]; omega)
    · omega
  · rw [show backZ 2 = 4 by decide, step4, step2] at *
    split at h
    · rename_i hc
      rw [if_pos hc]
      rcases (show W = 1 ∨ W = 2 ∨ W = 3 ∨ W = 4 ∨ W = 5 ∨ W = 6 from by omega) with rfl | rfl | rfl | rfl | rfl | rfl <;> (rw [if_pos (by omega)]; omega)
    · omega
  · rw [show backZ 3 = 1 by decide, step1, step3] at *
    split at h
    · rename_i hc
      rw [if_pos hc]
      rcases (show W = 1 ∨ W = 2 ∨ W = 3 ∨ W = 4 ∨ W = 5 ∨ W = 6 from by omega) with rfl | rfl | rfl | rfl | rfl | rfl <;> (rw [if_pos (by omega)]; omega)
    · omega
  · rw [show backZ 4 = 2 by decide, step2, step4] at *
    split at h
    · rename_i hc
      rw [if_pos hc]
      rcases (show W = 1 ∨ W = 2 ∨ W = 3 ∨ W = 4 ∨ W = 5 ∨ W = 6 from by omega) with rfl | rfl | rfl | rfl | rfl | rfl <;> (rw [if_pos (by omega)]; omega)
    · omega
theorem back_bd (d : Int) : 1 ≤ backZ d ∧ backZ d ≤ 4 := by unfold backZ; omega
/-- one of the first j cells around is one of some cells -/
def nbrTo (W T : Int) (cells : List Int) (k : Int) : Nat → Bool
  | 0 => false
  | j + 1 => nbrTo W T cells k j || (decide (0 ≤ stepZ W T k ((j : Int) + 1)) && decide (stepZ W T k ((j : Int) + 1) ∈ cells))
theorem nbr_iff {W T : Int} {cells : List Int} {k : Int} {j : Nat} : nbrTo W T cells k j = true ↔ ∃ d : Int, 1 ≤ d ∧ d ≤ j ∧ 0 ≤ stepZ W T k d ∧ stepZ W T k d ∈ cells := by
  induction j with
  | zero => simp [nbrTo]; omega
  | succ j ih =>
    unfold nbrTo
    rw [Bool.or_eq_true, ih]
    simp only [Bool.and_eq_true, decide_eq_true_eq]
    constructor
    · rintro (⟨d, h1, h2, h3⟩ | h)
      · exact ⟨d, h1, by omega, h3⟩
      · exact ⟨(j : Int) + 1, by omega, by omega, h⟩
    · rintro ⟨d, h1, h2, h3⟩
      rcases (show d ≤ j ∨ d = (j : Int) + 1 from by omega) with h | h
      · exact .inl ⟨d, h1, h, h3⟩
      · subst h; exact .inr h3
def isBes (W T : Int) (bs : List Bool) (cells : List Int) (k : Nat) : Bool := bs.getD k false && nbrTo W T cells k 4
def besL (W T : Int) (bs : List Bool) (cells : List Int) : List Int := pickTo (isBes W T bs cells) bs.length
/-- what the program lists -/
def besDirs (W T : Int) (bs : List Bool) (c : Int) : Nat → List Int
  | 0 => []
  | j + 1 => besDirs W T bs c j ++ (if 0 ≤ stepZ W T c ((j : Int) + 1) ∧ bs.getD (stepZ W T c ((j : Int) + 1)).toNat false = true then [stepZ W T c ((j : Int) + 1)] else [])
theorem dirs_t {W T c : Int} {bs : List Bool} {j : Nat} (h : 0 ≤ stepZ W T c ((j : Int) + 1)) (h2 : bs.getD (stepZ W T c ((j : Int) + 1)).toNat false = true) : besDirs W T bs c (j + 1) = besDirs W T bs c j ++ [stepZ W T c ((j : Int) + 1)] := by
  show besDirs W T bs c j ++ _ = _; rw [if_pos ⟨h, h2⟩]
theorem dirs_f {W T c : Int} {bs : List Bool} {j : Nat} (h : stepZ W T c ((j : Int) + 1) < 0 ∨ bs.getD (stepZ W T c ((j : Int) + 1)).toNat false = false) : besDirs W T bs c (j + 1) = besDirs W T bs c j := by
  show besDirs W T bs c j ++ _ = _
  rw [if_neg (by rintro ⟨h1, h2⟩; rcases h with h | h; omega; rw [h2] at h; cases h), List.append_nil]
theorem dirs_len (W T c : Int) (bs : List Bool) (j : Nat) : (besDirs W T bs c j).length ≤ j := by
  induction j with
  | zero => simp [besDirs]
  | succ j ih =>
    show (besDirs W T bs c j ++ _).length ≤ _
    rw [List.length_append]
    split <;> simp <;> omega
theorem dirs_mem {W T c x : Int} {bs : List Bool} {j : Nat} : x ∈ besDirs W T bs c j ↔ ∃ d : Int, 1 ≤ d ∧ d ≤ j ∧ x = stepZ W T c d ∧ 0 ≤ x ∧ bs.getD x.toNat false = true := by
  induction j with
  | zero => simp [besDirs]; omega
  | succ j ih =>
    show x ∈ besDirs W T bs c j ++ _ ↔ _
    rw [List.mem_append, ih]
    constructor
    · rintro (⟨d, h1, h2, h3⟩ | h)
      · exact ⟨d, h1, by omega, h3⟩
      · split at h
        · rename_i hc
          simp at h; subst h
          exact ⟨(j : Int) + 1, by omega, by omega, rfl, hc.1, hc.2⟩
        · simp at h
    · rintro ⟨d, h1, h2, rfl, h3, h4⟩
      rcases (show d ≤ j ∨ d = (j : Int) + 1 from by omega) with h | h
      · exact .inl ⟨d, h1, h, rfl, h3, h4⟩
      · subst h; rw [if_pos ⟨h3, h4⟩]; exact .inr (by simp)
def besAcc (W T : Int) (bs : List Bool) (cells : List Int) : Nat → List Int
  | 0 => []
  | k + 1 => besAcc W T bs cells k ++ (if 0 ≤ cells.getD k 0 ∧ cells.getD k 0 < bs.length then besDirs W T bs (cells.getD k 0) 4 else [])
theorem acc_t {W T c : Int} {bs : List Bool} {cells : List Int} {k : Nat} (hk : k < cells.length) (e : cells[k] = c) (h1 : 0 ≤ c) (h2 : c < bs.length) : besAcc W T bs cells (k + 1) = besAcc W T bs cells k ++ besDirs W T bs c 4 := by
  show besAcc W T bs cells k ++ _ = _
  have : cells.getD k 0 = c := by simp [List.getD_eq_getElem?_getD, List.getElem?_eq_getElem hk, e]
  rw [this, if_pos ⟨h1, h2⟩]
theorem acc_f {W T c : Int} {bs : List Bool} {cells : List Int} {k : Nat} (hk : k < cells.length) (e : cells[k] = c) (h : c < 0 ∨ bs.length ≤ c) : besAcc W T bs cells (k + 1) = besAcc W T bs cells k := by
  show besAcc W T bs cells k ++ _ = _
  have : cells.getD k 0 = c := by simp [List.getD_eq_getElem?_getD, List.getElem?_eq_getElem hk, e]
  rw [this, if_neg (by omega), List.append_nil]
theorem acc_len (W T : Int) (bs : List Bool) (cells : List Int) (k : Nat) : (besAcc W T bs cells k).length ≤ 4 * k := by
  induction k with
  | zero => simp [besAcc]
  | succ k ih =>
    show (besAcc W T bs cells k ++ _).length ≤ _
    rw [List.length_append]
    have := dirs_len W T (cells.getD k 0) bs 4
    split
    · omega
    · simp only [List.length_nil]; omega
theorem acc_mem {W T x : Int} {bs : List Bool} {cells : List Int} {k : Nat} (hk : k ≤ cells.length) : x ∈ besAcc W T bs cells k ↔ ∃ c ∈ cells.take k, (0 ≤ c ∧ c < bs.length) ∧ x ∈ besDirs W T bs c 4 := by
  induction k with
  | zero => simp [besAcc]
  | succ k ih =>
    have hg : cells.getD k 0 = cells[k] := by simp [List.getD_eq_getElem?_getD, List.getElem?_eq_getElem (show k < cells.length by omega)]
    show x ∈ besAcc W T bs cells k ++ _ ↔ _
    rw [List.mem_append, ih (by omega), take_one_more cells k (by omega), hg]
    constructor
    · rintro (⟨c, h1, h2⟩ | h)
      · exact ⟨c, List.mem_append_left _ h1, h2⟩
      · split at h
        · rename_i hc; exact ⟨_, List.mem_append_right _ (by simp), hc, h⟩
        · simp at h
    · rintro ⟨c, h1, h2, h3⟩
      rcases List.mem_append.1 h1 with h | h
      · exact .inl ⟨c, h, h2, h3⟩
      · simp at h; subst h; rw [if_pos h2]; exact .inr h3
/-- what the program lists, in order and once, is what the reference lists -/
theorem bes_eq {W T : Int} {bs : List Bool} {cells : List Int} (h1 : 1 ≤ W) (h2 : W ≤ 6) (h3 : 1 ≤ T) (h4 : T ≤ 6) (hl : (bs.length : Int) = W * T) :
    Lib.compact ((besAcc W T bs cells cells.length).mergeSort fun x y => decide (x ≤ y)) = besL W T bs cells := by
  refine compact_sort _ _ _ (fun x => ?_)
  rw [acc_mem (Nat.le_refl _), List.take_length]
  constructor
  · rintro ⟨c, hc, ⟨c0, c1⟩, hx⟩
    obtain ⟨d, d1, d2, rfl, x0, hb⟩ := dirs_mem.1 hx
    have hbd := step_bd (W := W) (T := T) (c := c) d h1 h2 h3 h4 c0 (by omega)
    have hr := step_rev (W := W) (T := T) (c := c) (d := d) h1 h2 h3 h4 c0 (by omega) d1 (by omega) x0
    obtain ⟨b1, b2⟩ := back_bd d
    refine ⟨(stepZ W T c d).toNat, by omega, ?_, by omega⟩
    unfold isBes
    rw [hb, Bool.true_and, nbr_iff]
    refine ⟨backZ d, b1, by omega, ?_⟩
    rw [show (((stepZ W T c d).toNat : Nat) : Int) = stepZ W T c d by omega, hr]
    exact ⟨c0, hc⟩
  · rintro ⟨i, hi, hp, rfl⟩
    unfold isBes at hp
    rw [Bool.and_eq_true, nbr_iff] at hp
    obtain ⟨hb, d, d1, d2, s0, hs⟩ := hp
    have hbd := step_bd (W := W) (T := T) (c := (i : Int)) d h1 h2 h3 h4 (by omega) (by omega)
    have hr := step_rev (W := W) (T := T) (c := (i : Int)) (d := d) h1 h2 h3 h4 (by omega) (by omega) d1 (by omega) s0
    obtain ⟨b1, b2⟩ := back_bd d
    refine ⟨_, hs, ⟨s0, by omega⟩, dirs_mem.2 ⟨backZ d, b1, by omega, hr.symm, by omega, by simpa using hb⟩⟩
def besV (W T : Int) (bs : List Bool) (cells : List Int) : List Int := if validB W T bs = true then besL W T bs cells else []
theorem besL_len (W T : Int) (bs : List Bool) (cells : List Int) : (besL W T bs cells).length ≤ bs.length := pick_len _ _
theorem isBes_f {W T : Int} {bs : List Bool} {cells : List Int} {k : Nat} (hk : k < bs.length) (h : bs[k] = false) : isBes W T bs cells k = false := by
  unfold isBes; rw [List.getD_eq_getElem?_getD, List.getElem?_eq_getElem hk]; simp [h]
theorem isBes_t {W T : Int} {bs : List Bool} {cells : List Int} {k : Nat} (hk : k < bs.length) (h : bs[k] = true) : isBes W T bs cells k = nbrTo W T cells k 4 := by
  unfold isBes; rw [List.getD_eq_getElem?_getD, List.getElem?_eq_getElem hk]; simp [h]
end Go.Proofs.Ytnciemnlnijhfaa
