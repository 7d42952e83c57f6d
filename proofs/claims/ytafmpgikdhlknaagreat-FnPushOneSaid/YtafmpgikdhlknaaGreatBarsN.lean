
/- Bars on a region, plainly. -/
import Derived.Test.YtafmpgikdhlknaaGreatStepN
import Derived.Test.YtafmpgikdhlknaaGreatReg
namespace Go.Proofs.YtafmpgikdhlknaaGreat
open Go.RowKit

/-- the cells of a bar from a place on -/
def barL (W T : Int) (F : List Bool) (d : Int) : Nat → Int → List Int
  | 0, _ => []
  | n + 1, at_ => if 0 ≤ at_ ∧ F.getD at_.toNat false = true then at_ :: barL W T F d n (stepZ W T at_ d) else []
/-- .. taken away -/
def clearL (F : List Bool) : List Int → List Bool
  | [] => F
  | c :: l => clearL (F.set c.toNat false) l
def firstB (F : List Bool) : Nat := F.findIdx id
def partB (W T : Int) (long : Nat) (rec : List Bool → Int) (F : List Bool) (c : Nat) (d : Int) : Int :=
  if (barL W T F d long c).length = long ∧ (1 < long ∨ d = 1) then rec (clearL F (barL W T F d long c)) else 0
def sumB (W T : Int) (long : Nat) (rec : List Bool → Int) (F : List Bool) (c : Nat) : Nat → Int
  | 0 => 0
  | k + 1 => sumB W T long rec F c k + partB W T long rec F c ((k : Int) + 1)
/-- how many ways there are to cover what is free -/
def barsN (W T : Int) (long : Nat) : Nat → List Bool → Int
  | 0, _ => 1
  | f + 1, F => if firstB F = F.length then 1 else sumB W T long (barsN W T long f) F (firstB F) 2

theorem firstB_le (F : List Bool) : firstB F ≤ F.length := List.findIdx_le_length
theorem firstB_t {F : List Bool} (h : firstB F < F.length) : F[firstB F] = true := List.findIdx_getElem (w := h)
theorem firstB_f {F : List Bool} {k : Nat} (h : k < firstB F) (hk : k < F.length) : F[k] = false := by
  have := List.not_of_lt_findIdx h
  simpa using this
/-- the first free cell, found -/
theorem firstB_eq {F : List Bool} {c : Nat} (hc : c ≤ F.length) (h1 : ∀ k (hk : k < F.length), k < c → F[k] = false) (h2 : ∀ (h : c < F.length), F[c] = true) : firstB F = c := by
  rcases Nat.lt_trichotomy (firstB F) c with h | h | h
  · have := firstB_t (F := F) (by omega)
    rw [h1 _ (by omega) h] at this; cases this
  · exact h
  · have hl : c < F.length := by have := firstB_le F; omega
    have := firstB_f h hl
    rw [h2 hl] at this; cases this
theorem clearL_len (l : List Int) (F : List Bool) : (clearL F l).length = F.length := by
  induction l generalizing F with
  | nil => rfl
  | cons c l ih => rw [clearL, ih, List.length_set]
theorem cnt_set_le (l : List Bool) (k : Nat) : cnt (l.set k false) ≤ cnt l := by
  unfold cnt
  induction l generalizing k with
  | nil => simp
  | cons a l ih =>
    cases k with
    | zero => cases a <;> simp <;> omega
    | succ k =>
      have := ih k
      cases a <;> simp at this ⊢ <;> omega
theorem cnt_set_lt (l : List Bool) (k : Nat) (hk : k < l.length) (h : l[k] = true) : cnt (l.set k false) + 1 ≤ cnt l := by
  unfold cnt
  induction l generalizing k with
  | nil => simp at hk
  | cons a l ih =>
    cases k with
    | zero => simp at h; subst h; simp
    | succ k =>
      have := ih k (by simpa using hk) (by simpa using h)
      cases a <;> simp at this ⊢ <;> omega
theorem cnt_clear_le (l : List Int) (F : List Bool) : cnt (clearL F l) ≤ cnt F := by
  induction l generalizing F with
  | nil => simp [clearL]
  | cons c l ih => rw [clearL]; exact Int.le_trans (ih _) (cnt_set_le _ _)
theorem barL_head {W T : Int} {F : List Bool} {d : Int} {n c : Nat} (hc : c < F.length) (h : F[c] = true) : barL W T F d (n + 1) c = (c : Int) :: barL W T F d n (stepZ W T c d) := by
  rw [barL, if_pos ⟨by omega, by simpa [List.getD_eq_getElem?_getD, List.getElem?_eq_getElem hc] using h⟩]
theorem cnt_bar {W T : Int} {F : List Bool} {d : Int} {n c : Nat} (hn : 1 ≤ n) (hc : c < F.length) (h : F[c] = true) : cnt (clearL F (barL W T F d n c)) + 1 ≤ cnt F := by
  obtain ⟨m, rfl⟩ : ∃ m, n = m + 1 := ⟨n - 1, by omega⟩
  rw [barL_head hc h, clearL]
  have h1 := cnt_set_lt F c hc h
  have h2 := cnt_clear_le (barL W T F d m (stepZ W T c d)) (F.set c false)
  simp only [Int.toNat_natCast]
  omega
theorem barL_le (W T : Int) (F : List Bool) (d : Int) (n : Nat) (a : Int) : (barL W T F d n a).length ≤ n := by
  induction n generalizing a with
  | zero => simp [barL]
  | succ n ih =>
    rw [barL]; split
    · have := ih (stepZ W T a d); simp; omega
    · simp
/-- how many there may be -/
theorem barsN_bd (W T : Int) (long : Nat) (f : Nat) (F : List Bool) : 0 ≤ barsN W T long f F ∧ barsN W T long f F ≤ 2 ^ f := by
  induction f generalizing F with
  | zero => simp [barsN]
  | succ f ih =>
    have hp : (1 : Int) ≤ 2 ^ f := by
      have := Nat.one_le_two_pow (n := f)
      have h2 : ((2 ^ f : Nat) : Int) = (2 : Int) ^ f := by simp
      omega
    have hpart : ∀ c d, 0 ≤ partB W T long (barsN W T long f) F c d ∧ partB W T long (barsN W T long f) F c d ≤ 2 ^ f := by
      intro c d
      unfold partB
      split
      · exact ih _
      · omega
    rw [barsN]
    split
    · rw [Int.pow_succ]; omega
    · have h1 := hpart (firstB F) (((0 : Nat) : Int) + 1)
      have h2 := hpart (firstB F) (((1 : Nat) : Int) + 1)
      simp only [sumB]
      rw [Int.pow_succ]
      omega
theorem sumB_bd (W T : Int) (long f : Nat) (F : List Bool) (c k : Nat) (hk : k ≤ 2) : 0 ≤ sumB W T long (barsN W T long f) F c k ∧ sumB W T long (barsN W T long f) F c k ≤ 2 * 2 ^ f := by
  have hp : (1 : Int) ≤ 2 ^ f := by
    have := Nat.one_le_two_pow (n := f)
    have h2 : ((2 ^ f : Nat) : Int) = (2 : Int) ^ f := by simp
    omega
  have hpart : ∀ c d, 0 ≤ partB W T long (barsN W T long f) F c d ∧ partB W T long (barsN W T long f) F c d ≤ 2 ^ f := by
    intro c d
    unfold partB
    split
    · exact barsN_bd W T long f _
    · omega
  rcases (show k = 0 ∨ k = 1 ∨ k = 2 from by omega) with rfl | rfl | rfl
  · simp only [sumB]; omega
  · have := hpart c (((0 : Nat) : Int) + 1); simp only [sumB]; omega
  · have := hpart c (((0 : Nat) : Int) + 1); have := hpart c (((1 : Nat) : Int) + 1); simp only [sumB]; omega
/-- bars of one cell cover in one way -/
theorem bars_one (W T : Int) (f : Nat) (F : List Bool) (hf : cnt F ≤ f) : barsN W T 1 f F = 1 := by
  induction f generalizing F with
  | zero => rfl
  | succ f ih =>
    rw [barsN]
    split
    · rfl
    · rename_i h
      have hl : firstB F < F.length := by have := firstB_le F; omega
      have ht := firstB_t hl
      have e1 : partB W T 1 (barsN W T 1 f) F (firstB F) 1 = 1 := by
        unfold partB
        have hb : barL W T F 1 1 (firstB F) = [(firstB F : Int)] := by rw [barL_head hl ht]; rfl
        rw [if_pos ⟨by rw [hb]; rfl, .inr rfl⟩]
        apply ih
        have := cnt_bar (W := W) (T := T) (d := 1) (n := 1) (by omega) hl ht
        omega
      have e2 : partB W T 1 (barsN W T 1 f) F (firstB F) 2 = 0 := by
        unfold partB
        rw [if_neg (by intro h; rcases h.2 with h | h <;> omega)]
      simp only [sumB]
      have a1 : ((0 : Nat) : Int) + 1 = 1 := rfl
      have a2 : ((1 : Nat) : Int) + 1 = 2 := rfl
      rw [a1, a2, e1, e2]; rfl

/-! ### What is covered -/
def freeL (bs cov : List Bool) : List Bool := List.zipWith (fun a b => a && !b) bs cov
def setAll (cov : List Bool) (v : Bool) : List Int → List Bool
  | [] => cov
  | c :: l => setAll (cov.set c.toNat v) v l
theorem setAll_len (cov : List Bool) (v : Bool) (l : List Int) : (setAll cov v l).length = cov.length := by
  induction l generalizing cov with
  | nil => rfl
  | cons c l ih => rw [setAll, ih, List.length_set]
theorem setAll_snoc (cov : List Bool) (v : Bool) (l : List Int) (c : Int) : setAll cov v (l ++ [c]) = (setAll cov v l).set c.toNat v := by
  induction l generalizing cov with
  | nil => rfl
  | cons a l ih => rw [List.cons_append, setAll, setAll, ih]
theorem clearL_snoc (F : List Bool) (l : List Int) (c : Int) : clearL F (l ++ [c]) = (clearL F l).set c.toNat false := by
  induction l generalizing F with
  | nil => rfl
  | cons a l ih => rw [List.cons_append, clearL, clearL, ih]
theorem freeL_len {bs cov : List Bool} (h : cov.length = bs.length) : (freeL bs cov).length = bs.length := by unfold freeL; simp; omega
theorem freeL_get {bs cov : List Bool} {k : Nat} (h1 : k < bs.length) (h2 : k < cov.length) : (freeL bs cov)[k]'(by unfold freeL; simp; omega) = (bs[k] && !cov[k]) := by unfold freeL; simp
theorem freeL_set {bs cov : List Bool} (h : cov.length = bs.length) (k : Nat) : freeL bs (cov.set k true) = (freeL bs cov).set k false := by
  apply List.ext_getElem
  · unfold freeL; simp
  · intro i h1 h2
    have hi : i < bs.length := by unfold freeL at h1; simp at h1; omega
    rw [freeL_get hi (by simp; omega), List.getElem_set, List.getElem_set]
    by_cases e : k = i
    · simp [e]
    · simp only [e, if_false]; rw [freeL_get hi (by omega)]
theorem freeL_all {bs cov : List Bool} (h : cov.length = bs.length) (l : List Int) : freeL bs (setAll cov true l) = clearL (freeL bs cov) l := by
  induction l generalizing cov with
  | nil => rfl
  | cons c l ih => rw [setAll, clearL, ih (by simpa using h), freeL_set h]
theorem setAll_get (cov : List Bool) (v : Bool) (l : List Int) (k : Nat) (hk : k < (setAll cov v l).length) : (setAll cov v l)[k] = if (∃ c ∈ l, c.toNat = k) then v else cov[k]'(by rw [setAll_len] at hk; exact hk) := by
  induction l generalizing cov with
  | nil => simp [setAll]
  | cons c l ih =>
    simp only [setAll]
    rw [ih]
    by_cases h : ∃ x ∈ l, x.toNat = k
    · have : ∃ x ∈ c :: l, x.toNat = k := by obtain ⟨x, hx, e⟩ := h; exact ⟨x, List.mem_cons_of_mem _ hx, e⟩
      rw [if_pos h, if_pos this]
    · rw [if_neg h, List.getElem_set]
      by_cases e : c.toNat = k
      · rw [if_pos e, if_pos ⟨c, List.mem_cons_self, e⟩]
      · rw [if_neg e, if_neg]
        rintro ⟨x, hx, ex⟩
        rcases List.mem_cons.1 hx with rfl | hx
        · exact e ex
        · exact h ⟨x, hx, ex⟩
theorem clearL_get (F : List Bool) (l : List Int) (k : Nat) (hk : k < (clearL F l).length) : (clearL F l)[k] = if (∃ c ∈ l, c.toNat = k) then false else F[k]'(by rw [clearL_len] at hk; exact hk) := by
  induction l generalizing F with
  | nil => simp [clearL]
  | cons c l ih =>
    simp only [clearL]
    rw [ih]
    by_cases h : ∃ x ∈ l, x.toNat = k
    · have : ∃ x ∈ c :: l, x.toNat = k := by obtain ⟨x, hx, e⟩ := h; exact ⟨x, List.mem_cons_of_mem _ hx, e⟩
      rw [if_pos h, if_pos this]
    · rw [if_neg h, List.getElem_set]
      by_cases e : c.toNat = k
      · rw [if_pos e, if_pos ⟨c, List.mem_cons_self, e⟩]
      · rw [if_neg e, if_neg]
        rintro ⟨x, hx, ex⟩
        rcases List.mem_cons.1 hx with rfl | hx
        · exact e ex
        · exact h ⟨x, hx, ex⟩
/-- laid and taken away it is as before -/
theorem setAll_back {cov : List Bool} {l : List Int} (h : ∀ c ∈ l, ∀ (hc : c.toNat < cov.length), cov[c.toNat] = false) : setAll (setAll cov true l) false l = cov := by
  apply List.ext_getElem
  · rw [setAll_len, setAll_len]
  · intro k h1 h2
    rw [setAll_get]
    split
    · rename_i hx
      obtain ⟨c, hc, rfl⟩ := hx
      exact (h c hc h2).symm
    · rename_i hx
      rw [setAll_get, if_neg hx]
/-- the cells of a bar are free -/
theorem barL_mem {W T : Int} {F : List Bool} {d : Int} {n : Nat} {a : Int} : ∀ c ∈ barL W T F d n a, 0 ≤ c ∧ ∃ h : c.toNat < F.length, F[c.toNat] = true := by
  induction n generalizing a with
  | zero => intro c h; simp [barL] at h
  | succ n ih =>
    intro c hc
    rw [barL] at hc
    split at hc
    · rename_i h
      rcases List.mem_cons.1 hc with rfl | hc
      · refine ⟨h.1, ?_⟩
        have h2 := h.2
        rw [List.getD_eq_getElem?_getD] at h2
        rcases Nat.lt_or_ge c.toNat F.length with h3 | h3
        · exact ⟨h3, by rw [List.getElem?_eq_getElem h3] at h2; simpa using h2⟩
        · rw [List.getElem?_eq_none h3] at h2; simp at h2
      · exact ih c hc
    · simp at hc
end Go.Proofs.YtafmpgikdhlknaaGreat
