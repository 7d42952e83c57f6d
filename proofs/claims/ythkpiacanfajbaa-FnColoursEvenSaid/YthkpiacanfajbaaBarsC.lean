/- Bars have every colour once, plainly. -/
import Derived.Test.YthkpiacanfajbaaBarsN
import Derived.Test.YthkpiacanfajbaaColSum
namespace Go.Proofs.Ythkpiacanfajbaa
open Go.RowKit

/-- how many cells of a colour -/
def colN (W nu r : Int) (F : List Bool) : Int := cntTo (inCol W nu r F) F.length
def hasC (W nu r c : Int) : Int := if (c % W + c / W) % nu = r then 1 else 0
theorem inCol_set {W nu r : Int} {F : List Bool} {c i : Nat} (h : i ≠ c) : inCol W nu r (F.set c false) i = inCol W nu r F i := by
  unfold inCol
  rw [List.getD_eq_getElem?_getD, List.getD_eq_getElem?_getD, List.getElem?_set, if_neg (Ne.symm h)]
theorem cnt_set_col {W nu r : Int} {F : List Bool} {c : Nat} (hc : c < F.length) (h : F[c] = true) (k : Nat) : cntTo (inCol W nu r F) k = cntTo (inCol W nu r (F.set c false)) k + (if c < k then hasC W nu r c else 0) := by
  induction k with
  | zero => rw [if_neg (by omega)]; rfl
  | succ k ih =>
    rw [cntTo_succ, cntTo_succ, ih]
    by_cases hk : k = c
    · subst hk
      have e1 : inCol W nu r (F.set k false) k = false := by
        unfold inCol
        rw [List.getD_eq_getElem?_getD, List.getElem?_set, if_pos rfl, if_pos hc]; rfl
      have e2 : inCol W nu r F k = decide (((k : Int) % W + (k : Int) / W) % nu = r) := inCol_t hc h
      rw [e1, e2, if_neg (Nat.lt_irrefl _), if_pos (Nat.lt_succ_self _)]
      unfold hasC
      by_cases hh : ((k : Int) % W + (k : Int) / W) % nu = r <;> simp [hh]
    · rw [inCol_set hk]
      rcases Nat.lt_or_ge c k with h1 | h1
      · rw [if_pos h1, if_pos (show c < k + 1 by omega)]; exact Int.add_right_comm _ _ _
      · rw [if_neg (show ¬ c < k by omega), if_neg (show ¬ c < k + 1 by omega)]; simp
theorem col_set {W nu r : Int} {F : List Bool} {c : Nat} (hc : c < F.length) (h : F[c] = true) : colN W nu r F = colN W nu r (F.set c false) + hasC W nu r c := by
  unfold colN
  rw [List.length_set, cnt_set_col hc h F.length, if_pos hc]
/-- how many of n numbers in a row leave a remainder -/
def runC (nu r s : Int) : Nat → Int
  | 0 => 0
  | n + 1 => (if s % nu = r then 1 else 0) + runC nu r (s + 1) n
theorem step_up {W T a d : Int} (h1 : 1 ≤ W) (h2 : W ≤ 6) (hd : d = 1 ∨ d = 2) (h : 0 ≤ stepZ W T a d) : a < stepZ W T a d ∧ stepZ W T a d % W + stepZ W T a d / W = a % W + a / W + 1 := by
  rcases hd with rfl | rfl
  · rw [step1] at *
    split at h
    · rename_i hc
      rw [if_pos hc]
      have e1 : (a + 1) % W = a % W + 1 := by rcases (show W = 1 ∨ W = 2 ∨ W = 3 ∨ W = 4 ∨ W = 5 ∨ W = 6 from by omega) with rfl | rfl | rfl | rfl | rfl | rfl <;> omega
      have e2 : (a + 1) / W = a / W := by rcases (show W = 1 ∨ W = 2 ∨ W = 3 ∨ W = 4 ∨ W = 5 ∨ W = 6 from by omega) with rfl | rfl | rfl | rfl | rfl | rfl <;> omega
      rw [e1, e2]
      omega
    · omega
  · rw [step2] at *
    split at h
    · rename_i hc
      rw [if_pos hc]
      have e1 : (a + W) % W = a % W := by rcases (show W = 1 ∨ W = 2 ∨ W = 3 ∨ W = 4 ∨ W = 5 ∨ W = 6 from by omega) with rfl | rfl | rfl | rfl | rfl | rfl <;> omega
      have e2 : (a + W) / W = a / W + 1 := by rcases (show W = 1 ∨ W = 2 ∨ W = 3 ∨ W = 4 ∨ W = 5 ∨ W = 6 from by omega) with rfl | rfl | rfl | rfl | rfl | rfl <;> omega
      rw [e1, e2]
      omega
    · omega
/-- a cell below the bar does not matter -/
theorem barL_set {W T d : Int} {F : List Bool} {c : Nat} (h1 : 1 ≤ W) (h2 : W ≤ 6) (hd : d = 1 ∨ d = 2) (n : Nat) : ∀ a : Int, (c : Int) < a → barL W T (F.set c false) d n a = barL W T F d n a := by
  induction n with
  | zero => intro a _; rfl
  | succ n ih =>
    intro a ha
    rw [barL, barL]
    have e : (F.set c false).getD a.toNat false = F.getD a.toNat false := by
      rw [List.getD_eq_getElem?_getD, List.getD_eq_getElem?_getD, List.getElem?_set, if_neg (by omega)]
    rw [e]
    by_cases hh : 0 ≤ a ∧ F.getD a.toNat false = true
    · rw [if_pos hh, if_pos hh]
      congr 1
      by_cases hs : 0 ≤ stepZ W T a d
      · exact ih _ (by have := (step_up h1 h2 hd hs).1; omega)
      · cases n with
        | zero => rfl
        | succ m => rw [barL, barL, if_neg (fun h => hs h.1), if_neg (fun h => hs h.1)]
    · rw [if_neg hh, if_neg hh]
theorem col_bar {W T nu r d : Int} (h1 : 1 ≤ W) (h2 : W ≤ 6) (hd : d = 1 ∨ d = 2) (n : Nat) : ∀ (F : List Bool) (a : Int), (barL W T F d n a).length = n → colN W nu r F = colN W nu r (clearL F (barL W T F d n a)) + runC nu r (a % W + a / W) n := by
  induction n with
  | zero => intro F a _; simp [barL, clearL, runC]
  | succ n ih =>
    intro F a hl
    rw [barL] at hl ⊢
    by_cases hh : 0 ≤ a ∧ F.getD a.toNat false = true
    · rw [if_pos hh] at hl ⊢
      obtain ⟨a0, hb⟩ := hh
      obtain ⟨c, rfl⟩ := Int.eq_ofNat_of_zero_le a0
      simp only [Int.toNat_natCast] at hb
      have hc : c < F.length := by
        rcases Nat.lt_or_ge c F.length with h | h
        · exact h
        · rw [List.getD_eq_getElem?_getD, List.getElem?_eq_none h] at hb; cases hb
      have hF : F[c] = true := by rw [List.getD_eq_getElem?_getD, List.getElem?_eq_getElem hc] at hb; exact hb
      rw [List.length_cons] at hl
      have hl' : (barL W T F d n (stepZ W T c d)).length = n := by omega
      rw [clearL, Int.toNat_natCast, col_set hc hF]
      cases n with
      | zero =>
        simp only [barL, clearL, runC, hasC]
        omega
      | succ m =>
        have hs : 0 ≤ stepZ W T c d := by
          rcases Int.lt_or_le (stepZ W T c d) 0 with h | h
          · rw [barL, if_neg (fun hh => by omega)] at hl'; simp at hl'
          · exact h
        obtain ⟨u1, u2⟩ := step_up h1 h2 hd hs
        have e := barL_set (T := T) (F := F) (c := c) h1 h2 hd (m + 1) (stepZ W T c d) u1
        rw [← e] at hl' ⊢
        rw [ih (F.set c false) (stepZ W T c d) hl', u2]
        show _ + hasC W nu r c = _ + ((if ((c : Int) % W + (c : Int) / W) % nu = r then 1 else 0) + runC nu r ((c : Int) % W + (c : Int) / W + 1) (m + 1))
        unfold hasC
        omega
    · rw [if_neg hh] at hl; simp at hl
/-- each remainder comes once -/
theorem run_one (nu : Nat) (h1 : 1 ≤ nu) (h2 : nu ≤ 4) (r s : Int) (r0 : 0 ≤ r) (r1 : r < nu) : runC nu r s nu = 1 := by
  rcases (show nu = 1 ∨ nu = 2 ∨ nu = 3 ∨ nu = 4 from by omega) with rfl | rfl | rfl | rfl
  · simp only [runC]; rw [if_pos (by omega)]; rfl
  · simp only [runC]; repeat' split
    all_goals omega
  · simp only [runC]; repeat' split
    all_goals omega
  · simp only [runC]; repeat' split
    all_goals omega
theorem col_none {W nu r : Int} {F : List Bool} (h : ∀ k (hk : k < F.length), F[k] = false) : colN W nu r F = 0 := by
  unfold colN
  have : ∀ k, k ≤ F.length → cntTo (inCol W nu r F) k = 0 := by
    intro k
    induction k with
    | zero => intro _; rfl
    | succ k ih =>
      intro hk
      rw [cntTo_succ, ih (by omega), inCol_f (by omega) (h k (by omega))]; rfl
  exact this _ (Nat.le_refl _)
theorem none_of_cnt {F : List Bool} (h : cnt F ≤ 0) : ∀ k (hk : k < F.length), F[k] = false := by
  intro k hk
  cases hb : F[k] with
  | false => rfl
  | true =>
    have := cnt_set_lt F k hk hb
    have := (cnt_le (F.set k false)).1
    omega
/-- what bars cover has all colours as often -/
theorem bars_col {W T : Int} {long : Nat} (h1 : 1 ≤ W) (h2 : W ≤ 6) (l1 : 1 ≤ long) (l2 : long ≤ 4) (f : Nat) : ∀ F : List Bool, cnt F ≤ f → 1 ≤ barsN W T long f F → ∀ r : Int, 0 ≤ r → r < long → colN W long r F = colN W long 0 F := by
  induction f with
  | zero =>
    intro F hF _ r _ _
    have hn := none_of_cnt (F := F) (by simpa using hF)
    rw [col_none hn, col_none hn]
  | succ f ih =>
    intro F hF hb r r0 r1
    by_cases hfb : firstB F = F.length
    · have hn : ∀ k (hk : k < F.length), F[k] = false := fun k hk => firstB_f (by omega) hk
      rw [col_none hn, col_none hn]
    · have hlt : firstB F < F.length := by have := firstB_le F; omega
      have hft := firstB_t hlt
      rw [barsN, if_neg hfb] at hb
      have hp : ∃ d : Int, (d = 1 ∨ d = 2) ∧ 1 ≤ partB W T long (barsN W T long f) F (firstB F) d := by
        have e : sumB W T long (barsN W T long f) F (firstB F) 2 = 0 + partB W T long (barsN W T long f) F (firstB F) (((0 : Nat) : Int) + 1) + partB W T long (barsN W T long f) F (firstB F) (((1 : Nat) : Int) + 1) := rfl
        rw [e] at hb
        rcases Int.lt_or_le (partB W T long (barsN W T long f) F (firstB F) (((0 : Nat) : Int) + 1)) 1 with h | h
        · exact ⟨2, .inr rfl, by have e2 : (((1 : Nat) : Int) + 1) = 2 := rfl
                                 rw [e2] at hb; omega⟩
        · exact ⟨1, .inl rfl, h⟩
      obtain ⟨d, hd, hpd⟩ := hp
      unfold partB at hpd
      split at hpd
      · rename_i hc
        have hl := hc.1
        have hcb := cnt_bar (W := W) (T := T) (d := d) l1 hlt hft
        have hih := ih (clearL F (barL W T F d long (firstB F))) (by rw [Int.natCast_add] at hF; simp at hF; omega) hpd r r0 r1
        rw [col_bar (W := W) (T := T) (nu := (long : Int)) (r := r) h1 h2 hd long F _ hl, col_bar (W := W) (T := T) (nu := (long : Int)) (r := 0) h1 h2 hd long F _ hl, hih, run_one long l1 l2 r _ r0 r1, run_one long l1 l2 0 _ (by omega) (by omega)]
      · omega
/-- if all colours are as often, they divide -/
theorem col_div {W : Int} {nu : Nat} {bs : List Bool} (h1 : 1 ≤ nu) (h : ∀ r : Nat, r < nu → colN W nu r bs = colN W nu 0 bs) : cnt bs % (nu : Int) = 0 := by
  have hs := colSum_cells W nu bs nu rfl (by omega)
  have : ∀ m, m ≤ nu → colSum W nu bs bs.length m = (m : Int) * colN W nu 0 bs := by
    intro m
    induction m with
    | zero => intro _; simp [colSum]
    | succ m ih =>
      intro hm
      show colSum W nu bs bs.length m + colN W nu m bs = _
      rw [ih (by omega), h m (by omega), Int.natCast_add, Int.add_mul]
      simp
  rw [← hs, this nu (Nat.le_refl _)]
  exact Int.mul_emod_right _ _
end Go.Proofs.Ythkpiacanfajbaa
