
/- How many tilings, counted with what is known, plainly. -/
import Derived.Test.YtejkbjcmndnfeaaGreatBarsN
namespace Go.Proofs.YtejkbjcmndnfeaaGreat
open Go.RowKit

/-- what a covered list is known by -/
def bitU (b : Bool) : UInt8 := if b = true then 49 else 48
def keyB (c : Nat) (cov : List Bool) : List UInt8 := UInt8.ofNat c :: (cov.drop c).map bitU
theorem bitU_inj {a b : Bool} (h : bitU a = bitU b) : a = b := by cases a <;> cases b <;> simp_all [bitU]
theorem map_bitU : ∀ {a b : List Bool}, a.map bitU = b.map bitU → a = b
  | [], [], _ => rfl
  | [], _ :: _, h => by simp at h
  | _ :: _, [], h => by simp at h
  | x :: a, y :: b, h => by
    simp only [List.map_cons, List.cons.injEq] at h
    rw [bitU_inj h.1, map_bitU h.2]
theorem key_inj {c c' : Nat} {cov cov' : List Bool} (h1 : c < 256) (h2 : c' < 256) (h : keyB c cov = keyB c' cov') : c = c' ∧ cov.drop c = cov'.drop c' := by
  unfold keyB at h
  simp only [List.cons.injEq] at h
  obtain ⟨ha, hb⟩ := h
  refine ⟨?_, map_bitU hb⟩
  have := congrArg UInt8.toNat ha
  rw [UInt8.toNat_ofNat', UInt8.toNat_ofNat'] at this
  omega
theorem free_of_key {c : Nat} {bs cov cov' : List Bool} (l1 : cov.length = bs.length) (l2 : cov'.length = bs.length) (hd : cov.drop c = cov'.drop c)
    (f1 : ∀ k (hk : k < (freeL bs cov).length), k < c → (freeL bs cov)[k] = false) (f2 : ∀ k (hk : k < (freeL bs cov').length), k < c → (freeL bs cov')[k] = false) : freeL bs cov = freeL bs cov' := by
  have e1 := freeL_len l1
  have e2 := freeL_len l2
  apply List.ext_getElem
  · omega
  · intro i h1 h2
    rcases Nat.lt_or_ge i c with h | h
    · rw [f1 i h1 h, f2 i h2 h]
    · rw [freeL_get (by omega) (by omega), freeL_get (by omega) (by omega)]
      have : cov[i]'(by omega) = cov'[i]'(by omega) := by
        have a : (cov.drop c)[i - c]? = (cov'.drop c)[i - c]? := by rw [hd]
        rw [List.getElem?_drop, List.getElem?_drop, show c + (i - c) = i by omega, List.getElem?_eq_getElem (by omega), List.getElem?_eq_getElem (by omega)] at a
        injection a
      rw [this]
theorem firstB_pre {F : List Bool} {c : Nat} (h : firstB F = c) : ∀ k (hk : k < F.length), k < c → F[k] = false := fun k hk hkc => firstB_f (by omega) hk
theorem clear_cnt {W T : Int} {F : List Bool} {c : Nat} (d : Int) (hc : c < F.length) (h : F[c] = true) : cnt (clearL F (barL W T F d 2 c)) + 1 ≤ cnt F := cnt_bar (by omega) hc h
theorem til_full {W T : Int} {long f : Nat} {F : List Bool} (h : firstB F = F.length) : barsN W T long f F = 1 := by
  cases f with
  | zero => rfl
  | succ f => rw [barsN, if_pos h]
theorem barsN_stab {W T : Int} : ∀ (f f' : Nat) (F : List Bool), cnt F ≤ f → f ≤ f' → barsN W T 2 f' F = barsN W T 2 f F
  | 0, f', F, hc, hf => by
    have h : firstB F = F.length := by
      rcases Nat.lt_or_ge (firstB F) F.length with h | h
      · have h1 := firstB_t h
        have h2 := cnt_set_lt F (firstB F) h h1
        have h3 := (cnt_le (F.set (firstB F) false)).1
        omega
      · have := firstB_le F; omega
    rw [til_full h, til_full h]
  | f + 1, f', F, hc, hf => by
    obtain ⟨f'', rfl⟩ : ∃ f'', f' = f'' + 1 := ⟨f' - 1, by omega⟩
    rw [barsN, barsN]
    by_cases h : firstB F = F.length
    · rw [if_pos h, if_pos h]
    · rw [if_neg h, if_neg h]
      have hlt : firstB F < F.length := by have := firstB_le F; omega
      have ht := firstB_t hlt
      have hp : ∀ d, partB W T 2 (barsN W T 2 f'') F (firstB F) d = partB W T 2 (barsN W T 2 f) F (firstB F) d := fun d => by
        unfold partB
        split
        · have := clear_cnt (W := W) (T := T) d hlt ht
          exact barsN_stab f f'' _ (by omega) (by omega)
        · rfl
      have hs : ∀ k, sumB W T 2 (barsN W T 2 f'') F (firstB F) k = sumB W T 2 (barsN W T 2 f) F (firstB F) k := by
        intro k
        induction k with
        | zero => rfl
        | succ k ih => rw [sumB, sumB, ih, hp]
      exact hs 2
def tilN (W T : Int) (F : List Bool) : Int := barsN W T 2 24 F
theorem barsN_rec {W T : Int} {F : List Bool} {c f : Nat} (hc : cnt F ≤ (f : Int) + 1) (h : firstB F = c) (hlt : c < F.length) : barsN W T 2 (f + 1) F = sumB W T 2 (barsN W T 2 (f + 1)) F c 2 := by
  subst h
  have ht := firstB_t hlt
  have hp : ∀ d, partB W T 2 (barsN W T 2 f) F (firstB F) d = partB W T 2 (barsN W T 2 (f + 1)) F (firstB F) d := fun d => by
    unfold partB
    split
    · have := clear_cnt (W := W) (T := T) d hlt ht
      exact (barsN_stab f (f + 1) _ (by omega) (by omega)).symm
    · rfl
  have hs : ∀ k, sumB W T 2 (barsN W T 2 f) F (firstB F) k = sumB W T 2 (barsN W T 2 (f + 1)) F (firstB F) k := by
    intro k
    induction k with
    | zero => rfl
    | succ k ih => rw [sumB, sumB, ih, hp]
  rw [← hs 2]
  conv => lhs; rw [barsN, if_neg (show ¬ firstB F = F.length by omega)]
theorem tilN_rec {W T : Int} {F : List Bool} {c : Nat} (hc : cnt F ≤ 24) (h : firstB F = c) (hlt : c < F.length) : tilN W T F = sumB W T 2 (tilN W T) F c 2 :=
  barsN_rec (f := 23) (by omega) h hlt
theorem tilN_none {W T : Int} {F : List Bool} (h : firstB F = F.length) : tilN W T F = 1 := by
  exact til_full h
theorem part_f {W T : Int} {rec : List Bool → Int} {F : List Bool} {c : Nat} {d : Int} (hc : c < F.length) (h : F[c] = true) (hs : stepZ W T c d < 0 ∨ F.getD (stepZ W T c d).toNat false = false) : partB W T 2 rec F c d = 0 := by
  unfold partB
  rw [if_neg]
  rintro ⟨hl, -⟩
  rw [barL_head hc h] at hl
  have : barL W T F d 1 (stepZ W T c d) = [] := by
    show (if _ then _ else _) = _
    rw [if_neg]
    rintro ⟨h1, h2⟩
    rcases hs with hs | hs
    · omega
    · rw [hs] at h2; cases h2
  rw [this] at hl
  simp at hl
theorem part_t {W T : Int} {rec : List Bool → Int} {F : List Bool} {c s : Nat} {d : Int} (hc : c < F.length) (h : F[c] = true) (hs : stepZ W T c d = (s : Int)) (hF : F.getD s false = true) : partB W T 2 rec F c d = rec ((F.set c false).set s false) := by
  have e : barL W T F d 2 c = [(c : Int), (s : Int)] := by
    rw [barL_head hc h, hs]
    congr 1
    show (if _ then _ else _) = _
    rw [if_pos ⟨by omega, by simpa using hF⟩]
    rfl
  unfold partB
  rw [e, if_pos ⟨rfl, .inl (by omega)⟩]
  rfl
theorem tilN_bd {W T : Int} (F : List Bool) : 0 ≤ tilN W T F ∧ tilN W T F ≤ 16777216 := by
  have h := barsN_bd W T 2 24 F
  unfold tilN
  have e : (2 : Int) ^ 24 = 16777216 := by decide
  omega
end Go.Proofs.YtejkbjcmndnfeaaGreat
