
/- FnPushOne: joined from TilN, TmnN, TmnX. -/
import Derived.Test.YtafmpgikdhlknaaGreatBarsN
import Derived.Test.YtafmpgikdhlknaaGreatTlsN
import Derived.Test.YtafmpgikdhlknaaGreatPB
import Derived.Deep.Cut
import Derived.Deep.CutRange
import Derived.Deep.CutBlock
import Derived.Maps.AppendAt
/- How many tilings, counted with what is known, plainly. -/
namespace Go.Proofs.YtafmpgikdhlknaaGreat
open Go.RowKit

/-- what a covered list is known by -/
def bitU (b : Bool) : UInt8 := if b = true then 49 else 48
def keyB (c : Nat) (cov : List Bool) : List UInt8 := UInt8.ofNat c :: (cov.drop c).map bitU
theorem bitU_inj {a b : Bool} (h : bitU a = bitU b) : a = b := by cases a <;> cases b <;> simp_all [bitU]
theorem map_bitU : ∀ {a b : List Bool}, a.map bitU = b.map bitU → a = b
  | [], [], _ => rfl
  | [], _ :: _, h => by simp at h
  | _ :: _, [], h => by simp at h
  | x :: a, y :: b, h => by
    simp only [List.map_cons, List.cons.injEq] at h
    rw [bitU_inj h.1, map_bitU h.2]
theorem key_inj {c c' : Nat} {cov cov' : List Bool} (h1 : c < 256) (h2 : c' < 256) (h : keyB c cov = keyB c' cov') : c = c' ∧ cov.drop c = cov'.drop c' := by
  unfold keyB at h
  simp only [List.cons.injEq] at h
  obtain ⟨ha, hb⟩ := h
  refine ⟨?_, map_bitU hb⟩
  have := congrArg UInt8.toNat ha
  rw [UInt8.toNat_ofNat', UInt8.toNat_ofNat'] at this
  omega
theorem free_of_key {c : Nat} {bs cov cov' : List Bool} (l1 : cov.length = bs.length) (l2 : cov'.length = bs.length) (hd : cov.drop c = cov'.drop c)
    (f1 : ∀ k (hk : k < (freeL bs cov).length), k < c → (freeL bs cov)[k] = false) (f2 : ∀ k (hk : k < (freeL bs cov').length), k < c → (freeL bs cov')[k] = false) : freeL bs cov = freeL bs cov' := by
  have e1 := freeL_len l1
  have e2 := freeL_len l2
  apply List.ext_getElem
  · omega
  · intro i h1 h2
    rcases Nat.lt_or_ge i c with h | h
    · rw [f1 i h1 h, f2 i h2 h]
    · rw [freeL_get (by omega) (by omega), freeL_get (by omega) (by omega)]
      have : cov[i]'(by omega) = cov'[i]'(by omega) := by
        have a : (cov.drop c)[i - c]? = (cov'.drop c)[i - c]? := by rw [hd]
        rw [List.getElem?_drop, List.getElem?_drop, show c + (i - c) = i by omega, List.getElem?_eq_getElem (by omega), List.getElem?_eq_getElem (by omega)] at a
        injection a
      rw [this]
theorem firstB_pre {F : List Bool} {c : Nat} (h : firstB F = c) : ∀ k (hk : k < F.length), k < c → F[k] = false := fun k hk hkc => firstB_f (by omega) hk
theorem clear_cnt {W T : Int} {F : List Bool} {c : Nat} (d : Int) (hc : c < F.length) (h : F[c] = true) : cnt (clearL F (barL W T F d 2 c)) + 1 ≤ cnt F := cnt_bar (by omega) hc h
theorem til_full {W T : Int} {long f : Nat} {F : List Bool} (h : firstB F = F.length) : barsN W T long f F = 1 := by
  cases f with
  | zero => rfl
  | succ f => rw [barsN, if_pos h]
theorem barsN_stab {W T : Int} : ∀ (f f' : Nat) (F : List Bool), cnt F ≤ f → f ≤ f' → barsN W T 2 f' F = barsN W T 2 f F
  | 0, f', F, hc, hf => by
    have h : firstB F = F.length := by
      rcases Nat.lt_or_ge (firstB F) F.length with h | h
      · have h1 := firstB_t h
        have h2 := cnt_set_lt F (firstB F) h h1
        have h3 := (cnt_le (F.set (firstB F) false)).1
        omega
      · have := firstB_le F; omega
    rw [til_full h, til_full h]
  | f + 1, f', F, hc, hf => by
    obtain ⟨f'', rfl⟩ : ∃ f'', f' = f'' + 1 := ⟨f' - 1, by omega⟩
    rw [barsN, barsN]
    by_cases h : firstB F = F.length
    · rw [if_pos h, if_pos h]
    · rw [if_neg h, if_neg h]
      have hlt : firstB F < F.length := by have := firstB_le F; omega
      have ht := firstB_t hlt
      have hp : ∀ d, partB W T 2 (barsN W T 2 f'') F (firstB F) d = partB W T 2 (barsN W T 2 f) F (firstB F) d := fun d => by
        unfold partB
        split
        · have := clear_cnt (W := W) (T := T) d hlt ht
          exact barsN_stab f f'' _ (by omega) (by omega)
        · rfl
      have hs : ∀ k, sumB W T 2 (barsN W T 2 f'') F (firstB F) k = sumB W T 2 (barsN W T 2 f) F (firstB F) k := by
        intro k
        induction k with
        | zero => rfl
        | succ k ih => rw [sumB, sumB, ih, hp]
      exact hs 2
def tilN (W T : Int) (F : List Bool) : Int := barsN W T 2 24 F
theorem barsN_rec {W T : Int} {F : List Bool} {c f : Nat} (hc : cnt F ≤ (f : Int) + 1) (h : firstB F = c) (hlt : c < F.length) : barsN W T 2 (f + 1) F = sumB W T 2 (barsN W T 2 (f + 1)) F c 2 := by
  subst h
  have ht := firstB_t hlt
  have hp : ∀ d, partB W T 2 (barsN W T 2 f) F (firstB F) d = partB W T 2 (barsN W T 2 (f + 1)) F (firstB F) d := fun d => by
    unfold partB
    split
    · have := clear_cnt (W := W) (T := T) d hlt ht
      exact (barsN_stab f (f + 1) _ (by omega) (by omega)).symm
    · rfl
  have hs : ∀ k, sumB W T 2 (barsN W T 2 f) F (firstB F) k = sumB W T 2 (barsN W T 2 (f + 1)) F (firstB F) k := by
    intro k
    induction k with
    | zero => rfl
    | succ k ih => rw [sumB, sumB, ih, hp]
  rw [← hs 2]
  conv => lhs; rw [barsN, if_neg (show ¬ firstB F = F.length by omega)]
theorem tilN_rec {W T : Int} {F : List Bool} {c : Nat} (hc : cnt F ≤ 24) (h : firstB F = c) (hlt : c < F.length) : tilN W T F = sumB W T 2 (tilN W T) F c 2 :=
  barsN_rec (f := 23) (by omega) h hlt
theorem tilN_none {W T : Int} {F : List Bool} (h : firstB F = F.length) : tilN W T F = 1 := by
  exact til_full h
theorem part_f {W T : Int} {rec : List Bool → Int} {F : List Bool} {c : Nat} {d : Int} (hc : c < F.length) (h : F[c] = true) (hs : stepZ W T c d < 0 ∨ F.getD (stepZ W T c d).toNat false = false) : partB W T 2 rec F c d = 0 := by
  unfold partB
  rw [if_neg]
  rintro ⟨hl, -⟩
  rw [barL_head hc h] at hl
  have : barL W T F d 1 (stepZ W T c d) = [] := by
    show (if _ then _ else _) = _
    rw [if_neg]
    rintro ⟨h1, h2⟩
    rcases hs with hs | hs
    · omega
    · rw [hs] at h2; cases h2
  rw [this] at hl
  simp at hl
theorem part_t {W T : Int} {rec : List Bool → Int} {F : List Bool} {c s : Nat} {d : Int} (hc : c < F.length) (h : F[c] = true) (hs : stepZ W T c d = (s : Int)) (hF : F.getD s false = true) : partB W T 2 rec F c d = rec ((F.set c false).set s false) := by
  have e : barL W T F d 2 c = [(c : Int), (s : Int)] := by
    rw [barL_head hc h, hs]
    congr 1
    show (if _ then _ else _) = _
    rw [if_pos ⟨by omega, by simpa using hF⟩]
    rfl
  unfold partB
  rw [e, if_pos ⟨rfl, .inl (by omega)⟩]
  rfl
theorem tilN_bd {W T : Int} (F : List Bool) : 0 ≤ tilN W T F ∧ tilN W T F ≤ 16777216 := by
  have h := barsN_bd W T 2 24 F
  unfold tilN
  have e : (2 : Int) ^ 24 = 16777216 := by decide
  omega
end Go.Proofs.YtafmpgikdhlknaaGreat

/- How many tilings, plainly: the search tells as many as are counted; and as many as are counted set by set of covered cells. -/
namespace Go.Proofs.YtafmpgikdhlknaaGreat
open Go.RowKit

theorem emF_getD (bs : List Bool) (L : List Int) (k : Nat) : (emF bs L).getD k false = emK bs L k := by
  rcases Nat.lt_or_ge k bs.length with h | h
  · rw [getD_in _ _ (by rw [emF_len]; exact h), emF_get]
  · rw [List.getD_eq_getElem?_getD, List.getElem?_eq_none (by rw [emF_len]; exact h)]
    cases he : emK bs L k with
    | true => have := emK_lt he; omega
    | false => rfl
theorem cnt_mono : ∀ (F G : List Bool), F.length ≤ G.length → (∀ k, F.getD k false = true → G.getD k false = true) → cnt F ≤ cnt G
  | [], G, _, _ => by unfold cnt; simp
  | a :: F, [], h, _ => by simp at h
  | a :: F, b :: G, h, hk => by
    have ih := cnt_mono F G (by simpa using h) (fun k hF => by have := hk (k + 1) (by simpa using hF); simpa using this)
    have h0 := hk 0
    unfold cnt at *
    cases a with
    | false => cases b <;> simp at ih ⊢ <;> omega
    | true =>
      have hb : b = true := by simpa using h0 (by simp)
      subst hb
      simp at ih ⊢
      omega
theorem cnt_em (bs : List Bool) (L : List Int) : cnt (emF bs L) ≤ cnt bs :=
  cnt_mono _ _ (by rw [emF_len]; exact Nat.le_refl _) fun k h => by rw [emF_getD] at h; exact (emK_iff.1 h).1
/-- the search tells as many tilings as are counted -/
theorem tls_cnt {W T : Int} {bs : List Bool} (hf : FldG W T bs.length) : ∀ (f : Nat) (L : List Int), L.length = bs.length → cnt (emF bs L) ≤ f → cnt (emF bs L) ≤ 24 → ((tlsF W T bs f L).length : Int) = tilN W T (emF bs L)
  | 0, L, hl, hc, _ => by
    have he : fsL bs L = bs.length := by
      refine Classical.byContradiction fun hn => ?_
      have h1 : fsL bs L < bs.length := by have := fsL_le bs L; omega
      have := cnt_set_lt (emF bs L) (fsL bs L) (by rw [emF_len]; exact h1) (by rw [emF_get]; exact fsL_t h1)
      have := (cnt_le ((emF bs L).set (fsL bs L) false)).1
      omega
    unfold tlsF
    rw [if_pos he, tilN_none (by rw [emF_len]; exact he)]
    rfl
  | f + 1, L, hl, hc, h24 => by
    unfold tlsF
    by_cases he : fsL bs L = bs.length
    · rw [if_pos he, tilN_none (by rw [emF_len]; exact he)]
      rfl
    · rw [if_neg he]
      have hlt : fsL bs L < bs.length := by have := fsL_le bs L; omega
      have hfr := fsL_t hlt
      obtain ⟨c, hcc⟩ : ∃ c, fsL bs L = c := ⟨_, rfl⟩
      rw [hcc] at hlt hfr ⊢
      have hcF : c < (emF bs L).length := by rw [emF_len]; exact hlt
      have hFc : (emF bs L)[c] = true := by rw [emF_get]; exact hfr
      have arm : ∀ d : Int, 1 ≤ d ∧ d ≤ 4 → (((if mayL W T bs L c d = true then tlsF W T bs f (layL W T L c d) else []).length : Nat) : Int) = partB W T 2 (tilN W T) (emF bs L) c d := fun d hd => by
        by_cases hm : mayL W T bs L c d = true
        · rw [if_pos hm]
          obtain ⟨s, e, h1, h2⟩ := may_ex hm
          have hs := emK_lt h2
          have hlt2 := em_lt hf hl hd hm
          rw [tls_cnt hf f _ (by rw [layL_len]; exact hl) (by omega) (by omega), part_t hcF hFc e (by rw [emF_getD]; exact h2), emF_lay (by omega) (by omega) e (by omega) (by have := back_back hd; omega)]
        · rw [if_neg hm, part_f hcF hFc ?_]
          · rfl
          · rcases Int.lt_or_le (stepZ W T c d) 0 with h | h
            · exact .inl h
            · right
              rw [emF_getD, Bool.eq_false_iff]
              intro h9
              apply hm
              unfold mayL
              rw [decide_eq_true h, hfr, h9]
              rfl
      rw [tilN_rec h24 (show firstB (emF bs L) = c from hcc) hcF, List.length_append, Int.natCast_add, arm 1 (by omega), arm 2 (by omega)]
      show _ = 0 + partB W T 2 (tilN W T) (emF bs L) c (((0 : Nat) : Int) + 1) + partB W T 2 (tilN W T) (emF bs L) c (((1 : Nat) : Int) + 1)
      rw [Int.zero_add]
      rfl
theorem emF_bare (bs : List Bool) : emF bs (List.replicate bs.length 0) = bs := by
  refine List.ext_getElem (emF_len _ _) fun k h1 h2 => ?_
  rw [emF_get]
  unfold emK
  rw [getD_in _ _ h2, getD_in _ _ (by rw [List.length_replicate]; exact h2), List.getElem_replicate]
  simp
theorem tlsV_cnt {W T : Int} {bs : List Bool} (hf : FldG W T bs.length) (hc : cnt bs ≤ 24) : ((tlsV W T bs).length : Int) = tilN W T bs := by
  have h := tls_cnt hf bs.length (List.replicate bs.length 0) (by simp) (by rw [emF_bare]; exact (cnt_le bs).2) (by rw [emF_bare]; exact hc)
  rw [emF_bare] at h
  exact h

/-! ### Set by set -/
/-- the cells that are free, from a cell on, where those of a set are covered -/
def frS (bs : List Bool) (k s : Nat) : List Bool := (List.range bs.length).map fun i => decide (k ≤ i) && (bs.getD i false && !s.testBit (i - k))
def sOk (W : Int) (bs : List Bool) (k s : Nat) : Prop := s < 2 ^ W.toNat ∧ ∀ i, s.testBit i = true → bs.getD (k + i) false = true
def optN (W T : Int) (bs : List Bool) (k s : Nat) : List Nat :=
  if s % 2 = 1 ∨ bs.getD k false = false then [s / 2] else
    (if (0 ≤ stepZ W T k 1 ∧ bs.getD (stepZ W T k 1).toNat false = true) ∧ s / 2 % 2 = 0 then [s / 2 + 1] else []) ++
    (if 0 ≤ stepZ W T k 2 ∧ bs.getD (stepZ W T k 2).toNat false = true then [s / 2 + 2 ^ (W.toNat - 1)] else [])
theorem frS_len (bs : List Bool) (k s : Nat) : (frS bs k s).length = bs.length := by unfold frS; simp
theorem frS_get {bs : List Bool} {k s i : Nat} (h : i < (frS bs k s).length) : (frS bs k s)[i] = (decide (k ≤ i) && (bs.getD i false && !s.testBit (i - k))) := by simp only [frS, List.getElem_map, List.getElem_range]
theorem frS_getD (bs : List Bool) (k s i : Nat) : (frS bs k s).getD i false = (decide (k ≤ i) && (bs.getD i false && !s.testBit (i - k))) := by
  rcases Nat.lt_or_ge i bs.length with h | h
  · rw [getD_in _ _ (by rw [frS_len]; exact h), frS_get]
  · rw [List.getD_eq_getElem?_getD, List.getElem?_eq_none (by rw [frS_len]; exact h), List.getD_eq_getElem?_getD, List.getElem?_eq_none h]
    simp
theorem frS_cnt (bs : List Bool) (k s : Nat) : cnt (frS bs k s) ≤ cnt bs :=
  cnt_mono _ _ (by rw [frS_len]; exact Nat.le_refl _) fun i h => by
    rw [frS_getD, Bool.and_eq_true, Bool.and_eq_true] at h
    exact h.2.1
theorem frS_0 (bs : List Bool) : frS bs 0 0 = bs := by
  refine List.ext_getElem (frS_len _ _ _) fun k h1 h2 => ?_
  rw [frS_get, getD_in _ _ h2]
  simp
theorem sOk_0 (W : Int) (bs : List Bool) : sOk W bs 0 0 := ⟨Nat.two_pow_pos _, fun i h => by simp at h⟩
theorem tb_even {s : Nat} (h : s % 2 ≠ 1) : s.testBit 0 = false := by rw [Nat.testBit_zero]; simp; omega
theorem sOk_end {W : Int} {bs : List Bool} {s : Nat} (h : sOk W bs bs.length s) : s = 0 := by
  refine Nat.eq_of_testBit_eq fun i => ?_
  rw [Nat.zero_testBit]
  cases hb : s.testBit i with
  | false => rfl
  | true =>
    have := h.2 i hb
    rw [List.getD_eq_getElem?_getD, List.getElem?_eq_none (by omega)] at this
    cases this
theorem frS_end (W T : Int) (bs : List Bool) (s : Nat) : tilN W T (frS bs bs.length s) = 1 := by
  refine tilN_none (firstB_eq (Nat.le_refl _) (fun k hk _ => ?_) (fun h => absurd h (Nat.lt_irrefl _)))
  rw [frS_get]
  have := frS_len bs bs.length s
  rw [decide_eq_false (by omega)]; rfl
def oS (g : Int → Int) : List Int → Int
  | [] => 0
  | o :: O => g o + oS g O
def optZ (W T : Int) (bs : List Bool) (k : Nat) (s : Int) : List Int := (optN W T bs k s.toNat).map fun (a : Nat) => (a : Int)
def gZ (W T : Int) (bs : List Bool) (k : Nat) (s : Int) : Int := tilN W T (frS bs k s.toNat)
theorem oS_app (g : Int → Int) : ∀ (O P : List Int), oS g (O ++ P) = oS g O + oS g P
  | [], P => by simp [oS]
  | o :: O, P => by rw [List.cons_append, oS, oS, oS_app g O P]; omega
theorem frS_ext {bs : List Bool} {F : List Bool} {k s : Nat} (hl : F.length = bs.length) (h : ∀ i, i < bs.length → F.getD i false = (decide (k ≤ i) && (bs.getD i false && !s.testBit (i - k)))) : F = frS bs k s := by
  refine List.ext_getElem (by rw [hl, frS_len]) fun i h1 h2 => ?_
  rw [frS_get, ← h i (by omega), getD_in _ _ h1]
theorem getD_setTm {l : List Bool} {k j : Nat} (hk : k < l.length) : (l.set k false).getD j false = if j = k then false else l.getD j false := by
  rw [List.getD_eq_getElem?_getD, List.getD_eq_getElem?_getD, List.getElem?_set]
  by_cases h : k = j
  · subst h; simp [hk]
  · rw [if_neg h, if_neg (fun e => h e.symm)]
/-- a cell that is covered, or none -/
theorem opt_skip {W : Int} {bs : List Bool} {k s : Nat} (hs : sOk W bs k s) (h : s % 2 = 1 ∨ bs.getD k false = false) : sOk W bs (k + 1) (s / 2) ∧ frS bs k s = frS bs (k + 1) (s / 2) := by
  refine ⟨⟨Nat.lt_of_le_of_lt (Nat.div_le_self _ _) hs.1, fun i hi => ?_⟩, ?_⟩
  · have := hs.2 (i + 1) (by rw [Nat.testBit_succ]; exact hi)
    rw [show k + 1 + i = k + (i + 1) by omega]
    exact this
  · refine frS_ext (frS_len _ _ _) fun i hi => ?_
    rw [frS_getD]
    rcases Nat.lt_trichotomy i k with h1 | h1 | h1
    · rw [decide_eq_false (by omega), decide_eq_false (by omega)]; rfl
    · subst h1
      rw [decide_eq_false (show ¬ i + 1 ≤ i by omega), Nat.sub_self, Nat.testBit_zero]
      rcases h with h | h
      · rw [h]; simp
      · rw [h]; simp
    · rw [decide_eq_true (by omega), decide_eq_true (by omega), show i - k = i - (k + 1) + 1 by omega, Nat.testBit_succ]
theorem tb_add1 {s : Nat} (h : s % 2 = 0) (j : Nat) : (s + 1).testBit (j + 1) = s.testBit (j + 1) := by
  rw [Nat.testBit_succ, Nat.testBit_succ, show (s + 1) / 2 = s / 2 by omega]
/-- a domino to the east -/
theorem opt_east {W : Int} {bs : List Bool} {k s : Nat} (hw : 1 ≤ W) (hs : sOk W bs k s) (hk : k + 1 < bs.length) (h0 : ¬ (s % 2 = 1 ∨ bs.getD k false = false)) (h1 : bs.getD (k + 1) false = true) (h2 : s / 2 % 2 = 0) :
    sOk W bs (k + 1) (s / 2 + 1) ∧ ((frS bs k s).set k false).set (k + 1) false = frS bs (k + 1) (s / 2 + 1) := by
  have hp : 2 ^ W.toNat = 2 * 2 ^ (W.toNat - 1) := by
    obtain ⟨m, hm⟩ : ∃ m, W.toNat = m + 1 := ⟨W.toNat - 1, by omega⟩
    rw [hm, Nat.add_sub_cancel, Nat.pow_succ]; omega
  have hp1 : 1 ≤ 2 ^ (W.toNat - 1) := Nat.one_le_two_pow
  obtain ⟨hlt, hb⟩ := hs
  refine ⟨⟨by omega, fun i hi => ?_⟩, ?_⟩
  · cases i with
    | zero => exact h1
    | succ j =>
      rw [tb_add1 h2, ← Nat.testBit_succ] at hi
      have := hb _ hi
      rw [show k + 1 + (j + 1) = k + (j + 1 + 1) by omega]
      exact this
  · refine frS_ext (by rw [List.length_set, List.length_set, frS_len]) fun i hi => ?_
    rw [getD_setTm (by rw [List.length_set, frS_len]; exact hk), getD_setTm (by rw [frS_len]; omega), frS_getD]
    by_cases e1 : i = k + 1
    · subst e1
      rw [if_pos rfl, Nat.sub_self, Nat.testBit_zero, decide_eq_true (show (s / 2 + 1) % 2 = 1 by omega)]
      simp
    · rw [if_neg e1]
      by_cases e2 : i = k
      · subst e2
        rw [if_pos rfl, decide_eq_false (by omega)]; rfl
      · rw [if_neg e2]
        rcases Nat.lt_or_ge i k with h3 | h3
        · rw [decide_eq_false (by omega), decide_eq_false (by omega)]; rfl
        · rw [decide_eq_true (by omega), decide_eq_true (by omega)]
          obtain ⟨j, rfl⟩ : ∃ j, i = k + 2 + j := ⟨i - (k + 2), by omega⟩
          rw [show k + 2 + j - k = j + 1 + 1 by omega, show k + 2 + j - (k + 1) = j + 1 by omega, tb_add1 h2, Nat.testBit_succ]
theorem tb_addp {x m j : Nat} (h : x < 2 ^ m) : (x + 2 ^ m).testBit j = if j = m then true else x.testBit j := by
  rw [Nat.add_comm]
  rcases Nat.lt_trichotomy j m with h1 | h1 | h1
  · rw [if_neg (by omega), Nat.testBit_two_pow_add_gt h1]
  · subst h1
    rw [if_pos rfl, Nat.testBit_two_pow_add_eq, Nat.testBit_lt_two_pow h]; rfl
  · rw [if_neg (by omega)]
    have hp : 2 ^ (m + 1) ≤ 2 ^ j := Nat.pow_le_pow_right (by omega) (by omega)
    rw [Nat.pow_succ] at hp
    rw [Nat.testBit_lt_two_pow (show 2 ^ m + x < 2 ^ j by omega), Nat.testBit_lt_two_pow (show x < 2 ^ j by omega)]
/-- a domino to the north -/
theorem opt_north {W : Int} {bs : List Bool} {k s w : Nat} (hw : W = (w : Int) + 1) (hs : sOk W bs k s) (hk : k + (w + 1) < bs.length) (h0 : ¬ (s % 2 = 1 ∨ bs.getD k false = false)) (h1 : bs.getD (k + (w + 1)) false = true) :
    sOk W bs (k + 1) (s / 2 + 2 ^ w) ∧ ((frS bs k s).set k false).set (k + (w + 1)) false = frS bs (k + 1) (s / 2 + 2 ^ w) := by
  have hW : W.toNat = w + 1 := by omega
  obtain ⟨hlt, hb⟩ := hs
  rw [hW, Nat.pow_succ] at hlt
  have hlt2 : s / 2 < 2 ^ w := by omega
  refine ⟨⟨by rw [hW, Nat.pow_succ]; omega, fun i hi => ?_⟩, ?_⟩
  · rw [tb_addp hlt2] at hi
    by_cases e : i = w
    · subst e
      rw [show k + 1 + i = k + (i + 1) by omega]
      exact h1
    · rw [if_neg e, ← Nat.testBit_succ] at hi
      have := hb _ hi
      rw [show k + 1 + i = k + (i + 1) by omega]
      exact this
  · refine frS_ext (by rw [List.length_set, List.length_set, frS_len]) fun i hi => ?_
    rw [getD_setTm (by rw [List.length_set, frS_len]; exact hk), getD_setTm (by rw [frS_len]; omega), frS_getD]
    by_cases e1 : i = k + (w + 1)
    · subst e1
      rw [if_pos rfl, show k + (w + 1) - (k + 1) = w by omega, tb_addp hlt2, if_pos rfl]
      simp
    · rw [if_neg e1]
      by_cases e2 : i = k
      · subst e2
        rw [if_pos rfl, decide_eq_false (by omega)]; rfl
      · rw [if_neg e2]
        rcases Nat.lt_or_ge i k with h3 | h3
        · rw [decide_eq_false (by omega), decide_eq_false (by omega)]; rfl
        · rw [decide_eq_true (by omega), decide_eq_true (by omega), tb_addp hlt2, if_neg (by omega), show i - k = i - (k + 1) + 1 by omega, Nat.testBit_succ]
/-- a cell's options count all -/
theorem opt_tiles {W T : Int} {bs : List Bool} (hf : FldG W T bs.length) {k s : Nat} (hs : sOk W bs k s) (hk : k < bs.length) (hc : cnt bs ≤ 24) :
    gZ W T bs k s = oS (gZ W T bs (k + 1)) (optZ W T bs k s) ∧ (∀ o ∈ optN W T bs k s, sOk W bs (k + 1) o) ∧ (optN W T bs k s).length ≤ 2 := by
  unfold optZ gZ optN
  rw [Int.toNat_natCast]
  by_cases h0 : s % 2 = 1 ∨ bs.getD k false = false
  · rw [if_pos h0]
    obtain ⟨a, b⟩ := opt_skip hs h0
    refine ⟨?_, fun o ho => by rw [List.mem_singleton] at ho; subst ho; exact a, by simp⟩
    rw [b]
    simp only [List.map_cons, List.map_nil, oS, Int.toNat_natCast, Int.add_zero]
  · rw [if_neg h0]
    have hbk : bs.getD k false = true := by cases h : bs.getD k false <;> simp_all
    have hev : s % 2 = 0 := by have : ¬ s % 2 = 1 := fun e => h0 (.inl e); omega
    have hkF : k < (frS bs k s).length := by rw [frS_len]; exact hk
    have hFk : (frS bs k s)[k] = true := by rw [frS_get, hbk, Nat.sub_self, Nat.testBit_zero, decide_eq_false (show ¬ s % 2 = 1 by omega)]; simp
    have hfb : firstB (frS bs k s) = k := firstB_eq (by omega) (fun i hi hik => by rw [frS_get, decide_eq_false (by omega)]; rfl) (fun _ => hFk)
    have hcF := frS_cnt bs k s
    have w1 := hf.w1
    obtain ⟨w, hw⟩ : ∃ w : Nat, W = (w : Int) + 1 := ⟨(W - 1).toNat, by omega⟩
    have hW : W.toNat = w + 1 := by omega
    have E : partB W T 2 (tilN W T) (frS bs k s) k 1 = oS (fun o => tilN W T (frS bs (k + 1) o.toNat)) ((if (0 ≤ stepZ W T k 1 ∧ bs.getD (stepZ W T k 1).toNat false = true) ∧ s / 2 % 2 = 0 then [s / 2 + 1] else []).map fun (a : Nat) => (a : Int)) ∧
        ∀ o ∈ (if (0 ≤ stepZ W T k 1 ∧ bs.getD (stepZ W T k 1).toNat false = true) ∧ s / 2 % 2 = 0 then [s / 2 + 1] else []), sOk W bs (k + 1) o := by
      rcases hf.step hk (d := 1) (dx := 1) (dy := 0) (.inl ⟨rfl, rfl, rfl⟩) with ⟨t, et, ht, -, -, -⟩ | ⟨et, -⟩
      · have e1 : t = k + 1 := by rw [step1] at et; split at et <;> omega
        subst e1
        rw [et, Int.toNat_natCast]
        by_cases hc2 : (0 ≤ ((k + 1 : Nat) : Int) ∧ bs.getD (k + 1) false = true) ∧ s / 2 % 2 = 0
        · rw [if_pos hc2]
          obtain ⟨a, b⟩ := opt_east w1 hs ht h0 hc2.1.2 hc2.2
          refine ⟨?_, fun o ho => by rw [List.mem_singleton] at ho; subst ho; exact a⟩
          rw [part_t hkF hFk et ?_, b]
          · simp only [List.map_cons, List.map_nil, oS, Int.toNat_natCast, Int.add_zero]
          · rw [frS_getD, decide_eq_true (by omega), hc2.1.2, show k + 1 - k = 0 + 1 by omega, Nat.testBit_succ, Nat.testBit_zero, decide_eq_false (by omega)]; rfl
        · rw [if_neg hc2]
          refine ⟨?_, fun o ho => by cases ho⟩
          rw [part_f hkF hFk (.inr ?_)]
          · rfl
          · rw [et, Int.toNat_natCast, frS_getD, decide_eq_true (by omega), show k + 1 - k = 0 + 1 by omega, Nat.testBit_succ, Nat.testBit_zero]
            cases hb : bs.getD (k + 1) false with
            | false => rfl
            | true =>
              have : s / 2 % 2 = 1 := by
                refine Classical.byContradiction fun hn => hc2 ⟨⟨by omega, hb⟩, by omega⟩
              rw [this]; rfl
      · rw [et, if_neg (by omega)]
        refine ⟨?_, fun o ho => by cases ho⟩
        rw [part_f hkF hFk (.inl (by omega))]
        rfl
    have N : partB W T 2 (tilN W T) (frS bs k s) k 2 = oS (fun o => tilN W T (frS bs (k + 1) o.toNat)) ((if 0 ≤ stepZ W T k 2 ∧ bs.getD (stepZ W T k 2).toNat false = true then [s / 2 + 2 ^ (W.toNat - 1)] else []).map fun (a : Nat) => (a : Int)) ∧
        ∀ o ∈ (if 0 ≤ stepZ W T k 2 ∧ bs.getD (stepZ W T k 2).toNat false = true then [s / 2 + 2 ^ (W.toNat - 1)] else []), sOk W bs (k + 1) o := by
      rw [hW, Nat.add_sub_cancel]
      rcases hf.step hk (d := 2) (dx := 0) (dy := 1) (.inr (.inl ⟨rfl, rfl, rfl⟩)) with ⟨t, et, ht, -, -, -⟩ | ⟨et, -⟩
      · have e1 : t = k + (w + 1) := by rw [step2] at et; split at et <;> omega
        subst e1
        rw [et, Int.toNat_natCast]
        have hbw : s.testBit (w + 1) = false := by
          refine Nat.testBit_lt_two_pow ?_
          have := hs.1
          rw [hW] at this
          exact this
        by_cases hc2 : 0 ≤ ((k + (w + 1) : Nat) : Int) ∧ bs.getD (k + (w + 1)) false = true
        · rw [if_pos hc2]
          obtain ⟨a, b⟩ := opt_north hw hs ht h0 hc2.2
          refine ⟨?_, fun o ho => by rw [List.mem_singleton] at ho; subst ho; exact a⟩
          rw [part_t hkF hFk et ?_, b]
          · simp only [List.map_cons, List.map_nil, oS, Int.toNat_natCast, Int.add_zero]
          · rw [frS_getD, decide_eq_true (by omega), hc2.2, show k + (w + 1) - k = w + 1 by omega, hbw]; rfl
        · rw [if_neg hc2]
          refine ⟨?_, fun o ho => by cases ho⟩
          rw [part_f hkF hFk (.inr ?_)]
          · rfl
          · rw [et, Int.toNat_natCast, frS_getD]
            cases hb : bs.getD (k + (w + 1)) false with
            | false => simp
            | true => exact absurd ⟨by omega, hb⟩ hc2
      · rw [et, if_neg (by omega)]
        refine ⟨?_, fun o ho => by cases ho⟩
        rw [part_f hkF hFk (.inl (by omega))]
        rfl
    refine ⟨?_, fun o ho => ?_, ?_⟩
    · rw [List.map_append, oS_app, tilN_rec (by omega) hfb (by rw [frS_len]; exact hk)]
      show 0 + partB W T 2 (tilN W T) (frS bs k s) k (((0 : Nat) : Int) + 1) + partB W T 2 (tilN W T) (frS bs k s) k (((1 : Nat) : Int) + 1) = _
      rw [Int.zero_add]
      exact congr (congrArg _ E.1) N.1
    · rcases List.mem_append.1 ho with h | h
      · exact E.2 o h
      · exact N.2 o h
    · rw [List.length_append]
      split <;> split <;> simp

/-! ### Sums over sets -/
def wS (g : Int → Int) : List Int → List Int → Int
  | s :: S, y :: Y => y * g s + wS g S Y
  | _, _ => 0
theorem wS_nil (g : Int → Int) (Y : List Int) : wS g [] Y = 0 := by cases Y <;> rfl
theorem wS_app (g : Int → Int) : ∀ (X Z : List Int) (o z : Int), Z.length = X.length → wS g (X ++ [o]) (Z ++ [z]) = wS g X Z + z * g o
  | [], [], o, z, _ => by simp [wS]
  | [], _ :: _, _, _, h => by simp at h
  | _ :: _, [], _, _, h => by simp at h
  | x :: X, y :: Z, o, z, h => by
    rw [List.cons_append, List.cons_append, wS, wS, wS_app g X Z o z (by simpa using h)]; omega
theorem wS_set (g : Int → Int) : ∀ (X Z : List Int) (q : Nat) (y : Int), Z.length = X.length → q < Z.length → wS g X (Z.set q (Z.getD q 0 + y)) = wS g X Z + y * g (X.getD q 0)
  | [], Z, q, _, h, hq => by simp at h; subst h; simp at hq
  | _ :: _, [], q, _, _, hq => by simp at hq
  | x :: X, z :: Z, 0, y, h, _ => by simp [wS, Int.add_mul]; omega
  | x :: X, z :: Z, q + 1, y, h, hq => by
    rw [List.set_cons_succ, wS, wS, List.getD_cons_succ, List.getD_cons_succ, wS_set g X Z q y (by simpa using h) (by simpa using hq)]; omega
theorem wS_congr {g g' : Int → Int} : ∀ (X Z : List Int), (∀ s ∈ X, g s = g' s) → wS g X Z = wS g' X Z
  | [], Z, _ => by rw [wS_nil, wS_nil]
  | _ :: _, [], _ => rfl
  | x :: X, z :: Z, h => by
    rw [wS, wS, h x (by simp), wS_congr X Z (fun s hs => h s (by simp [hs]))]
theorem wS_le {g g' : Int → Int} : ∀ (X Z : List Int), (∀ s ∈ X, g s ≤ g' s) → (∀ z ∈ Z, 0 ≤ z) → wS g X Z ≤ wS g' X Z
  | [], Z, _, _ => by rw [wS_nil, wS_nil]; exact Int.le_refl _
  | _ :: _, [], _, _ => Int.le_refl _
  | x :: X, z :: Z, h, hz => by
    have h1 := Int.mul_le_mul_of_nonneg_left (h x (by simp)) (hz z (by simp))
    have h2 := wS_le X Z (fun s hs => h s (by simp [hs])) (fun s hs => hz s (by simp [hs]))
    rw [wS, wS]
    omega
theorem wS_mul (c : Int) : ∀ (X Z : List Int), wS (fun _ => c) X Z = c * wS (fun _ => 1) X Z
  | [], Z => by rw [wS_nil, wS_nil]; simp
  | _ :: _, [] => by simp [wS]
  | x :: X, z :: Z => by rw [wS, wS, wS_mul c X Z, Int.mul_add, Int.mul_one, Int.mul_comm]
theorem wS_elem : ∀ (X Z : List Int) (q : Nat), Z.length = X.length → (∀ z ∈ Z, 0 ≤ z) → q < Z.length → 0 ≤ Z.getD q 0 ∧ Z.getD q 0 ≤ wS (fun _ => 1) X Z
  | [], Z, q, h, _, hq => by simp at h; subst h; simp at hq
  | _ :: _, [], q, _, _, hq => by simp at hq
  | x :: X, z :: Z, 0, h, hz, _ => by
    have h0 := hz z (by simp)
    have hn : 0 ≤ wS (fun _ => 1) X Z := by
      have := wS_le (g := fun _ => 0) (g' := fun _ => 1) X Z (fun _ _ => by omega) (fun s hs => hz s (by simp [hs]))
      rw [wS_mul] at this
      omega
    rw [List.getD_cons_zero, wS]
    omega
  | x :: X, z :: Z, q + 1, h, hz, hq => by
    have h0 := hz z (by simp)
    have := wS_elem X Z q (by simpa using h) (fun s hs => hz s (by simp [hs])) (by simpa using hq)
    rw [List.getD_cons_succ, wS]
    omega
theorem wS_pos (X Z : List Int) (hz : ∀ z ∈ Z, 0 ≤ z) : 0 ≤ wS (fun _ => 1) X Z := by
  have := wS_le (g := fun _ => 0) (g' := fun _ => 1) X Z (fun _ _ => by omega) hz
  rw [wS_mul] at this
  omega
theorem wS_take (g : Int → Int) (S Y : List Int) (h : Y.length = S.length) {j : Nat} (hj : j < S.length) : wS g (S.take (j + 1)) (Y.take (j + 1)) = wS g (S.take j) (Y.take j) + Y.getD j 0 * g (S.getD j 0) := by
  rw [List.take_succ_eq_append_getElem hj, List.take_succ_eq_append_getElem (by omega : j < Y.length), wS_app _ _ _ _ _ (by rw [List.length_take, List.length_take]; omega), getD_in _ _ hj, getD_in _ _ (by omega : j < Y.length)]
theorem wS_takele (S Y : List Int) (hz : ∀ z ∈ Y, 0 ≤ z) : ∀ j, wS (fun _ => 1) (S.take j) (Y.take j) ≤ wS (fun _ => 1) S Y := by
  induction S generalizing Y with
  | nil => intro j; rw [List.take_nil, wS_nil, wS_nil]; exact Int.le_refl _
  | cons s S ih =>
    intro j
    cases Y with
    | nil => rw [List.take_nil]; cases j <;> exact Int.le_refl _
    | cons y Y =>
      cases j with
      | zero => rw [List.take_zero, wS_nil]; exact wS_pos _ _ hz
      | succ j =>
        rw [List.take_succ_cons, List.take_succ_cons, wS, wS]
        have := ih Y (fun s hs => hz s (by simp [hs])) j
        omega
/-- the sets so far, each with its number of ways -/
structure TmI (W T : Int) (bs : List Bool) (k : Nat) (S Y : List Int) : Prop where
  len : Y.length = S.length
  ok : ∀ s ∈ S, ∃ a : Nat, s = a ∧ sOk W bs k a
  pos : ∀ y ∈ Y, 0 ≤ y
  bd : wS (fun _ => 1) S Y ≤ 2 ^ k
  eq : wS (gZ W T bs k) S Y = tilN W T bs
/-- .. and those of the next cell, from the first j of them -/
structure TmJ (W T : Int) (bs : List Bool) (k : Nat) (S Y : List Int) (j : Nat) (X Z : List Int) : Prop where
  len : Z.length = X.length
  ok : ∀ s ∈ X, ∃ a : Nat, s = a ∧ sOk W bs (k + 1) a
  pos : ∀ z ∈ Z, 0 ≤ z
  eq : ∀ g, wS g X Z = wS (fun s => oS g (optZ W T bs k s)) (S.take j) (Y.take j)
/-- .. and from t options of the next one -/
structure TmT (W T : Int) (bs : List Bool) (k : Nat) (S Y : List Int) (j : Nat) (O : List Int) (t : Nat) (X Z : List Int) : Prop where
  len : Z.length = X.length
  ok : ∀ s ∈ X, ∃ a : Nat, s = a ∧ sOk W bs (k + 1) a
  pos : ∀ z ∈ Z, 0 ≤ z
  eq : ∀ g, wS g X Z = wS (fun s => oS g (optZ W T bs k s)) (S.take j) (Y.take j) + Y.getD j 0 * oS g (O.take t)
theorem TmI.start (W T : Int) (bs : List Bool) : TmI W T bs 0 [0] [1] := by
  refine ⟨rfl, fun s hs => ?_, fun y hy => ?_, by simp [wS], ?_⟩
  · rw [List.mem_singleton] at hs; subst hs; exact ⟨0, rfl, sOk_0 W bs⟩
  · rw [List.mem_singleton] at hy; subst hy; omega
  · show 1 * tilN W T (frS bs 0 (Int.toNat 0)) + 0 = _
    rw [show (Int.toNat 0) = 0 from rfl, frS_0]; omega
theorem TmJ.start (W T : Int) (bs : List Bool) (k : Nat) (S Y : List Int) : TmJ W T bs k S Y 0 [] [] :=
  ⟨rfl, (fun s hs => by cases hs), (fun s hs => by cases hs), (fun g => by rw [List.take_zero, List.take_zero]; rfl)⟩
section
variable {W T : Int} {bs : List Bool} {k j t q : Nat} {S Y X Z O : List Int}
theorem TmJ.opts (h : TmJ W T bs k S Y j X Z) : TmT W T bs k S Y j O 0 X Z :=
  ⟨h.len, h.ok, h.pos, fun g => by rw [h.eq g, List.take_zero]; simp [oS]⟩
theorem TmT.done (h : TmT W T bs k S Y j (optZ W T bs k (S.getD j 0)) (optZ W T bs k (S.getD j 0)).length X Z) (hl : Y.length = S.length) (hj : j < S.length) : TmJ W T bs k S Y (j + 1) X Z :=
  ⟨h.len, h.ok, h.pos, fun g => by rw [h.eq g, wS_take _ _ _ hl hj, List.take_length]⟩
/-- a new set without ways -/
theorem TmT.more (h : TmT W T bs k S Y j O t X Z) {o : Int} (ho : ∃ a : Nat, o = a ∧ sOk W bs (k + 1) a) : TmT W T bs k S Y j O t (X ++ [o]) (Z ++ [0]) := by
  refine ⟨by simp [h.len], fun s hs => ?_, fun z hz => ?_, fun g => ?_⟩
  · rcases List.mem_append.1 hs with h1 | h1
    · exact h.ok s h1
    · rw [List.mem_singleton] at h1; subst h1; exact ho
  · rcases List.mem_append.1 hz with h1 | h1
    · exact h.pos z h1
    · rw [List.mem_singleton] at h1; omega
  · rw [wS_app _ _ _ _ _ h.len, h.eq g]; simp
theorem TmT.add (h : TmT W T bs k S Y j O t X Z) (hI : ∀ y ∈ Y, 0 ≤ y) (hj : j < Y.length) (hq : q < Z.length) (ht : t < O.length) (e : X.getD q 0 = O.getD t 0) : TmT W T bs k S Y j O (t + 1) X (Z.set q (Z.getD q 0 + Y.getD j 0)) := by
  have hy : 0 ≤ Y.getD j 0 := by rw [getD_in _ _ hj]; exact hI _ (List.getElem_mem hj)
  refine ⟨by rw [List.length_set]; exact h.len, h.ok, fun z hz => ?_, fun g => ?_⟩
  · rcases List.mem_or_eq_of_mem_set hz with h1 | h1
    · exact h.pos z h1
    · have : 0 ≤ Z.getD q 0 := by rw [getD_in _ _ hq]; exact h.pos _ (List.getElem_mem hq)
      omega
  · rw [wS_set _ _ _ _ _ h.len hq, h.eq g, e, List.take_succ_eq_append_getElem ht, oS_app, getD_in _ _ ht, Int.mul_add]
    simp [oS]
    omega
end
theorem oS_one : ∀ O : List Int, oS (fun _ => 1) O = O.length
  | [] => rfl
  | o :: O => by rw [oS, oS_one O, List.length_cons]; omega
section
variable {W T : Int} {bs : List Bool} {k j t q : Nat} {S Y X Z O : List Int}
theorem opt_len2 (hf : FldG W T bs.length) (hc : cnt bs ≤ 24) (hI : TmI W T bs k S Y) (hk : k < bs.length) (s : Int) (hs : s ∈ S) : oS (fun _ => 1) (optZ W T bs k s) ≤ 2 := by
  obtain ⟨a, rfl, ha⟩ := hI.ok s hs
  have h2 := (opt_tiles hf ha hk hc).2.2
  rw [oS_one]
  unfold optZ
  rw [List.length_map, Int.toNat_natCast]
  omega
/-- the numbers stay small -/
theorem TmT.bd (h : TmT W T bs k S Y j O t X Z) (hI : TmI W T bs k S Y) (hf : FldG W T bs.length) (hc : cnt bs ≤ 24) (hk : k < bs.length) (hj : j < Y.length) (hq : q < Z.length) (ht : (O.take t).length ≤ 2) (hk36 : k ≤ 36) :
    0 ≤ Z.getD q 0 ∧ Z.getD q 0 + Y.getD j 0 ≤ 1000000000000 ∧ 0 ≤ Y.getD j 0 := by
  have h1 := wS_elem X Z q h.len h.pos hq
  have h2 := wS_elem S Y j hI.len hI.pos hj
  have h3 := h.eq (fun _ => 1)
  have h4 := wS_le (g := fun s => oS (fun _ => 1) (optZ W T bs k s)) (g' := fun _ => 2) (S.take j) (Y.take j) (fun s hs => opt_len2 hf hc hI hk s (List.mem_of_mem_take hs)) (fun z hz => hI.pos z (List.mem_of_mem_take hz))
  rw [wS_mul] at h4
  have h5 := wS_takele S Y hI.pos j
  have h6 := hI.bd
  have h7 : (2 : Int) ^ k ≤ 68719476736 := by
    have : (2 : Nat) ^ k ≤ 2 ^ 36 := Nat.pow_le_pow_right (by omega) hk36
    have h8 : ((2 ^ k : Nat) : Int) ≤ ((2 ^ 36 : Nat) : Int) := Int.ofNat_le.2 this
    rw [Int.natCast_pow] at h8
    exact h8
  rw [oS_one] at h3
  have h9 : Y.getD j 0 * ((O.take t).length : Int) ≤ Y.getD j 0 * 2 := Int.mul_le_mul_of_nonneg_left (by omega) h2.1
  omega
/-- all of a cell -/
theorem TmJ.next (h : TmJ W T bs k S Y S.length X Z) (hI : TmI W T bs k S Y) (hf : FldG W T bs.length) (hc : cnt bs ≤ 24) (hk : k < bs.length) : TmI W T bs (k + 1) X Z := by
  have he := fun g => h.eq g
  rw [List.take_length, ← hI.len, List.take_length] at he
  refine ⟨h.len, h.ok, h.pos, ?_, ?_⟩
  · rw [he]
    have h4 := wS_le (g := fun s => oS (fun _ => 1) (optZ W T bs k s)) (g' := fun _ => 2) S Y (fun s hs => opt_len2 hf hc hI hk s hs) hI.pos
    rw [wS_mul] at h4
    have := hI.bd
    rw [Int.pow_succ]
    omega
  · rw [he, ← hI.eq]
    refine wS_congr _ _ fun s hs => ?_
    obtain ⟨a, rfl, ha⟩ := hI.ok s hs
    exact (opt_tiles hf ha hk hc).1.symm
/-- the end: no cell is left -/
theorem TmI.fin (hI : TmI W T bs bs.length S Y) : (∀ s ∈ S, s = 0) ∧ wS (fun _ => 1) S Y = tilN W T bs := by
  have h0 : ∀ s ∈ S, s = 0 := fun s hs => by
    obtain ⟨a, rfl, ha⟩ := hI.ok s hs
    rw [sOk_end ha]; rfl
  refine ⟨h0, ?_⟩
  rw [← hI.eq]
  refine wS_congr _ _ fun s _ => ?_
  unfold gZ
  rw [frS_end]
end
end Go.Proofs.YtafmpgikdhlknaaGreat

/- Contract: the reference's TilingsMany counts the tilings. Written by wip/gen_tmnx.py. -/
namespace Go.Proofs.YtafmpgikdhlknaaGreat
open Go.RowKit

theorem OwnI.keepH {w w' : World} {base : Nat} {v : Value} {xs : List Int} (h : OwnI w base v xs) (hk : ∀ b, v.ownBlock = some b → w'.heap[b]? = w.heap[b]?) : OwnI w' base v xs := by
  obtain ⟨A, c, e, o⟩ := h
  refine ⟨A, c, e, o.1, ?_⟩
  rcases o.2 with h1 | ⟨g, cap, cur, hv, h1⟩
  · exact .inl h1
  · refine .inr ⟨g, cap, cur, hv, ?_⟩
    have := hk g (by rw [hv]; rfl)
    obtain ⟨a1, a2, a3⟩ := h1
    exact ⟨a1, by rw [this]; exact a2, a3⟩
theorem OwnI.ltB {w : World} {base : Nat} {v : Value} {xs : List Int} (h : OwnI w base v xs) : ∀ k, v.ownBlock = some k → base ≤ k ∧ k < w.heap.size := by
  obtain ⟨A, c, e, o⟩ := h
  exact o.lt
theorem OwnI.sl {w : World} {base : Nat} {v : Value} {xs : List Int} (h : OwnI w base v xs) : ∃ (A : Option Addr) (c : Nat), v = .slice A xs.length c ∧ Rd w A (xs.map (.int .i64)) := by
  obtain ⟨A, c, e, o⟩ := id h
  subst e
  exact ⟨A, c, rfl, h.rd.2⟩
section
variable {ops : Array Oper} {rest : List Oper} {o : Oper} {a : Act} {Q : Exit → Act → World → Prop}
/-- a number appended, and where the list lies then -/
theorem opw_int1 {K : Act → World → Prop} (W : World) (s x : Operand) (ho : o.op = .call { callee := .builtin .append, args := #[s, x], argTypes := #[29, 29] })
    (base : Nat) (v : Value) (xs : List Int) (hs : a.eval s = v) (hown : OwnI W base v xs) (u : Int) (b : Nat) (hx : a.eval x = .slice (some ⟨b, 0, none⟩) 1 1) (hc : W.cell? ⟨b, 0, none⟩ = some (.int .i64 u)) (hm : xs.length + 1 ≤ 1000000000000) (hbase : base ≤ W.heap.size)
    (h : ∀ v' w', OwnI w' base v' (xs ++ [u]) → W.grownBy w' v.ownBlock → (v'.ownBlock = v.ownBlock ∨ v'.ownBlock = some W.heap.size) → K (a.put o.dst v') w') : Oper.wp Tryz.prog o a W K Q := by
  obtain ⟨i0, hi, hz0, hz1, hz2⟩ := info_parts Tryz.infoI
  obtain ⟨A, c', e, hown⟩ := hown
  obtain ⟨v', w', hr, h2, h3, _, h5⟩ := run_append_own_at (P := Tryz.prog) W base 29 o.type 3 i0 (.int .i64 0) 1 8 Tryz.underlying29 hi hz0 hz1 hz2 rfl (by decide) v xs.length (xs.map (.int .i64)) hown ⟨b, 0, none⟩ 1 1 [.int .i64 u] rfl (fun j y hj => by
    match j, hj with
    | 0, hj => simp at hj; subst hj; simpa [Addr.add] using hc) (fun y hy => by simp at hy; subst hy; rfl) (by unfold maxLen; omega) (by omega) hbase
  unfold Oper.wp execOp
  simp only [ho, resolve, invoke, builtin, Sem.run_bind, Sem.run_pure, Result.andThen_ok, List.map_toArray, List.map_cons, List.map_nil, hs, hx, hr]
  have e1 : xs.map (Value.int .i64) ++ [.int .i64 u] = (xs ++ [u]).map (.int .i64) := by simp
  have e2 : (xs ++ [u]).length = xs.length + 1 := by simp
  rw [e1] at h2
  refine h v' w' ?_ h3 h5
  obtain ⟨g, cap, rfl, _, _⟩ := h2.form (by omega)
  exact ⟨_, cap, by rw [e2], by rw [e2]; exact h2⟩
theorem wpList_int1 (W : World) (hgd : o.guard = none) (s x : Operand) (ho : o.op = .call { callee := .builtin .append, args := #[s, x], argTypes := #[29, 29] })
    (base : Nat) (v : Value) (xs : List Int) (hs : a.eval s = v) (hown : OwnI W base v xs) (u : Int) (b : Nat) (hx : a.eval x = .slice (some ⟨b, 0, none⟩) 1 1) (hc : W.cell? ⟨b, 0, none⟩ = some (.int .i64 u)) (hm : xs.length + 1 ≤ 1000000000000) (hbase : base ≤ W.heap.size)
    (h : ∀ v' w', OwnI w' base v' (xs ++ [u]) → W.grownBy w' v.ownBlock → (v'.ownBlock = v.ownBlock ∨ v'.ownBlock = some W.heap.size) → wpList Tryz.prog ops Q rest (a.put o.dst v') w') : wpList Tryz.prog ops Q (o :: rest) a W :=
  wpList_plain hgd fun _ hK => opw_int1 W s x ho base v xs hs hown u b hx hc hm hbase fun v' w' k1 k2 k3 => hK _ _ (h v' w' k1 k2 k3)
end
theorem i_newT (w : World) (q : Int) : (w.alloc (.cells #[.int .i64 q] 3)).cell? ⟨w.heap.size, 0, none⟩ = some (.int .i64 q) := cell_of_row _ _ _ _ _ _ (heap_alloc_new w _)
structure Tm3 (w1 : World) (v6 v7 : Value) (X Y : List Int) (wr : World) : Prop where
  o6 : OwnI wr w1.heap.size v6 X
  o7 : OwnI wr w1.heap.size v7 Y
  ne : ∀ k, v6.ownBlock = some k → v7.ownBlock ≠ some k
  bel : Below w1.heap.size w1 wr
theorem Tm3.belo {w1 wr w' : World} {v6 v7 : Value} {X Y : List Int} (h : Tm3 w1 v6 v7 X Y wr) (hb : Below wr.heap.size wr w') : Tm3 w1 v6 v7 X Y w' := ⟨h.o6.belo hb, h.o7.belo hb, h.ne, bl_go h.bel hb⟩
/-- .. and the options, which are read -/
structure Tm5 (w1 : World) (v6 v7 : Value) (X Y : List Int) (A : Option Addr) (O : List Int) (wr : World) : Prop where
  t : Tm3 w1 v6 v7 X Y wr
  ro : Rd wr A (O.map (.int .i64))
  sep : ∀ ad, A = some ad → O ≠ [] → ad.block < wr.heap.size ∧ v6.ownBlock ≠ some ad.block ∧ v7.ownBlock ≠ some ad.block
theorem rd_keepB {w w' : World} {A : Option Addr} {O : List Int} (h : Rd w A (O.map (.int .i64))) (hb : ∀ ad, A = some ad → O ≠ [] → w'.heap[ad.block]? = w.heap[ad.block]?) : Rd w' A (O.map (.int .i64)) := fun hne => by
  obtain ⟨ad, e, hc⟩ := h hne
  refine ⟨ad, e, fun j u hu => ?_⟩
  have hcj := hc j u hu
  have hk := hb ad e (fun e2 => hne (by rw [e2]; rfl))
  have hz : (ad.add j).block = ad.block := blk_add ad j
  rw [World.cell?_of_block (show w'.heap[(ad.add j).block]? = w.heap[(ad.add j).block]? by rw [hz]; exact hk)]
  exact hcj
theorem Tm5.drewN {w1 wr : World} {v6 v7 : Value} {X Y O : List Int} {A : Option Addr} (h : Tm5 w1 v6 v7 X Y A O wr) (q : Nat) : Tm5 w1 v6 v7 X Y A O (wr.drewN q) :=
  ⟨⟨h.t.o6.drewN q, h.t.o7.drewN q, h.t.ne, below_drewN' h.t.bel q⟩, h.ro.drewN q, h.sep⟩
theorem Tm5.belo {w1 wr w' : World} {v6 v7 : Value} {X Y O : List Int} {A : Option Addr} (h : Tm5 w1 v6 v7 X Y A O wr) (hb : Below wr.heap.size wr w') : Tm5 w1 v6 v7 X Y A O w' :=
  ⟨h.t.belo hb, h.ro.belo hb, fun ad e n => by obtain ⟨a, b, c⟩ := h.sep ad e n; exact ⟨Nat.lt_of_lt_of_le a hb.size, b, c⟩⟩
theorem Tm5.app6 {w1 W w' : World} {v6 v7 v6' : Value} {X X' Y O : List Int} {A : Option Addr} (h : Tm5 w1 v6 v7 X Y A O W) (ho : OwnI w' w1.heap.size v6' X') (hg : W.grownBy w' v6.ownBlock) (he : v6'.ownBlock = v6.ownBlock ∨ v6'.ownBlock = some W.heap.size) : Tm5 w1 v6' v7 X' Y A O w' := by
  have hs := hg.size
  refine ⟨⟨ho, h.t.o7.keepH fun b hb => hg.block b (h.t.o7.ltB b hb).2 (fun e => h.t.ne b e.symm hb), fun k hk h7 => ?_, h.t.bel.grown hg h.t.bel.size (fun k hk => (h.t.o6.ltB k hk).1)⟩, rd_keepB h.ro fun ad e n => ?_, fun ad e n => ?_⟩
  · rcases he with e | e
    · rw [e] at hk; exact h.t.ne k hk h7
    · rw [e] at hk; injection hk with hk; have := (h.t.o7.ltB k h7).2; omega
  · obtain ⟨a, b, -⟩ := h.sep ad e n
    exact hg.block ad.block a (fun e => b e.symm)
  · obtain ⟨a, b, c⟩ := h.sep ad e n
    refine ⟨by omega, fun e2 => ?_, c⟩
    rcases he with e | e
    · rw [e] at e2; exact b e2
    · rw [e] at e2; injection e2 with e2; omega
theorem Tm5.app7 {w1 W w' : World} {v6 v7 v7' : Value} {X Y Y' O : List Int} {A : Option Addr} (h : Tm5 w1 v6 v7 X Y A O W) (ho : OwnI w' w1.heap.size v7' Y') (hg : W.grownBy w' v7.ownBlock) (he : v7'.ownBlock = v7.ownBlock ∨ v7'.ownBlock = some W.heap.size) : Tm5 w1 v6 v7' X Y' A O w' := by
  have hs := hg.size
  refine ⟨⟨h.t.o6.keepH fun b hb => hg.block b (h.t.o6.ltB b hb).2 (fun e => h.t.ne b hb e.symm), ho, fun k hk h7 => ?_, h.t.bel.grown hg h.t.bel.size (fun k hk => (h.t.o7.ltB k hk).1)⟩, rd_keepB h.ro fun ad e n => ?_, fun ad e n => ?_⟩
  · rcases he with e | e
    · rw [e] at h7; exact h.t.ne k hk h7
    · rw [e] at h7; injection h7 with h7; have := (h.t.o6.ltB k hk).2; omega
  · obtain ⟨a, -, b⟩ := h.sep ad e n
    exact hg.block ad.block a (fun e => b e.symm)
  · obtain ⟨a, b, c⟩ := h.sep ad e n
    refine ⟨by omega, b, fun e2 => ?_⟩
    rcases he with e | e
    · rw [e] at e2; exact c e2
    · rw [e] at e2; injection e2 with e2; omega
theorem Tm5.set7 {w1 W : World} {v6 : Value} {g n c : Nat} {X Y O : List Int} {A : Option Addr} (h : Tm5 w1 v6 (.slice (some ⟨g, 0, none⟩) n c) X Y A O W) (k : Nat) (z : Int) : Tm5 w1 v6 (.slice (some ⟨g, 0, none⟩) n c) X (Y.set k z) A O (W.setCell ⟨g, k, none⟩ (.int .i64 z)) := by
  obtain ⟨h1, -, h2, -⟩ := h.t.o7.stored k z
  have hg : ∀ b, b ≠ g → (W.setCell ⟨g, k, none⟩ (.int .i64 z)).heap[b]? = W.heap[b]? := fun b hb => Below.heap_setCell _ _ _ _ hb
  refine ⟨⟨h.t.o6.keepH fun b hb => hg b (fun e => h.t.ne b hb (by rw [e]; rfl)), h1, h.t.ne, h.t.bel.setCell h2 _⟩, rd_keepB h.ro fun ad e n => hg _ (fun e2 => (h.sep ad e n).2.2 (by rw [e2]; rfl)), fun ad e n => ?_⟩
  obtain ⟨a, b, c⟩ := h.sep ad e n
  exact ⟨by simpa [World.setCell] using a, b, c⟩
/-- the options of a cell, by what the program reckons -/
theorem opt_val1 {W T : Int} {bs : List Bool} {k : Nat} {z : Int} {cv bk : Bool} (hz : ∃ a : Nat, z = a ∧ sOk W bs k a) (hcv : (z.tmod 2 == 1) = cv) (hk : k < bs.length) (hbk : bs[k] = bk) (h : cv = true ∨ bk = false) : optZ W T bs k z = [z.tdiv 2] := by
  obtain ⟨a, rfl, -⟩ := hz
  unfold optZ optN
  rw [Int.toNat_natCast, getD_in _ _ hk, hbk]
  have h2 : a % 2 = 1 ∨ bk = false := by
    rcases h with h | h
    · left
      rw [h, beq_iff_eq, Int.tmod_eq_emod_of_nonneg (by omega)] at hcv
      omega
    · exact .inr h
  rw [if_pos h2, List.map_cons, List.map_nil, Int.tdiv_eq_ediv_of_nonneg (by omega)]
  rfl
theorem opt_val2 {W T : Int} {bs : List Bool} {k : Nat} {z : Int} {q1 q2 : Bool} (hz : ∃ a : Nat, z = a ∧ sOk W bs k a) (hcv : (z.tmod 2 == 1) = false) (hk : k < bs.length) (hbk : bs[k] = true)
    (h1 : q1 = (decide (0 ≤ stepZ W T k 1) && (bs.getD (stepZ W T k 1).toNat false && ((z.tdiv 2).tmod 2 == 0)))) (h2 : q2 = (decide (0 ≤ stepZ W T k 2) && bs.getD (stepZ W T k 2).toNat false)) :
    optZ W T bs k z = (if q1 = true then [z.tdiv 2 + 1] else []) ++ (if q2 = true then [z.tdiv 2 + ((2 ^ (W.toNat - 1) : Nat) : Int)] else []) := by
  obtain ⟨a, rfl, -⟩ := hz
  unfold optZ optN
  rw [Int.toNat_natCast, getD_in _ _ hk, hbk]
  rw [beq_eq_false_iff_ne, Int.tmod_eq_emod_of_nonneg (by omega)] at hcv
  rw [if_neg (by simp; omega), List.map_append]
  rw [Int.tdiv_eq_ediv_of_nonneg (by omega : (0 : Int) ≤ (a : Int))] at h1 ⊢
  rw [Int.tmod_eq_emod_of_nonneg (by omega)] at h1
  have e2 : (((a : Int) / 2 % 2 == 0) = true) ↔ a / 2 % 2 = 0 := by rw [beq_iff_eq]; omega
  congr 1
  · subst h1
    by_cases h : (0 ≤ stepZ W T k 1 ∧ bs.getD (stepZ W T k 1).toNat false = true) ∧ a / 2 % 2 = 0
    · rw [if_pos h, if_pos (by rw [Bool.and_eq_true, Bool.and_eq_true, decide_eq_true_eq, e2]; exact ⟨h.1.1, h.1.2, h.2⟩)]
      simp
    · rw [if_neg h, if_neg (by rw [Bool.and_eq_true, Bool.and_eq_true, decide_eq_true_eq, e2]; exact fun g => h ⟨⟨g.1, g.2.1⟩, g.2.2⟩)]
      rfl
  · subst h2
    by_cases h : 0 ≤ stepZ W T k 2 ∧ bs.getD (stepZ W T k 2).toNat false = true
    · rw [if_pos h, if_pos (by rw [Bool.and_eq_true, decide_eq_true_eq]; exact h)]
      simp
    · rw [if_neg h, if_neg (by rw [Bool.and_eq_true, decide_eq_true_eq]; exact h)]
      rfl
/-- the number of a valid region's tilings, -1 for another -/
def tmZ (W T : Int) (bs : List Bool) : Int := if validB W T bs = true then tilN W T bs else -1
theorem cb_t {cv bk : Bool} (h : true = (cv || !bk)) : cv = true ∨ bk = false := by cases cv <;> cases bk <;> simp_all
theorem cb_f {cv bk : Bool} (h : false = (cv || !bk)) : cv = false ∧ bk = true := by cases cv <;> cases bk <;> simp_all
theorem getD_snoc (X : List Int) (v : Int) : (X ++ [v]).getD X.length 0 = v := by simp [List.getD_eq_getElem?_getD]
theorem wS_stop (S Y : List Int) (g : Int → Int) : wS g (S.take 0) (Y.take 0) = 0 := by rw [List.take_zero, wS_nil]
set_option maxRecDepth 100000 in
set_option maxHeartbeats 8000000 in
theorem tilMany_any (W T : Int) (A : Option Addr) (c n : Nat) (bs : List Bool) (w : World) (hr : Rd w A (bs.map .bool)) (hval : validB W T bs = true) (hn : bs.length = n) :
    Calls Tryz.prog 62 #[.agg #[.int .i64 W, .int .i64 T, .slice A n c]] w fun e w' => e = .returned (.int .i64 (tilN W T bs)) ∧ Below w.heap.size w w' := by
  obtain ⟨⟨w1, w6⟩, ⟨t1, t6⟩, hlen, -⟩ := validB_iff.1 hval
  have hf : FldF W T n := ⟨w1, w6, t1, t6, by rw [← hn]; exact hlen⟩
  have n36 : n ≤ 36 := hf.bd
  have CV := Lib.hid (fun (z : World) (R : Rd z A (bs.map .bool)) => by have := sRegionValid_any W T A c bs z R (by unfold maxLen; omega); rw [hval, hn] at this; exact this)
  have CST := Lib.hid (fun (a : Nat) (ha : a < n) (q : Int) (z : World) => l2step_any W T (.slice A n c) a q z w1 w6 t1 t6 (by omega) (by have := hf.len; omega))
  have HSB := Lib.hid (fun (a : Nat) (ha : a < n) (q : Int) => show stepZ W T a q < 0 ∨ ∃ s : Nat, stepZ W T a q = s ∧ s < n from by
    have h := step_bd q w1 w6 t1 t6 (show 0 ≤ (a : Int) by omega) (by have := hf.len; omega)
    rcases Int.lt_or_le (stepZ W T a q) 0 with h1 | h1
    · exact .inl h1
    · obtain ⟨s, hs⟩ := Int.eq_ofNat_of_zero_le h1
      exact .inr ⟨s, hs, by have := hf.len; rw [hs] at h; omega⟩)
  have HBN := Lib.hid hn
  have HFG := Lib.hid (show FldG W T bs.length from valid_fld hval)
  have HC24 := Lib.hid (validB_iff.1 hval).2.2.2
  have hWn : 1 ≤ W.toNat ∧ W.toNat ≤ 6 ∧ (W.toNat : Int) = W := by omega
  have hP := Lib.hid (show ∃ P : Nat, 2 ^ (W.toNat - 1) = P ∧ 1 ≤ P ∧ P ≤ 32 from by
    refine ⟨_, rfl, Nat.one_le_two_pow, ?_⟩
    have : 2 ^ (W.toNat - 1) ≤ 2 ^ 5 := Nat.pow_le_pow_right (by omega) (by omega)
    omega)
  have X0 := C3.new w (.int .i64 W) (.int .i64 T) (.slice A n c) 25
  have B0 := bl_alloc (Below.refl w.heap.size w) (.cells #[.int .i64 W, .int .i64 T, .slice A n c] 25)
  have CV0 := Lib.hid (CV.out _ (hr.belo B0))
  obtain ⟨x0, x1, x2⟩ := id X0
  clear hval hlen hf hn CV
  go_enter Tryz.func62, Tryz.ntmps62
  go_wp2_with fail
  generalize w.alloc (.cells #[.int .i64 W, .int .i64 T, .slice A n c] 25) = u at *
  refine CV0.out.mono ?_
  rintro e w2 ⟨rfl, b2⟩
  have B2 := bl_go B0 b2
  have X2 := X0.belo b2
  clear x0 x1 x2 X0 B0 b2 CV0
  have O3 := OwnI.uno w2 0
  have b3 := bl_alloc (Below.refl w2.heap.size w2) (.cells #[.int .i64 0] 3)
  have O4 := OwnI.uno (w2.alloc (.cells #[.int .i64 0] 3)) 1
  have b4 := bl_alloc b3 (.cells #[.int .i64 1] 3)
  have O3' := O3.alloc (.cells #[.int .i64 1] 3)
  have hz : (w2.alloc (.cells #[.int .i64 0] 3)).heap.size = w2.heap.size + 1 := by simp
  rw [hz] at O4
  have X4 := X2.belo b4
  have B4 := bl_go B2 b4
  go_wp2_with fail
  generalize (w2.alloc (.cells #[.int .i64 0] 3)).alloc (.cells #[.int .i64 1] 3) = w4 at *
  have R3 := O3'.rd.2
  have R4 := O4.rd.2
  clear O3 O4 O3' b3 b4 hz B2 X2
  go_loopw [3, 4, 5] (fun s3 s4 i wr => ∃ (k c3 c4 : Nat) (A3 A4 : Option Addr) (S Y : List Int), k ≤ n ∧ i = .int .i64 k ∧ s3 = .slice A3 S.length c3 ∧ s4 = .slice A4 S.length c4 ∧ Rd wr A3 (S.map (.int .i64)) ∧ Rd wr A4 (Y.map (.int .i64)) ∧ Hid ((Y.length = S.length ∧ S.length ≤ 2 ^ k) ∧ TmI W T bs k S Y) ∧ C3 wr w.heap.size (.int .i64 W) (.int .i64 T) (.slice A n c) ∧ Below w.heap.size w wr) (fun _ _ i _ => n - (intOf i).toNat)
  case atStart => exact ⟨0, 1, 1, _, _, [0], [1], Nat.zero_le _, rfl, rfl, rfl, R3, R4, Lib.hid ⟨⟨rfl, by simp⟩, TmI.start W T bs⟩, X4, B4⟩
  case round =>
    clear R3 R4 X4 B4
    obtain ⟨k, c3, c4, A3, A4, S, Y, hk, rfl, rfl, rfl, RS, RY, HLI, XR, BR⟩ := hrel
    have HL := Lib.hid HLI.out.1
    have HI := Lib.hid HLI.out.2
    clear HLI
    obtain ⟨wk, hwk⟩ : ∃ wk : World, wk = wr := ⟨_, rfl⟩
    subst hwk
    obtain ⟨x0, x1, x2⟩ := id XR
    have h2k : 2 ^ k ≤ 68719476736 := by
      have : 2 ^ k ≤ 2 ^ 36 := Nat.pow_le_pow_right (by omega) (by omega)
      omega
    have hSl : S.length ≤ 68719476736 := Nat.le_trans HL.out.2 h2k
    by_cases hlt : k < n
    · have hkI : (k : Int) < (n : Int) := by omega
      have O6 := OwnI.empty wk
      have b6 := bl_alloc (Below.refl wk.heap.size wk) (.cells #[] 3)
      have O7 := OwnI.empty (wk.alloc (.cells #[] 3))
      have O6' := O6.alloc (.cells #[] 3)
      have b7 := bl_alloc b6 (.cells #[] 3)
      have hz : (wk.alloc (.cells #[] 3)).heap.size = wk.heap.size + 1 := by simp
      rw [hz] at O7
      have T0 : Tm3 wk (.slice (some ⟨wk.heap.size, 0, none⟩) 0 0) (.slice (some ⟨wk.heap.size + 1, 0, none⟩) 0 0) [] [] ((wk.alloc (.cells #[] 3)).alloc (.cells #[] 3)) :=
        ⟨O6', O7.base (Nat.le_succ _), fun k h1 h2 => by simp [Value.ownBlock] at h1 h2; omega, b7⟩
      clear O6 O7 O6' b6 b7 hz
      go_wp2_with fail
      generalize (wk.alloc (.cells #[] 3)).alloc (.cells #[] 3) = w8 at *
      clear x0 x1 x2
      go_loopw [6, 7, 8] (fun s6 s7 i wr => ∃ (j : Nat) (v6 v7 : Value) (X Z : List Int), j ≤ S.length ∧ i = .int .i64 j ∧ v6 = s6 ∧ v7 = s7 ∧ Hid ((X.length ≤ 2 * j ∧ X.length = Z.length) ∧ TmJ W T bs k S Y j X Z) ∧ Tm3 wk v6 v7 X Z wr) (fun _ _ i _ => S.length - (intOf i).toNat)
      case atStart => exact ⟨0, _, _, [], [], Nat.zero_le _, rfl, rfl, rfl, Lib.hid ⟨⟨Nat.zero_le _, rfl⟩, TmJ.start W T bs k S Y⟩, T0⟩
      case round =>
        clear T0
        obtain ⟨j, v6, v7, X, Z, hj, rfl, rfl, rfl, hXJ, TR⟩ := hrel
        have hXl := Lib.hid hXJ.out.1
        have HJ := Lib.hid hXJ.out.2
        clear hXJ
        obtain ⟨wj, hwj⟩ : ∃ wj : World, wj = wr := ⟨_, rfl⟩
        subst hwj
        by_cases hjl : j < S.length
        · have hjI : (j : Int) < (S.length : Int) := by omega
          obtain ⟨ad3, rfl, cz⟩ := (RS.belo TR.bel).atM hjl
          have HSZ := Lib.hid (show ∃ z, S.getD j 0 = z ∧ S[j] = z ∧ ∃ a : Nat, z = a ∧ sOk W bs k a from ⟨S[j], getD_in _ _ hjl, rfl, HI.out.ok _ (List.getElem_mem hjl)⟩)
          obtain ⟨z, hz0, hz1, hz2⟩ := HSZ.out
          rw [hz1] at cz
          have HZ0 := Lib.hid hz0
          have HZA := Lib.hid hz2
          have hzb : 0 ≤ z.tdiv 2 ∧ z.tdiv 2 ≤ 31 ∧ 0 ≤ z ∧ z < 2 ^ W.toNat := by
            obtain ⟨a, ha, hs⟩ := hz2
            have h1 := hs.1
            have h2 : 2 ^ W.toNat ≤ 2 ^ 6 := Nat.pow_le_pow_right (by omega) (by omega)
            have h3 : ((a : Nat) : Int) < ((2 ^ W.toNat : Nat) : Int) := Int.ofNat_lt.2 h1
            rw [Int.natCast_pow] at h3
            rw [ha, Int.tdiv_eq_ediv_of_nonneg (by omega)]
            refine ⟨by omega, by omega, by omega, h3⟩
          clear HSZ hz0 hz1 hz2
          have X9 := XR.belo TR.bel
          obtain ⟨x0, x1, x2⟩ := id X9
          have hx9 := X9.lt
          obtain ⟨cv, hcv⟩ : ∃ cv, (z.tmod 2 == 1) = cv := ⟨_, rfl⟩
          have HCV := Lib.hid hcv
          have HZP := Lib.hid hzb
          clear hzb
          have hkb : k < bs.length := by have := HBN.out; omega
          have OE := OwnI.empty wj
          have bo := bl_alloc (Below.refl wj.heap.size wj) (.cells #[] 3)
          have Xo := X9.belo bo
          obtain ⟨xo0, xo1, xo2⟩ := id Xo
          have hr9 := (hr.belo (bl_go BR TR.bel)).belo bo
          go_upto_block 4 with fail
          go_cut [11] from 32 to 163 (fun s11 wx => ∃ (A11 : Option Addr) (c11 : Nat) (O : List Int), s11 = .slice A11 O.length c11 ∧ Hid (O = optZ W T bs k z ∧ O.length ≤ 2) ∧ OwnI wx wj.heap.size (.slice A11 O.length c11) O ∧ Below wj.heap.size wj wx)
          case first => as_aux_lemma =>
            go_upto_region 22 with fail
            clear hcv
            generalize wj.alloc (.cells #[] 3) = wo at *
            clear x0 x1 x2 cz X9 hx9
            obtain ⟨b9, off9, rfl, ck⟩ := hr9.atEM hkb
            obtain ⟨bk, hbk⟩ : ∃ bk, bs[k] = bk := ⟨_, rfl⟩
            rw [hbk] at ck
            have HBK := Lib.hid hbk
            clear hbk
            obtain ⟨zb0, zb1, zb2, zb3⟩ := HZP.out
            obtain ⟨z2, hA⟩ : ∃ z2, z.tdiv 2 = z2 := ⟨_, rfl⟩
            have hB : z / 2 = z2 := by rw [← hA, Int.tdiv_eq_ediv_of_nonneg zb2]
            obtain ⟨z4, hC⟩ : ∃ z4, z2.tmod 2 = z4 := ⟨_, rfl⟩
            rw [hA] at zb0 zb1
            have hD : z2 % 2 = z4 := by rw [← hC, Int.tmod_eq_emod_of_nonneg zb0]
            have HSH := Lib.hid (show z / 2 ^ W.toNat = 0 from Int.ediv_eq_zero_of_lt zb2 zb3)
            clear zb3
            go_cut [100] from 32 to 163 (fun s100 wx => (∃ cb : Bool, s100 = .bool cb ∧ Hid (cb = (cv || !bk))) ∧ wx = wo)
            case first =>
              cases cv with
              | true =>
                go_wp2_with fail
                go_meet
                exact ⟨⟨_, rfl, Lib.hid rfl⟩, rfl⟩
              | false =>
                cases bk with
                | true =>
                  go_wp2_with fail
                  go_meet
                  exact ⟨⟨_, rfl, Lib.hid rfl⟩, rfl⟩
                | false =>
                  go_wp2_with fail
                  go_meet
                  exact ⟨⟨_, rfl, Lib.hid rfl⟩, rfl⟩
            case rest =>
              obtain ⟨⟨cb, rfl, HCB⟩, rfl⟩ := hcut
              obtain ⟨wo, hwo⟩ : ∃ wo : World, wo = wc := ⟨_, rfl⟩
              subst hwo
              clear ck
              have hsb := bo.size
              cases cb with
              | true =>
                go_wp2_with (at_builtin; refine app_int _ rfl _ _ rfl wj.heap.size _ [] rfl OE _ rfl (by simp) hsb ?_; intro A12 c12 w12 O12 g12)
                have HO1 := Lib.hid (show [z2] = optZ W T bs k z ∧ ([z2] : List Int).length ≤ 2 from ⟨by rw [opt_val1 HZA.out HCV.out hkb HBK.out (cb_t HCB.out), hA], by simp⟩)
                go_meet
                have hq : OwnI w12 wj.heap.size (.slice A12 ([z2] : List Int).length c12) [z2] := O12
                exact ⟨A12, c12, [z2], rfl, HO1, hq, app_below bo (Nat.le_refl _) hsb OE g12⟩
              | false =>
                go_wp2_with fail
                refine (CST.out k hlt 1 _).mono ?_
                rintro e wE ⟨rfl, bE⟩
                have XE := Xo.belo bE
                have OE1 := OE.belo bE
                have boE := bl_go bo bE
                have hrE := hr9.belo bE
                clear xo0 xo1 xo2
                obtain ⟨x0, x1, x2⟩ := id XE
                go_wp2_with fail
                refine (CST.out k hlt 2 _).mono ?_
                rintro e wF ⟨rfl, bF⟩
                have XF := XE.belo bF
                have OF := OE1.belo bF
                have boF := bl_go boE bF
                have hrF := hrE.belo bF
                have hsF := boF.size
                clear x0 x1 x2 XE OE1 boE hrE bE bF
                obtain ⟨x0, x1, x2⟩ := id XF
                have h1 := HSB.out k hlt 1
                have h2 := HSB.out k hlt 2
                have hcf : cv = false ∧ bk = true := cb_f HCB.out
                obtain ⟨P, hP1, hP2, hP3⟩ := hP.out
                have HOV := Lib.hid (fun (q1 q2 : Bool) (g1 : q1 = (decide (0 ≤ stepZ W T k 1) && (bs.getD (stepZ W T k 1).toNat false && ((z.tdiv 2).tmod 2 == 0)))) (g2 : q2 = (decide (0 ≤ stepZ W T k 2) && bs.getD (stepZ W T k 2).toNat false)) => (opt_val2 HZA.out (by rw [HCV.out]; exact hcf.1) hkb (by rw [HBK.out]; exact hcf.2) g1 g2 : _ = _))
                rw [hP1] at HOV
                have HW1 := Lib.hid (show wrap64 (2 ^ (W.toNat - 1)) = (P : Int) ∧ wrap64 (z2 + (P : Int)) = z2 + (P : Int) from by
                  have hw0 : (2 : Int) ^ (W.toNat - 1) = (P : Int) := by rw [← hP1, Int.natCast_pow]; rfl
                  exact ⟨by rw [hw0]; exact IntWalk.wrap64_in _ (by omega), IntWalk.wrap64_in _ (by omega)⟩)
                clear hcf hP1
                rw [hA] at HOV
                rw [hC] at HOV
                have HSW := Lib.hid hWn
                generalize stepZ W T k 1 = e1 at *
                generalize stepZ W T k 2 = e2 at *
                go_upto_region 18 with fail
                go_cut [66] from 32 to 163 (fun s66 wx => (∃ qb : Bool, s66 = .bool qb ∧ Hid (qb = (decide (0 ≤ e1) && (bs.getD e1.toNat false && (z4 == 0))))) ∧ wx = wF)
                case first =>
                  rcases h1 with h1 | ⟨s, rfl, hs⟩
                  · have h1d : decide (0 ≤ e1) = false := decide_eq_false (by omega)
                    have HQ := Lib.hid (show false = (decide (0 ≤ e1) && (bs.getD e1.toNat false && (z4 == 0))) from by rw [h1d]; rfl)
                    clear h1
                    go_wp2_with fail
                    go_meet
                    exact ⟨⟨_, rfl, HQ⟩, rfl⟩
                  · have hsb9 : s < bs.length := by have := HBN.out; omega
                    obtain ⟨b5, off5, e5, cs⟩ := hrF.atEM hsb9
                    injection e5 with e5; injection e5 with e5 e6
                    subst e5; subst e6
                    have hsI : (s : Int) < (n : Int) := by omega
                    have hs0 : decide (0 ≤ (s : Int)) = true := decide_eq_true (by omega)
                    have HB7 := Lib.hid (show bs.getD ((s : Int)).toNat false = bs[s] from by rw [Int.toNat_natCast, getD_in _ _ hsb9])
                    generalize bs[s] = b7 at *
                    obtain ⟨eb, hE⟩ : ∃ eb, (z4 == 0) = eb := ⟨_, rfl⟩
                    have HE := Lib.hid hE
                    cases b7 with
                    | true =>
                      have HQ := Lib.hid (show eb = (decide (0 ≤ (s : Int)) && (bs.getD ((s : Int)).toNat false && (z4 == 0))) from by rw [hs0, HB7.out, HE.out]; simp)
                      go_wp2_with fail
                      go_meet
                      exact ⟨⟨_, rfl, HQ⟩, rfl⟩
                    | false =>
                      have HQ := Lib.hid (show false = (decide (0 ≤ (s : Int)) && (bs.getD ((s : Int)).toNat false && (z4 == 0))) from by rw [hs0, HB7.out]; rfl)
                      go_wp2_with fail
                      go_meet
                      exact ⟨⟨_, rfl, HQ⟩, rfl⟩
                case rest =>
                  obtain ⟨⟨qb, rfl, HQ1⟩, rfl⟩ := hcut
                  obtain ⟨wF, hwF⟩ : ∃ wF : World, wF = wc := ⟨_, rfl⟩
                  subst hwF
                  go_upto_if 66 with fail
                  go_cut [11] from 32 to 163 (fun s11 wx => ∃ (A11 : Option Addr) (c11 : Nat) (O : List Int), s11 = .slice A11 O.length c11 ∧ Hid (O = (if qb = true then [z2 + 1] else []) ∧ O.length ≤ 1) ∧ OwnI wx wj.heap.size (.slice A11 O.length c11) O ∧ Below wj.heap.size wj wx)
                  case first =>
                    cases qb with
                    | true =>
                      go_wp2_with (at_builtin; refine app_int _ rfl _ _ rfl wj.heap.size _ [] rfl OF _ rfl (by simp) hsF ?_; intro A12 c12 w12 O12 g12)
                      go_meet
                      have hq : OwnI w12 wj.heap.size (.slice A12 ([z2 + 1] : List Int).length c12) [z2 + 1] := O12
                      exact ⟨A12, c12, [z2 + 1], rfl, Lib.hid ⟨rfl, by simp⟩, hq, app_below boF (Nat.le_refl _) hsF OF g12⟩
                    | false =>
                      go_wp2_with fail
                      go_meet
                      exact ⟨_, _, [], rfl, Lib.hid ⟨rfl, by simp⟩, OF, boF⟩
                  case rest =>
                    obtain ⟨A13, c13, O1, rfl, HO1, OG, boG⟩ := hcut
                    have hO1 := HO1.out.2
                    obtain ⟨wG, hwG⟩ : ∃ wG : World, wG = wc := ⟨_, rfl⟩
                    subst hwG
                    have XG := (XR.belo TR.bel).belo boG
                    have hrG := (hr.belo (bl_go BR TR.bel)).belo boG
                    have hsG := boG.size
                    clear x0 x1 x2 XF OF boF hrF hsF
                    obtain ⟨x0, x1, x2⟩ := id XG
                    go_upto_region 20 with fail
                    go_cut [89] from 32 to 163 (fun s89 wx => (∃ qb : Bool, s89 = .bool qb ∧ Hid (qb = (decide (0 ≤ e2) && bs.getD e2.toNat false))) ∧ wx = wG)
                    case first =>
                      rcases h2 with h2 | ⟨s, rfl, hs⟩
                      · have h2d : decide (0 ≤ e2) = false := decide_eq_false (by omega)
                        have HQ := Lib.hid (show false = (decide (0 ≤ e2) && bs.getD e2.toNat false) from by rw [h2d]; rfl)
                        clear h2
                        go_wp2_with fail
                        go_meet
                        exact ⟨⟨_, rfl, HQ⟩, rfl⟩
                      · have hsb9 : s < bs.length := by have := HBN.out; omega
                        obtain ⟨b5, off5, e5, cs⟩ := hrG.atEM hsb9
                        injection e5 with e5; injection e5 with e5 e6
                        subst e5; subst e6
                        have hsI : (s : Int) < (n : Int) := by omega
                        have hs0 : decide (0 ≤ (s : Int)) = true := decide_eq_true (by omega)
                        have HB7 := Lib.hid (show bs.getD ((s : Int)).toNat false = bs[s] from by rw [Int.toNat_natCast, getD_in _ _ hsb9])
                        generalize bs[s] = b7 at *
                        cases b7 with
                        | true =>
                          have HQ := Lib.hid (show true = (decide (0 ≤ (s : Int)) && bs.getD ((s : Int)).toNat false) from by rw [hs0, HB7.out]; rfl)
                          have hsh := HSH.out
                          go_wp2_with fail
                          go_meet
                          exact ⟨⟨_, rfl, HQ⟩, rfl⟩
                        | false =>
                          have HQ := Lib.hid (show false = (decide (0 ≤ (s : Int)) && bs.getD ((s : Int)).toNat false) from by rw [hs0, HB7.out]; rfl)
                          go_wp2_with fail
                          go_meet
                          exact ⟨⟨_, rfl, HQ⟩, rfl⟩
                    case rest =>
                      obtain ⟨⟨qb2, rfl, HQ2⟩, rfl⟩ := hcut
                      have HOO := Lib.hid (HOV.out qb qb2 HQ1.out HQ2.out)
                      obtain ⟨wG, hwG⟩ : ∃ wG : World, wG = wc := ⟨_, rfl⟩
                      subst hwG
                      cases qb2 with
                      | true =>
                        go_wp2_with (at_builtin; refine app_int _ rfl _ _ rfl wj.heap.size _ O1 rfl OG _ rfl (by omega) hsG ?_; intro A14 c14 w14 O14 g14)
                        go_meet
                        have hq : OwnI w14 wj.heap.size (.slice A14 (O1.length + 1) c14) (O1 ++ [wrap64 (z2 + wrap64 (2 ^ (W.toNat - 1)))]) := O14
                        rw [HW1.out.1, HW1.out.2] at hq
                        exact ⟨A14, c14, O1 ++ [z2 + (P : Int)], by simp, Lib.hid ⟨by rw [HOO.out, HO1.out.1]; rfl, by simp; omega⟩, by simpa using hq, app_below boG (Nat.le_refl _) hsG OG g14⟩
                      | false =>
                        go_wp2_with fail
                        go_meet
                        exact ⟨_, _, O1, rfl, Lib.hid ⟨by rw [HOO.out, HO1.out.1]; simp, by omega⟩, OG, boG⟩
          case rest =>
            obtain ⟨A11, c11, O, rfl, HOX, OO, bO⟩ := hcut
            have hO2 := HOX.out.2
            obtain ⟨wH, hwH⟩ : ∃ wH : World, wH = wc := ⟨_, rfl⟩
            subst hwH
            have TH : Tm5 wk v6 v7 X Z A11 O wH := ⟨TR.belo bO, OO.rd.2, fun ad e hne => by
              obtain ⟨h1, h2⟩ := OO.lt ad e
              exact ⟨h2, fun e2 => by have := (TR.o6.ltB _ e2).2; omega, fun e2 => by have := (TR.o7.ltB _ e2).2; omega⟩⟩
            have hXY := hXl.out
            clear x0 x1 x2 OO bO hr9 Xo bo OE TR xo0 xo1 xo2 cz X9 hx9
            go_wp2_with fail
            go_loopw [6, 7, 14] (fun s6 s7 i wr => ∃ (t : Nat) (v6 v7 : Value) (X Z : List Int), t ≤ O.length ∧ i = .int .i64 t ∧ v6 = s6 ∧ v7 = s7 ∧ Hid ((X.length ≤ 2 * j + t ∧ X.length = Z.length) ∧ TmT W T bs k S Y j O t X Z) ∧ Tm5 wk v6 v7 X Z A11 O wr) (fun _ _ i _ => O.length - (intOf i).toNat)
            case atStart => exact ⟨0, v6, v7, X, Z, Nat.zero_le _, rfl, rfl, rfl, Lib.hid ⟨by omega, HJ.out.opts⟩, TH⟩
            case round =>
              clear TH hXY
              obtain ⟨t, v6, v7, X, Z, ht, rfl, rfl, rfl, hXYT, TT⟩ := hrel
              have hXY := Lib.hid hXYT.out.1
              have HT := Lib.hid hXYT.out.2
              clear hXYT
              obtain ⟨wt, hwt⟩ : ∃ wt : World, wt = wr := ⟨_, rfl⟩
              subst hwt
              by_cases htl : t < O.length
              · have htI : (t : Int) < (O.length : Int) := by omega
                obtain ⟨ado, rfl, co⟩ := TT.ro.atM htl
                obtain ⟨ov, hov⟩ : ∃ ov, O[t] = ov := ⟨_, rfl⟩
                rw [hov] at co
                have HOT := Lib.hid (show O.getD t 0 = ov from by rw [getD_in _ _ htl]; exact hov)
                have HOK := Lib.hid (show ∃ a : Nat, ov = a ∧ sOk W bs (k + 1) a from by
                  obtain ⟨a, ha, hsa⟩ := HZA.out
                  have hm : ov ∈ O := by rw [← hov]; exact List.getElem_mem htl
                  rw [HOX.out.1, ha] at hm
                  unfold optZ at hm
                  rw [List.mem_map] at hm
                  obtain ⟨b, hb, rfl⟩ := hm
                  exact ⟨b, rfl, (opt_tiles HFG.out hsa hkb HC24.out).2.1 b (by rw [Int.toNat_natCast] at hb; exact hb)⟩)
                clear hov
                obtain ⟨A6, c6, rfl, R6⟩ := TT.t.o6.sl
                go_upto_block 7 with fail
                go_cut [15] from 115 to 163 (fun s15 wx => ∃ (q m : Nat), s15 = .int .i64 (q : Int) ∧ q ≤ X.length ∧ Hid (q < X.length → X.getD q 0 = ov) ∧ wx = wt.drewN m)
                case first => as_aux_lemma =>
                  have hXb : X.length ≤ 200000000000 := by have := hXY.out; have := hj; omega
                  go_wp2_with fail
                  go_loopw [15] (fun i wr => ∃ (q m : Nat), q ≤ X.length ∧ i = .int .i64 (q : Int) ∧ wr = wt.drewN m) (fun i _ => X.length - (intOf i).toNat)
                  case atStart => exact ⟨0, 0, Nat.zero_le _, rfl, rfl⟩
                  case round =>
                    obtain ⟨q, m, hq, rfl, rfl⟩ := hrel
                    have HM := Lib.hid (fun r => show (wt.drewN m).drewN r = wt.drewN (m + r) from World.drewN_drewN _ _ _)
                    have com : (wt.drewN m).cell? (ado.add t) = some (.int .i64 ov) := co
                    by_cases hql : q < X.length
                    · obtain ⟨ad6, rfl, cx⟩ := (R6.drewN m).atM hql
                      have hqI : (q : Int) < (X.length : Int) := by omega
                      have HXV := Lib.hid (show X.getD q 0 = X[q] from getD_in _ _ hql)
                      generalize X[q] = xv at *
                      generalize wt.drewN m = wm at *
                      by_cases hxo : xv = ov
                      · have hxb : (xv != ov) = false := by rw [hxo]; simp
                        have HQX := Lib.hid (show q < X.length → X.getD q 0 = ov from fun _ => HXV.out.trans hxo)
                        clear hxo
                        go_wp2_with fail
                        go_quiet (fail)
                        go_wp2_with fail
                        go_meet
                        exact ⟨q, _, rfl, hq, HQX, HM.out _⟩
                      · have hxb : (xv != ov) = true := by rw [bne_iff_ne]; exact hxo
                        clear hxo
                        go_wp2_with fail
                        go_quiet (fail)
                        go_wp2_with fail
                        go_roundw
                        case rel => exact ⟨q + 1, _, by omega, by go_num, HM.out _⟩
                        case measure => simp [intOf]; omega
                    · have hqd : decide ((q : Int) < (X.length : Int)) = false := decide_eq_false (by omega)
                      generalize wt.drewN m = wm at *
                      go_wp2_with fail
                      go_quiet (fail)
                      go_wp2_with fail
                      go_meet
                      exact ⟨q, _, rfl, hq, Lib.hid (fun h => absurd h hql), HM.out _⟩
                case rest =>
                  obtain ⟨q, m, rfl, hq, HQX, rfl⟩ := hcut
                  have TZ := TT.drewN m
                  have coz : (wt.drewN m).cell? (ado.add t) = some (.int .i64 ov) := co
                  generalize wt.drewN m = wz at *
                  clear TT co R6
                  go_upto_if 141 with fail
                  go_cut [6, 7] from 115 to 163 (fun s6 s7 wx => ∃ (v6 v7 : Value) (X2 Z2 : List Int), v6 = s6 ∧ v7 = s7 ∧ Hid ((q < X2.length ∧ X2.length ≤ X.length + 1 ∧ X2.length = Z2.length) ∧ TmT W T bs k S Y j O t X2 Z2 ∧ X2.getD q 0 = ov) ∧ Tm5 wk v6 v7 X2 Z2 (some ado) O wx)
                  case first => as_aux_lemma =>
                    by_cases hqe : q = X.length
                    · have hqb : ((q : Int) == (X.length : Int)) = true := by rw [beq_iff_eq]; omega
                      have HQ := Lib.hid hqe
                      have TA := TZ.belo (bl_alloc (Below.refl wz.heap.size wz) (.cells #[.int .i64 ov] 3))
                      have hXb : X.length + 1 ≤ 1000000000000 := by have := hXY.out; omega
                      have hZb : Z.length + 1 ≤ 1000000000000 := by have := hXY.out; omega
                      clear hqe
                      go_wp2_with (at_builtin; first
                        | (refine wpList_int1 _ rfl _ _ rfl wk.heap.size _ X rfl TA.t.o6 ov wz.heap.size rfl (i_newT _ _) hXb TA.t.bel.size ?_; intro v8 w8 o8 g8 e8; have T8 := TA.app6 o8 g8 e8; have T8a := T8.belo (bl_alloc (Below.refl w8.heap.size w8) (.cells #[.int .i64 0] 3)))
                        | (refine wpList_int1 _ rfl _ _ rfl wk.heap.size _ Z rfl T8a.t.o7 0 w8.heap.size rfl (i_newT _ _) hZb T8a.t.bel.size ?_; intro v9 w9 o9 g9 e9; have T9 := T8a.app7 o9 g9 e9))
                      go_meet
                      exact ⟨_, _, X ++ [ov], Z ++ [0], rfl, rfl, Lib.hid ⟨by rw [List.length_append, List.length_append, List.length_singleton, List.length_singleton]; have := hXY.out; have := HQ.out; omega, HT.out.more HOK.out, by rw [HQ.out]; exact getD_snoc X ov⟩, T9⟩
                    · have hqb : ((q : Int) == (X.length : Int)) = false := by rw [beq_eq_false_iff_ne]; omega
                      have HQ := Lib.hid (show q < X.length by omega)
                      clear hqe
                      go_wp2_with fail
                      go_meet
                      exact ⟨_, _, X, Z, rfl, rfl, Lib.hid ⟨by have := hXY.out; have := HQ.out; omega, HT.out, HQX.out HQ.out⟩, TZ⟩
                  case rest =>
                    obtain ⟨v6, v7, X2, Z2, rfl, rfl, HX2T, TC⟩ := hcut
                    have HX2 := Lib.hid HX2T.out.1
                    have HT2 := Lib.hid HX2T.out.2
                    clear HX2T
                    obtain ⟨wy, hwy⟩ : ∃ wy : World, wy = wc := ⟨_, rfl⟩
                    subst hwy
                    obtain ⟨A7, c7, rfl, R7⟩ := TC.t.o7.sl
                    have hq2 : q < Z2.length := by have := HX2.out; omega
                    obtain ⟨g7, rfl⟩ := TC.t.o7.head (by omega)
                    have c1 := R7.cellEM hq2
                    rw [Nat.zero_add] at c1
                    have f1 := (TC.t.o7.stored q 0).2.1
                    have hjY : j < Y.length := by have := HL.out; omega
                    obtain ⟨ad4, rfl, c2⟩ := (RY.belo TC.t.bel).atM hjY
                    have hqI : (q : Int) < (Z2.length : Int) := by omega
                    have HSUM := Lib.hid (show wrap64 (Z2[q] + Y[j]) = Z2.getD q 0 + Y.getD j 0 from by
                      have h9 := HT2.out.1.bd HI.out HFG.out HC24.out hkb hjY hq2 (by rw [List.length_take]; have := HOX.out.2; omega) (by omega)
                      rw [getD_in _ _ hq2, getD_in _ _ hjY] at h9 ⊢
                      exact IntWalk.wrap64_in _ (by omega))
                    have HT3 := Lib.hid (show TmT W T bs k S Y j O (t + 1) X2 (Z2.set q (wrap64 (Z2[q] + Y[j]))) from by
                      rw [HSUM.out]
                      exact HT2.out.1.add HI.out.pos hjY hq2 htl (by rw [HT2.out.2, HOT.out]))
                    clear HSUM
                    generalize Z2[q] = zv at *
                    generalize Y[j] = yv at *
                    have T9 := (TC.set7 q (wrap64 (zv + yv))).belo (Below.refl _ _).drew
                    have HXN := Lib.hid (show (X2.length ≤ 2 * j + (t + 1) ∧ X2.length = (Z2.set q (wrap64 (zv + yv))).length) ∧ TmT W T bs k S Y j O (t + 1) X2 (Z2.set q (wrap64 (zv + yv))) from by
                      refine ⟨?_, HT3.out⟩
                      rw [List.length_set]; have := HX2.out; have := hXY.out; omega)
                    clear TZ coz
                    go_wp2_with fail
                    go_region
                    go_wp2_with fail
                    go_roundw
                    case rel => exact ⟨t + 1, _, _, X2, _, by omega, by go_num, rfl, rfl, HXN, T9⟩
                    case measure => simp [intOf]; omega
              · obtain rfl : t = O.length := by omega
                have HXY := Lib.hid (show (X.length ≤ 2 * (j + 1) ∧ X.length = Z.length) ∧ TmJ W T bs k S Y (j + 1) X Z from ⟨by have := hXY.out; omega, TmT.done (by rw [HZ0.out, ← HOX.out.1]; exact HT.out) HI.out.len hjl⟩)
                have T3 := TT.t
                clear TT
                go_wp2_with fail
                go_roundw
                case rel => exact ⟨j + 1, _, _, X, Z, by omega, by go_num, rfl, rfl, HXY, T3⟩
                case measure => simp [intOf]; omega
        · obtain rfl : j = S.length := by omega
          obtain ⟨A6, c6, rfl, R6⟩ := TR.o6.sl
          obtain ⟨A7, c7, rfl, R7⟩ := TR.o7.sl
          have hXZ := hXl.out.2
          rw [← hXZ]
          have X9 := XR.belo TR.bel
          have B9 := bl_go BR TR.bel
          have HL9 := Lib.hid (show (Z.length = X.length ∧ X.length ≤ 2 ^ (k + 1)) ∧ TmI W T bs (k + 1) X Z from ⟨⟨hXZ.symm, by have := HL.out.2; have := hXl.out.1; rw [Nat.pow_succ]; omega⟩, HJ.out.next HI.out HFG.out HC24.out (by rw [HBN.out]; exact hlt)⟩)
          clear TR hXZ
          go_wp2_with fail
          go_roundw
          case rel => exact ⟨k + 1, c6, c7, A6, A7, X, Z, by omega, by go_num, rfl, rfl, R6, R7, HL9, X9, B9⟩
          case measure => simp [intOf]; omega
    · obtain rfl : k = n := by omega
      obtain ⟨w9, hw9⟩ : ∃ w9 : World, w9 = wk := ⟨_, rfl⟩
      subst hw9
      go_wp2_with fail
      clear x0 x1 x2
      have HFIN := Lib.hid (show (∀ s ∈ S, s = 0) ∧ wS (fun _ => 1) S Y = tilN W T bs from by have h := HI.out; rw [← HBN.out] at h; exact h.fin)
      go_loopw [16, 17] (fun s i wr => ∃ (q : Nat) (z : Int), q ≤ S.length ∧ Hid (z = wS (fun _ => 1) (S.take q) (Y.take q)) ∧ s = .int .i64 z ∧ i = .int .i64 (q : Int) ∧ w9 = wr) (fun _ i _ => S.length - (intOf i).toNat)
      case atStart => exact ⟨0, 0, Nat.zero_le _, Lib.hid (wS_stop S Y _).symm, rfl, rfl, rfl⟩
      case round =>
        obtain ⟨q, z, hq, HZ, rfl, rfl, rfl⟩ := hrel
        by_cases hql : q < S.length
        · have hqI : (q : Int) < (S.length : Int) := by omega
          have hqY : q < Y.length := by have := HL.out; omega
          obtain ⟨ad3, rfl, cx⟩ := RS.atM hql
          obtain ⟨ad4, rfl, cy⟩ := RY.atM hqY
          have hx0 : S[q] = 0 := HFIN.out.1 _ (List.getElem_mem hql)
          rw [hx0] at cx
          have HZN := Lib.hid (show wrap64 (z + Y[q]) = wS (fun _ => 1) (S.take (q + 1)) (Y.take (q + 1)) from by
            have e1 := wS_take (fun _ => 1) S Y HI.out.len hql
            have e2 := wS_takele S Y HI.out.pos (q + 1)
            have e3 := wS_pos (S.take (q + 1)) (Y.take (q + 1)) (fun z hz => HI.out.pos z (List.mem_of_mem_take hz))
            have e4 := HFIN.out.2
            have e5 := tilN_bd (W := W) (T := T) bs
            rw [← HZ.out, getD_in _ _ hqY, Int.mul_one] at e1
            rw [← e1]
            exact IntWalk.wrap64_in _ (by omega))
          generalize Y[q] = yv at *
          clear hx0
          go_wp2_with fail
          go_roundw
          case rel => exact ⟨q + 1, _, by omega, HZN, rfl, by go_num, trivial⟩
          case measure => simp [intOf]; omega
        · obtain rfl : q = S.length := by omega
          have HZF := Lib.hid (show z = tilN W T bs from by
            have h1 := HZ.out
            rw [List.take_length, ← HI.out.len, List.take_length] at h1
            exact h1.trans HFIN.out.2)
          go_wp2_with fail
          go_ret
          exact ⟨by rw [HZF.out]; rfl, BR⟩
end Go.Proofs.YtafmpgikdhlknaaGreat
