
/- All tilings of a region, plainly: the search tells each of them. -/
import Derived.Test.YtafmpgikdhlknaaGreatFldN
import Derived.Test.YtafmpgikdhlknaaGreatBarsN
namespace Go.Proofs.YtafmpgikdhlknaaGreat
open Go.RowKit

/-- a cell that has no domino yet -/
def emK (bs : List Bool) (L : List Int) (k : Nat) : Bool := bs.getD k false && decide (L.getD k 0 = 0)
def emF (bs : List Bool) (L : List Int) : List Bool := (List.range bs.length).map (emK bs L)
def fsL (bs : List Bool) (L : List Int) : Nat := firstB (emF bs L)
/-- a domino may be laid -/
def mayL (W T : Int) (bs : List Bool) (L : List Int) (c : Nat) (d : Int) : Bool := decide (0 ≤ stepZ W T c d) && (emK bs L c && emK bs L (stepZ W T c d).toNat)
def layL (W T : Int) (L : List Int) (c : Nat) (d : Int) : List Int := (L.set c d).set (stepZ W T c d).toNat (backZ d)
def tlsF (W T : Int) (bs : List Bool) : Nat → List Int → List (List Int)
  | 0, L => if fsL bs L = bs.length then [L] else []
  | f + 1, L => if fsL bs L = bs.length then [L] else
      (if mayL W T bs L (fsL bs L) 1 = true then tlsF W T bs f (layL W T L (fsL bs L) 1) else []) ++ (if mayL W T bs L (fsL bs L) 2 = true then tlsF W T bs f (layL W T L (fsL bs L) 2) else [])
def tlsV (W T : Int) (bs : List Bool) : List (List Int) := tlsF W T bs bs.length (List.replicate bs.length 0)

theorem emF_len (bs : List Bool) (L : List Int) : (emF bs L).length = bs.length := by unfold emF; simp
theorem emF_get {bs : List Bool} {L : List Int} {k : Nat} (h : k < (emF bs L).length) : (emF bs L)[k] = emK bs L k := by simp only [emF, List.getElem_map, List.getElem_range]
theorem fsL_le (bs : List Bool) (L : List Int) : fsL bs L ≤ bs.length := by have := firstB_le (emF bs L); rw [emF_len] at this; exact this
theorem fsL_t {bs : List Bool} {L : List Int} (h : fsL bs L < bs.length) : emK bs L (fsL bs L) = true := by
  have h' : firstB (emF bs L) < (emF bs L).length := by rw [emF_len]; exact h
  have := firstB_t h'
  rw [emF_get] at this
  exact this
theorem fsL_f {bs : List Bool} {L : List Int} {k : Nat} (h : k < fsL bs L) : emK bs L k = false := by
  have hk : k < (emF bs L).length := by rw [emF_len]; have := fsL_le bs L; omega
  have := firstB_f (F := emF bs L) h hk
  rw [emF_get] at this
  exact this
theorem fsL_eq {bs : List Bool} {L : List Int} {c : Nat} (hc : c ≤ bs.length) (h1 : ∀ k, k < c → emK bs L k = false) (h2 : c < bs.length → emK bs L c = true) : fsL bs L = c := by
  refine firstB_eq (by rw [emF_len]; exact hc) (fun k hk hkc => by rw [emF_get]; exact h1 k hkc) (fun h => by rw [emF_get]; exact h2 (by rw [emF_len] at h; exact h))
theorem emK_iff {bs : List Bool} {L : List Int} {k : Nat} : emK bs L k = true ↔ bs.getD k false = true ∧ L.getD k 0 = 0 := by unfold emK; rw [Bool.and_eq_true, decide_eq_true_eq]
theorem emK_lt {bs : List Bool} {L : List Int} {k : Nat} (h : emK bs L k = true) : k < bs.length := by
  have h1 := (emK_iff.1 h).1
  refine Classical.byContradiction fun hk => ?_
  rw [List.getD_eq_getElem?_getD, List.getElem?_eq_none (by omega)] at h1
  cases h1
/-- full, if no cell is free -/
theorem full_of {bs : List Bool} {L : List Int} (h : fsL bs L = bs.length) : fullB bs L = true := fullB_t fun k hk => by
  have := fsL_f (bs := bs) (L := L) (k := k) (by omega)
  unfold emK at this
  exact this
theorem getD_setI {l : List Int} {k j : Nat} {v : Int} (hk : k < l.length) : (l.set k v).getD j 0 = if j = k then v else l.getD j 0 := by
  rw [List.getD_eq_getElem?_getD, List.getD_eq_getElem?_getD, List.getElem?_set]
  by_cases h : k = j
  · subst h; simp [hk]
  · rw [if_neg h, if_neg (fun e => h e.symm)]
theorem layL_len (W T : Int) (L : List Int) (c : Nat) (d : Int) : (layL W T L c d).length = L.length := by unfold layL; simp
theorem layL_get {W T : Int} {L : List Int} {c s : Nat} {d : Int} (hc : c < L.length) (hs : s < L.length) (e : stepZ W T c d = s) (j : Nat) : (layL W T L c d).getD j 0 = if j = s then backZ d else if j = c then d else L.getD j 0 := by
  unfold layL
  rw [e, Int.toNat_natCast, getD_setI (by rw [List.length_set]; exact hs), getD_setI hc]
theorem may_ex {W T : Int} {bs : List Bool} {L : List Int} {c : Nat} {d : Int} (h : mayL W T bs L c d = true) : ∃ s : Nat, stepZ W T c d = s ∧ emK bs L c = true ∧ emK bs L s = true := by
  unfold mayL at h
  rw [Bool.and_eq_true, Bool.and_eq_true, decide_eq_true_eq] at h
  obtain ⟨s, hs⟩ := Int.eq_ofNat_of_zero_le h.1
  exact ⟨s, hs, h.2.1, by have := h.2.2; rw [hs, Int.toNat_natCast] at this; exact this⟩
theorem step_back {W T : Int} {n : Nat} (hf : FldG W T n) {c s : Nat} (hc : c < n) {d : Int} (hd : 1 ≤ d ∧ d ≤ 4) (e : stepZ W T c d = s) : s < n ∧ s ≠ c ∧ stepZ W T s (backZ d) = c := by
  obtain ⟨dx, dy, h4⟩ := isDir_of hd
  rcases hf.step hc h4 with ⟨s', e', hs, e1, e2, -⟩ | ⟨e', -⟩
  · have : s' = s := by omega
    subst this
    refine ⟨hs, fun h => ?_, ?_⟩
    · subst h; unfold IsDir at h4; omega
    · have a1 := hf.xy hc
      rcases hf.step hs (back_dir h4) with ⟨c', e3, hc', e4, e5, -⟩ | ⟨-, hn⟩
      · have : c' = c := hf.inj hc' hc (by omega) (by omega)
        subst this; exact e3
      · exact absurd (show 0 ≤ (s' : Int) % W + -dx ∧ (s' : Int) % W + -dx ≤ W - 1 ∧ 0 ≤ (s' : Int) / W + -dy ∧ (s' : Int) / W + -dy ≤ T - 1 by omega) hn
  · omega
theorem back_back {d : Int} (h : 1 ≤ d ∧ d ≤ 4) : backZ (backZ d) = d ∧ 1 ≤ backZ d ∧ backZ d ≤ 4 := by unfold backZ; omega
/-- a further domino keeps dominoes right -/
theorem lay_lays {W T : Int} {bs : List Bool} (hf : FldG W T bs.length) {L : List Int} (h : laysB W T bs L = true) (hl : L.length = bs.length) {c : Nat} {d : Int} (hd : 1 ≤ d ∧ d ≤ 4) (hm : mayL W T bs L c d = true) : laysB W T bs (layL W T L c d) = true := by
  obtain ⟨s, e, h1, h2⟩ := may_ex hm
  have hc := emK_lt h1
  obtain ⟨hs, hsc, eb⟩ := step_back hf hc hd e
  obtain ⟨b1, c1⟩ := emK_iff.1 h1
  obtain ⟨b2, c2⟩ := emK_iff.1 h2
  have hg := fun j => layL_get (W := W) (T := T) (L := L) (d := d) (by omega) (by omega : s < L.length) e j
  obtain ⟨bb, bd1, bd2⟩ := back_back hd
  refine laysB_t (by rw [layL_len, hl]) fun k hk => ?_
  rw [layL_len, hl] at hk
  by_cases hk1 : k = s
  · subst hk1
    have g := hg k
    rw [if_pos rfl] at g
    rw [laidAt_in (t := c) (by rw [g]; omega) (by rw [g]; exact eb), b2, b1, hg c, if_neg (fun e => hsc e.symm), if_pos rfl, g, bb]; simp
  · by_cases hk2 : k = c
    · subst hk2
      have g := hg k
      rw [if_neg hk1, if_pos rfl] at g
      rw [laidAt_in (t := s) (by rw [g]; omega) (by rw [g]; exact e), b2, b1, hg s, if_pos rfl, g]; simp
    · have g := hg k
      rw [if_neg hk1, if_neg hk2] at g
      have ho := (laid_at h hk).2
      by_cases h0 : L.getD k 0 = 0
      · exact laidAt_0 (by rw [g]; exact h0)
      · obtain ⟨hb, dx, dy, t, h4, et, ht, -, -, hbt, hLt⟩ := laid_dir hf hk h0 ho
        have hd' : 1 ≤ L.getD k 0 ∧ L.getD k 0 ≤ 4 := by unfold IsDir at h4; omega
        have hb' := back_back hd'
        have n1 : t ≠ s := fun e => by subst e; omega
        have n2 : t ≠ c := fun e => by subst e; omega
        rw [laidAt_in (t := t) (by rw [g]; exact h0) (by rw [g]; exact et), hb, hbt, hg t, if_neg n1, if_neg n2, hLt, g]; simp
/-- what a tiling that has the dominoes of a list has -/
def ExtL (L M : List Int) : Prop := ∀ k, L.getD k 0 ≠ 0 → M.getD k 0 = L.getD k 0
theorem fsL_ext {bs : List Bool} {L M : List Int} (hf : fsL bs L = bs.length) (h : ExtL L M) (hl : L.length = bs.length) (hm : M.length = bs.length) (h0 : ∀ k, k < bs.length → bs.getD k false = false → M.getD k 0 = L.getD k 0) : M = L := by
  refine List.ext_getElem (by omega) fun k h1 h2 => ?_
  rw [← getD_in M 0 h1, ← getD_in L 0 h2]
  have hk : k < bs.length := by omega
  cases hb : bs.getD k false with
  | false => exact h0 k hk hb
  | true =>
    by_cases h3 : L.getD k 0 = 0
    · have := fsL_f (bs := bs) (L := L) (k := k) (by omega)
      rw [emK_iff.2 ⟨hb, h3⟩] at this; cases this
    · exact h k h3
theorem off_0 {W T : Int} {bs : List Bool} (hf : FldG W T bs.length) {L : List Int} (h : laysB W T bs L = true) {k : Nat} (hk : k < bs.length) (hb : bs.getD k false = false) : L.getD k 0 = 0 := by
  refine Classical.byContradiction fun h0 => ?_
  have := (laid_dir hf hk h0 (laid_at h hk).2).1
  rw [hb] at this; cases this
/-- how many cells are free -/
theorem emF_lay {W T : Int} {bs : List Bool} {L : List Int} {c s : Nat} {d : Int} (hc : c < L.length) (hs : s < L.length) (e : stepZ W T c d = s) (hd : d ≠ 0) (hb : backZ d ≠ 0) : emF bs (layL W T L c d) = ((emF bs L).set c false).set s false := by
  refine List.ext_getElem (by simp [emF_len]) fun k h1 h2 => ?_
  rw [emF_get]
  have hg := layL_get (W := W) (T := T) (L := L) (d := d) hc hs e k
  have hk : k < (emF bs L).length := by rw [emF_len]; rw [emF_len] at h1; exact h1
  rw [List.getElem_set, List.getElem_set, emF_get]
  unfold emK
  rw [hg]
  by_cases h3 : k = s
  · subst h3; simp [hb]
  · by_cases h4 : k = c
    · subst h4; simp [h3, hd]
    · rw [if_neg h3, if_neg h4, if_neg (fun e => h3 e.symm), if_neg (fun e => h4 e.symm)]
theorem em_lt {W T : Int} {bs : List Bool} (hf : FldG W T bs.length) {L : List Int} (hl : L.length = bs.length) {c : Nat} {d : Int} (hd : 1 ≤ d ∧ d ≤ 4) (hm : mayL W T bs L c d = true) : cnt (emF bs (layL W T L c d)) + 1 ≤ cnt (emF bs L) := by
  obtain ⟨s, e, h1, h2⟩ := may_ex hm
  have hc := emK_lt h1
  obtain ⟨hs, hsc, eb⟩ := step_back hf hc hd e
  rw [emF_lay (by omega) (by omega) e (by omega) (by have := back_back hd; omega)]
  have := cnt_set_lt (emF bs L) c (by rw [emF_len]; exact hc) (by rw [emF_get]; exact h1)
  have := cnt_set_le ((emF bs L).set c false) s
  omega
theorem tls_mem {W T : Int} {bs : List Bool} (hf : FldG W T bs.length) : ∀ (f : Nat) (L : List Int), cnt (emF bs L) ≤ f → laysB W T bs L = true → L.length = bs.length → ∀ M, M ∈ tlsF W T bs f L ↔ (laysB W T bs M = true ∧ fullB bs M = true ∧ M.length = bs.length ∧ ExtL L M) := by
  have leaf : ∀ (L : List Int), fsL bs L = bs.length → laysB W T bs L = true → L.length = bs.length → ∀ M, M ∈ [L] ↔ (laysB W T bs M = true ∧ fullB bs M = true ∧ M.length = bs.length ∧ ExtL L M) := fun L he hL hl M => by
    rw [List.mem_singleton]
    constructor
    · rintro rfl; exact ⟨hL, full_of he, hl, fun _ _ => rfl⟩
    · rintro ⟨h1, -, h3, h4⟩
      exact fsL_ext he h4 hl h3 fun k hk hb => by rw [off_0 hf h1 hk hb, off_0 hf hL hk hb]
  intro f
  induction f with
  | zero =>
    intro L hc hL hl M
    have he : fsL bs L = bs.length := by
      refine Classical.byContradiction fun hn => ?_
      have h1 : fsL bs L < bs.length := by have := fsL_le bs L; omega
      have := cnt_set_lt (emF bs L) (fsL bs L) (by rw [emF_len]; exact h1) (by rw [emF_get]; exact fsL_t h1)
      have := (cnt_le ((emF bs L).set (fsL bs L) false)).1
      omega
    unfold tlsF
    rw [if_pos he]
    exact leaf L he hL hl M
  | succ f ih =>
    intro L hc hL hl M
    unfold tlsF
    by_cases he : fsL bs L = bs.length
    · rw [if_pos he]; exact leaf L he hL hl M
    · rw [if_neg he]
      have hlt : fsL bs L < bs.length := by have := fsL_le bs L; omega
      have hfr := fsL_t hlt
      have hpre := fun k (h : k < fsL bs L) => fsL_f h
      obtain ⟨c, hcc⟩ : ∃ c, fsL bs L = c := ⟨_, rfl⟩
      rw [hcc] at hlt hfr hpre ⊢
      obtain ⟨hb, h0⟩ := emK_iff.1 hfr
      have arm : ∀ d : Int, 1 ≤ d ∧ d ≤ 4 → (M ∈ (if mayL W T bs L c d = true then tlsF W T bs f (layL W T L c d) else []) ↔ mayL W T bs L c d = true ∧ laysB W T bs M = true ∧ fullB bs M = true ∧ M.length = bs.length ∧ ExtL (layL W T L c d) M) := fun d hd => by
        by_cases hm : mayL W T bs L c d = true
        · rw [if_pos hm, ih _ (by have := em_lt hf hl hd hm; omega) (lay_lays hf hL hl hd hm) (by rw [layL_len, hl])]
          exact ⟨fun h => ⟨hm, h⟩, fun h => h.2⟩
        · rw [if_neg hm]
          exact ⟨fun h => by simp at h, fun h => absurd h.1 hm⟩
      rw [List.mem_append, arm 1 (by omega), arm 2 (by omega)]
      constructor
      · have key : ∀ d : Int, 1 ≤ d ∧ d ≤ 4 → mayL W T bs L c d = true → ExtL (layL W T L c d) M → ExtL L M := fun d hd hm h k hk => by
          obtain ⟨s, e, h1, h2⟩ := may_ex hm
          have hc' := emK_lt h1
          obtain ⟨hs, hsc, eb⟩ := step_back hf hc' hd e
          have hg := layL_get (W := W) (T := T) (L := L) (d := d) (by omega) (by omega : s < L.length) e k
          rw [if_neg (fun e => by subst e; exact hk (emK_iff.1 h2).2), if_neg (fun e => by subst e; exact hk (emK_iff.1 h1).2)] at hg
          rw [h k (by rw [hg]; exact hk), hg]
        rintro (⟨hm, h1, h2, h3, h4⟩ | ⟨hm, h1, h2, h3, h4⟩)
        · exact ⟨h1, h2, h3, key 1 (by omega) hm h4⟩
        · exact ⟨h1, h2, h3, key 2 (by omega) hm h4⟩
      · rintro ⟨h1, h2, h3, h4⟩
        have hMc : M.getD c 0 ≠ 0 := fun e => by rw [fullB_f c hlt (by rw [hb, e]; rfl)] at h2; cases h2
        obtain ⟨-, dx, dy, s, hd, es, hs, e1, e2, hbs, hMs⟩ := laid_dir hf hlt hMc (laid_at h1 hlt).2
        have hd4 : 1 ≤ M.getD c 0 ∧ M.getD c 0 ≤ 4 := by unfold IsDir at hd; omega
        obtain ⟨-, hsc, eb⟩ := step_back hf hlt hd4 es
        -- the other cell is free too
        have hLs : L.getD s 0 = 0 := Classical.byContradiction fun hn => by
          obtain ⟨-, dx', dy', t, hd', et, ht, -, -, -, hLt⟩ := laid_dir hf hs hn (laid_at hL hs).2
          have := h4 s hn
          rw [← this, hMs, eb] at et
          have : t = c := by omega
          subst this
          have := back_back (show 1 ≤ L.getD s 0 ∧ L.getD s 0 ≤ 4 by unfold IsDir at hd'; omega)
          omega
        have hs2 : c < s := by
          rcases Nat.lt_trichotomy c s with h | h | h
          · exact h
          · exact absurd h.symm hsc
          · have := hpre s h
            rw [emK_iff.2 ⟨hbs, hLs⟩] at this; cases this
        have hm : mayL W T bs L c (M.getD c 0) = true := by
          unfold mayL
          rw [es, Int.toNat_natCast, hfr, emK_iff.2 ⟨hbs, hLs⟩, decide_eq_true (by omega)]; rfl
        have hE : ExtL (layL W T L c (M.getD c 0)) M := fun k hk => by
          have hg := layL_get (W := W) (T := T) (L := L) (d := M.getD c 0) (by omega) (by omega : s < L.length) es k
          rw [hg] at hk ⊢
          by_cases k1 : k = s
          · rw [if_pos k1, k1]; exact hMs
          · rw [if_neg k1] at hk ⊢
            by_cases k2 : k = c
            · rw [if_pos k2, k2]
            · rw [if_neg k2] at hk ⊢
              exact h4 k hk
        have h12 : M.getD c 0 = 1 ∨ M.getD c 0 = 2 := by
          have a1 := hf.xy hlt
          have a2 := hf.xy hs
          rcases hd with ⟨e, -, -⟩ | ⟨e, -, -⟩ | ⟨e, rfl, rfl⟩ | ⟨e, rfl, rfl⟩
          · exact .inl e
          · exact .inr e
          · exfalso
            rw [Int.add_zero] at e2
            rw [e2] at a2
            omega
          · exfalso
            rw [Int.add_zero] at e1
            have : (s : Int) / W * W = (c : Int) / W * W - W := by rw [e2, Int.add_mul, Int.neg_mul, Int.one_mul]; omega
            have := hf.w1
            omega
        rcases h12 with e | e
        · rw [e] at hm hE; exact .inl ⟨hm, h1, h2, h3, hE⟩
        · rw [e] at hm hE; exact .inr ⟨hm, h1, h2, h3, hE⟩
theorem lays_bare {W T : Int} {bs : List Bool} : laysB W T bs (List.replicate bs.length 0) = true :=
  laysB_t (by simp) fun k hk => laidAt_0 (by rw [getD_in _ _ hk]; simp)
/-- the search tells the tilings -/
theorem tlsV_mem {W T : Int} {bs : List Bool} (hv : validB W T bs = true) {M : List Int} : M ∈ tlsV W T bs ↔ tilingB W T bs M = true := by
  have hf := valid_fld hv
  unfold tlsV
  rw [tls_mem hf _ _ (by have := (cnt_le (emF bs (List.replicate bs.length 0))).2; rw [emF_len] at this; exact this) lays_bare (by simp)]
  unfold tilingB laidOkB
  rw [hv, Bool.true_and, Bool.and_eq_true]
  constructor
  · rintro ⟨h1, h2, -, -⟩; exact ⟨h1, h2⟩
  · rintro ⟨h1, h2⟩
    refine ⟨h1, h2, ?_, fun k hk => ?_⟩
    · unfold laysB at h1
      rw [Bool.and_eq_true, decide_eq_true_eq] at h1
      exact h1.1
    · exfalso
      apply hk
      rcases Nat.lt_or_ge k bs.length with h | h
      · rw [getD_in _ _ (by simpa using h)]; simp
      · rw [List.getD_eq_getElem?_getD, List.getElem?_eq_none (by simpa using h)]; rfl
end Go.Proofs.YtafmpgikdhlknaaGreat
