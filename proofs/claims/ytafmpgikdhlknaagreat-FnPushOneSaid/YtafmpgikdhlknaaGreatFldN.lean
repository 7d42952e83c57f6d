
/- Fields by columns and rows, plainly; regions as sets of places; tilings by their directions. -/
import Derived.Test.YtafmpgikdhlknaaGreatLayN
import Derived.Test.YtafmpgikdhlknaaGreatAtI
import Derived.Test.YtafmpgikdhlknaaGreatHgtM
namespace Go.Proofs.YtafmpgikdhlknaaGreat
open Go.RowKit

/-- a field, or what is like one: columns, rows, places -/
structure FldG (W T : Int) (n : Nat) : Prop where
  w1 : 1 ≤ W
  t1 : 1 ≤ T
  len : (n : Int) = W * T
theorem FldG.at_ {W T : Int} {n : Nat} (h : FldG W T n) {x y : Int} (hx : 0 ≤ x) (hx' : x ≤ W - 1) (hy : 0 ≤ y) (hy' : y ≤ T - 1) :
    ∃ k : Nat, y * W + x = k ∧ k < n ∧ (k : Int) % W = x ∧ (k : Int) / W = y := by
  have h0 : 0 ≤ y * W := Int.mul_nonneg hy (by have := h.w1; omega)
  obtain ⟨k, hk⟩ := Int.eq_ofNat_of_zero_le (show 0 ≤ y * W + x by omega)
  have hW := h.w1
  refine ⟨k, hk, ?_, ?_, ?_⟩
  · have h1 : (y + 1) * W ≤ T * W := Int.mul_le_mul_of_nonneg_right (by omega) (by omega)
    rw [Int.add_mul, Int.one_mul] at h1
    have h2 := h.len
    rw [Int.mul_comm] at h2
    omega
  · rw [← hk, Int.add_comm, Int.add_mul_emod_self_right, Int.emod_eq_of_lt hx (by omega)]
  · rw [← hk, Int.add_comm, Int.add_mul_ediv_right _ _ (by omega), Int.ediv_eq_zero_of_lt hx (by omega)]; omega
theorem FldG.xy {W T : Int} {n : Nat} (h : FldG W T n) {k : Nat} (hk : k < n) : 0 ≤ (k : Int) % W ∧ (k : Int) % W ≤ W - 1 ∧ 0 ≤ (k : Int) / W ∧ (k : Int) / W ≤ T - 1 ∧ (k : Int) / W * W + (k : Int) % W = k := by
  have hW := h.w1
  have h1 := Int.emod_nonneg (k : Int) (show W ≠ 0 by omega)
  have h2 := Int.emod_lt_of_pos (k : Int) (show 0 < W by omega)
  have h3 := Int.ediv_nonneg (show 0 ≤ (k : Int) by omega) (show 0 ≤ W by omega)
  have h4 : (k : Int) / W * W + (k : Int) % W = k := by rw [Int.mul_comm]; exact Int.mul_ediv_add_emod _ _
  have h5 : (k : Int) / W < T := by
    refine Int.ediv_lt_of_lt_mul (by omega) ?_
    have := h.len
    rw [Int.mul_comm T W]
    omega
  omega
theorem FldG.inj {W T : Int} {n : Nat} (h : FldG W T n) {j k : Nat} (hj : j < n) (hk : k < n) (e1 : (j : Int) % W = (k : Int) % W) (e2 : (j : Int) / W = (k : Int) / W) : j = k := by
  have a := (h.xy hj).2.2.2.2
  have b := (h.xy hk).2.2.2.2
  rw [e1, e2] at a
  omega
theorem FldG.idx {W T : Int} {n : Nat} (h : FldG W T n) {k : Nat} (hk : k < n) : ((k : Int) / W * W + (k : Int) % W).toNat = k := by rw [(h.xy hk).2.2.2.2, Int.toNat_natCast]
theorem FldG.le {W T : Int} {n : Nat} (h : FldG W T n) {j k : Nat} (hj : j < n) (hk : k < n) (hjk : j ≤ k) : (j : Int) / W < (k : Int) / W ∨ ((j : Int) / W = (k : Int) / W ∧ (j : Int) % W ≤ (k : Int) % W) := by
  obtain ⟨a1, a2, a3, a4, a5⟩ := h.xy hj
  obtain ⟨b1, b2, b3, b4, b5⟩ := h.xy hk
  rcases Int.lt_trichotomy ((j : Int) / W) ((k : Int) / W) with h1 | h1 | h1
  · exact .inl h1
  · rw [h1] at a5
    exact .inr ⟨h1, by omega⟩
  · exfalso
    have h2 : ((k : Int) / W + 1) * W ≤ (j : Int) / W * W := Int.mul_le_mul_of_nonneg_right (by omega) (by have := h.w1; omega)
    rw [Int.add_mul, Int.one_mul] at h2
    omega
def IsDir (d dx dy : Int) : Prop := (d = 1 ∧ dx = 1 ∧ dy = 0) ∨ (d = 2 ∧ dx = 0 ∧ dy = 1) ∨ (d = 3 ∧ dx = -1 ∧ dy = 0) ∨ (d = 4 ∧ dx = 0 ∧ dy = -1)
theorem isDir_of {d : Int} (h : 1 ≤ d ∧ d ≤ 4) : ∃ dx dy, IsDir d dx dy := by
  rcases (show d = 1 ∨ d = 2 ∨ d = 3 ∨ d = 4 by omega) with rfl | rfl | rfl | rfl
  · exact ⟨1, 0, .inl ⟨rfl, rfl, rfl⟩⟩
  · exact ⟨0, 1, .inr (.inl ⟨rfl, rfl, rfl⟩)⟩
  · exact ⟨-1, 0, .inr (.inr (.inl ⟨rfl, rfl, rfl⟩))⟩
  · exact ⟨0, -1, .inr (.inr (.inr ⟨rfl, rfl, rfl⟩))⟩
theorem FldG.step {W T : Int} {n : Nat} (h : FldG W T n) {k : Nat} (hk : k < n) {d dx dy : Int} (hd : IsDir d dx dy) :
    (∃ s : Nat, stepZ W T k d = s ∧ s < n ∧ (s : Int) % W = (k : Int) % W + dx ∧ (s : Int) / W = (k : Int) / W + dy ∧ (0 ≤ (k : Int) % W + dx ∧ (k : Int) % W + dx ≤ W - 1 ∧ 0 ≤ (k : Int) / W + dy ∧ (k : Int) / W + dy ≤ T - 1)) ∨
    (stepZ W T k d = -1 ∧ ¬ (0 ≤ (k : Int) % W + dx ∧ (k : Int) % W + dx ≤ W - 1 ∧ 0 ≤ (k : Int) / W + dy ∧ (k : Int) / W + dy ≤ T - 1)) := by
  obtain ⟨a1, a2, a3, a4, a5⟩ := h.xy hk
  have hw := h.w1
  have e3 : ((k : Int) / W + 1) * W = (k : Int) / W * W + W := by rw [Int.add_mul, Int.one_mul]
  have e4 : ((k : Int) / W + -1) * W = (k : Int) / W * W - W := by rw [Int.add_mul, Int.neg_mul, Int.one_mul]; omega
  by_cases hin : 0 ≤ (k : Int) % W + dx ∧ (k : Int) % W + dx ≤ W - 1 ∧ 0 ≤ (k : Int) / W + dy ∧ (k : Int) / W + dy ≤ T - 1
  · obtain ⟨s, e, hs, e1, e2⟩ := h.at_ hin.1 hin.2.1 hin.2.2.1 hin.2.2.2
    refine .inl ⟨s, ?_, hs, e1, e2, hin⟩
    rcases hd with ⟨rfl, rfl, rfl⟩ | ⟨rfl, rfl, rfl⟩ | ⟨rfl, rfl, rfl⟩ | ⟨rfl, rfl, rfl⟩
    · rw [step1, if_pos (by omega)]; rw [Int.add_zero] at e; omega
    · rw [step2, if_pos (by omega)]; omega
    · rw [step3, if_pos (by omega)]; rw [Int.add_zero] at e; omega
    · rw [step4, if_pos (by omega)]; omega
  · refine .inr ⟨?_, hin⟩
    rcases hd with ⟨rfl, rfl, rfl⟩ | ⟨rfl, rfl, rfl⟩ | ⟨rfl, rfl, rfl⟩ | ⟨rfl, rfl, rfl⟩
    · rw [step1, if_neg (by omega)]
    · rw [step2, if_neg (by omega)]
    · rw [step3, if_neg (by omega)]
    · rw [step4, if_neg (by omega)]

/-! ### Regions and dominoes by columns and rows -/
def inF (W T x y : Int) : Prop := 0 ≤ x ∧ x ≤ W - 1 ∧ 0 ≤ y ∧ y ≤ T - 1
instance (W T x y : Int) : Decidable (inF W T x y) := by unfold inF; infer_instance
def dirL (W T : Int) (L : List Int) (x y : Int) : Int := if inF W T x y then L.getD (y * W + x).toNat 0 else 0
theorem at_in {W T : Int} {bs : List Bool} {x y : Int} (h : atQ W T bs x y = true) : inF W T x y := by
  unfold atQ at h
  rw [Bool.and_eq_true, decide_eq_true_eq] at h
  exact h.1
theorem at_k {W T : Int} {bs : List Bool} (h : FldG W T bs.length) {k : Nat} (hk : k < bs.length) : atQ W T bs ((k : Int) % W) ((k : Int) / W) = bs.getD k false := by
  obtain ⟨a1, a2, a3, a4, a5⟩ := h.xy hk
  unfold atQ
  rw [decide_eq_true ⟨a1, a2, a3, a4⟩, a5, Int.toNat_natCast, Bool.true_and]
theorem at_ex {W T : Int} {bs : List Bool} (hf : FldG W T bs.length) {x y : Int} (h : atQ W T bs x y = true) : ∃ k : Nat, k < bs.length ∧ (k : Int) % W = x ∧ (k : Int) / W = y ∧ bs.getD k false = true := by
  obtain ⟨a1, a2, a3, a4⟩ := at_in h
  obtain ⟨k, -, hk, e1, e2⟩ := hf.at_ a1 a2 a3 a4
  refine ⟨k, hk, e1, e2, ?_⟩
  rw [← at_k hf hk, e1, e2]; exact h
theorem dir_k {W T : Int} {L : List Int} {n : Nat} (h : FldG W T n) {k : Nat} (hk : k < n) : dirL W T L ((k : Int) % W) ((k : Int) / W) = L.getD k 0 := by
  obtain ⟨a1, a2, a3, a4, a5⟩ := h.xy hk
  unfold dirL
  rw [if_pos ⟨a1, a2, a3, a4⟩, a5, Int.toNat_natCast]
theorem dir_out {W T : Int} {L : List Int} {x y : Int} (h : ¬ inF W T x y) : dirL W T L x y = 0 := by unfold dirL; rw [if_neg h]
theorem dir_ext {W T : Int} {L L' : List Int} {n : Nat} (h : FldG W T n) (hl : L.length = n) (hl' : L'.length = n) (he : ∀ x y, inF W T x y → dirL W T L x y = dirL W T L' x y) : L = L' := by
  refine List.ext_getElem (by omega) fun k h1 h2 => ?_
  have hk : k < n := by omega
  obtain ⟨a1, a2, a3, a4, a5⟩ := h.xy hk
  have := he ((k : Int) % W) ((k : Int) / W) ⟨a1, a2, a3, a4⟩
  rw [dir_k h hk, dir_k h hk, getD_in _ _ h1, getD_in _ _ h2] at this
  exact this
theorem back_dir {d dx dy : Int} (h : IsDir d dx dy) : IsDir (backZ d) (-dx) (-dy) := by
  unfold IsDir backZ at *
  omega
theorem til_one {R : Int → Int → Bool} {D : Int → Int → Int} {x y d dx dy : Int} (hd : IsDir d dx dy) (e : D x y = d) (r : R (x + dx) (y + dy) = true) (b : D (x + dx) (y + dy) = backZ d) :
    (D x y = 1 ∧ R (x + 1) y = true ∧ D (x + 1) y = 3) ∨ (D x y = 2 ∧ R x (y + 1) = true ∧ D x (y + 1) = 4) ∨
    (D x y = 3 ∧ R (x - 1) y = true ∧ D (x - 1) y = 1) ∨ (D x y = 4 ∧ R x (y - 1) = true ∧ D x (y - 1) = 2) := by
  rcases hd with ⟨rfl, rfl, rfl⟩ | ⟨rfl, rfl, rfl⟩ | ⟨rfl, rfl, rfl⟩ | ⟨rfl, rfl, rfl⟩
  · rw [Int.add_zero] at r b; exact .inl ⟨e, r, b⟩
  · rw [Int.add_zero] at r b; exact .inr (.inl ⟨e, r, b⟩)
  · rw [Int.add_zero] at r b; exact .inr (.inr (.inl ⟨e, r, b⟩))
  · rw [Int.add_zero] at r b; exact .inr (.inr (.inr ⟨e, r, b⟩))
theorem one_til {R : Int → Int → Bool} {D : Int → Int → Int} {x y : Int} (h : (D x y = 1 ∧ R (x + 1) y = true ∧ D (x + 1) y = 3) ∨ (D x y = 2 ∧ R x (y + 1) = true ∧ D x (y + 1) = 4) ∨
    (D x y = 3 ∧ R (x - 1) y = true ∧ D (x - 1) y = 1) ∨ (D x y = 4 ∧ R x (y - 1) = true ∧ D x (y - 1) = 2)) :
    ∃ dx dy, IsDir (D x y) dx dy ∧ R (x + dx) (y + dy) = true ∧ D (x + dx) (y + dy) = backZ (D x y) := by
  rcases h with ⟨e, r, b⟩ | ⟨e, r, b⟩ | ⟨e, r, b⟩ | ⟨e, r, b⟩
  · exact ⟨1, 0, .inl ⟨e, rfl, rfl⟩, by rw [Int.add_zero]; exact r, by rw [Int.add_zero, e]; exact b⟩
  · exact ⟨0, 1, .inr (.inl ⟨e, rfl, rfl⟩), by rw [Int.add_zero]; exact r, by rw [Int.add_zero, e]; exact b⟩
  · exact ⟨-1, 0, .inr (.inr (.inl ⟨e, rfl, rfl⟩)), by rw [Int.add_zero]; exact r, by rw [Int.add_zero, e]; exact b⟩
  · exact ⟨0, -1, .inr (.inr (.inr ⟨e, rfl, rfl⟩)), by rw [Int.add_zero]; exact r, by rw [Int.add_zero, e]; exact b⟩
theorem laid_at {W T : Int} {bs : List Bool} {L : List Int} (h : laysB W T bs L = true) {k : Nat} (hk : k < bs.length) : L.length = bs.length ∧ laidAt W T bs L k = true := by
  unfold laysB at h
  rw [Bool.and_eq_true, decide_eq_true_eq, List.all_eq_true] at h
  exact ⟨h.1, h.2 k (List.mem_range.2 (by omega))⟩
/-- a cell with a domino that is right -/
theorem laid_dir {W T : Int} {bs : List Bool} {L : List Int} (hf : FldG W T bs.length) {k : Nat} (hk : k < bs.length) (h0 : L.getD k 0 ≠ 0) (h : laidAt W T bs L k = true) :
    bs.getD k false = true ∧ ∃ (dx dy : Int) (s : Nat), IsDir (L.getD k 0) dx dy ∧ stepZ W T k (L.getD k 0) = s ∧ s < bs.length ∧ (s : Int) % W = (k : Int) % W + dx ∧ (s : Int) / W = (k : Int) / W + dy ∧ bs.getD s false = true ∧ L.getD s 0 = backZ (L.getD k 0) := by
  have hs0 : 0 ≤ stepZ W T k (L.getD k 0) := by
    refine Classical.byContradiction fun hn => ?_
    rw [laidAt_out h0 (by omega)] at h; cases h
  obtain ⟨dx, dy, hd⟩ := isDir_of (step_dir hs0)
  rcases hf.step hk hd with ⟨s, e, hs, e1, e2, -⟩ | ⟨e, -⟩
  · rw [laidAt_in h0 e, Bool.and_eq_true, Bool.and_eq_true, decide_eq_true_eq] at h
    exact ⟨h.1, dx, dy, s, hd, e, hs, e1, e2, h.2.1, h.2.2⟩
  · omega
/-- dominoes that fill a region are a tiling -/
theorem til_of {W T : Int} {bs : List Bool} {L : List Int} (hf : FldG W T bs.length) (h1 : laysB W T bs L = true) (h2 : fullB bs L = true) : IsTil (atQ W T bs) (dirL W T L) := by
  refine ⟨fun x y hr => ?_, fun x y hr => ?_⟩
  · obtain ⟨k, hk, rfl, rfl, hb⟩ := at_ex hf hr
    obtain ⟨hl, h3⟩ := laid_at h1 hk
    have h0 : L.getD k 0 ≠ 0 := fun e => by
      rw [fullB_f k hk (by rw [hb, e]; rfl)] at h2; cases h2
    obtain ⟨-, dx, dy, s, hd, e, hs, e1, e2, hbs, hL⟩ := laid_dir hf hk h0 h3
    refine til_one hd (dir_k hf hk) ?_ ?_
    · rw [← e1, ← e2, at_k hf hs]; exact hbs
    · rw [← e1, ← e2, dir_k hf hs]; exact hL
  · by_cases hin : inF W T x y
    · obtain ⟨k, -, hk, rfl, rfl⟩ := hf.at_ hin.1 hin.2.1 hin.2.2.1 hin.2.2.2
      rw [at_k hf hk] at hr
      rw [dir_k hf hk]
      refine Classical.byContradiction fun h0 => ?_
      have := (laid_dir hf hk h0 (laid_at h1 hk).2).1
      rw [hr] at this; cases this
    · exact dir_out hin
/-- a tiling lays dominoes that fill a region -/
theorem of_til {W T : Int} {bs : List Bool} {L : List Int} (hf : FldG W T bs.length) (hl : L.length = bs.length) (h : IsTil (atQ W T bs) (dirL W T L)) : laysB W T bs L = true ∧ fullB bs L = true := by
  refine ⟨laysB_t hl fun k hk => ?_, fullB_t fun k hk => ?_⟩
  · have hk' : k < bs.length := by omega
    cases hb : bs.getD k false with
    | false =>
      have := h.2 _ _ ((at_k hf hk').trans hb)
      rw [dir_k hf hk'] at this
      exact laidAt_0 this
    | true =>
      obtain ⟨dx, dy, hd, hr, hD⟩ := one_til (h.1 _ _ ((at_k hf hk').trans hb))
      rw [dir_k hf hk'] at hd hD
      have hin := at_in hr
      have h0 : L.getD k 0 ≠ 0 := by unfold IsDir at hd; omega
      rcases hf.step hk' hd with ⟨s, e, hs, e1, e2, -⟩ | ⟨-, e⟩
      · rw [← e1, ← e2, at_k hf hs] at hr
        rw [← e1, ← e2, dir_k hf hs] at hD
        rw [laidAt_in h0 e, hb, hr, hD]; simp
      · exact absurd hin e
  · cases hb : bs.getD k false with
    | false => rfl
    | true =>
      obtain ⟨dx, dy, hd, -⟩ := one_til (h.1 _ _ ((at_k hf hk).trans hb))
      rw [dir_k hf hk] at hd
      have h0 : L.getD k 0 ≠ 0 := by unfold IsDir at hd; omega
      rw [decide_eq_false h0]; rfl
theorem valid_fld {W T : Int} {bs : List Bool} (h : validB W T bs = true) : FldG W T bs.length := by
  obtain ⟨⟨a, -⟩, ⟨b, -⟩, c, -⟩ := validB_iff.1 h
  exact ⟨a, b, c⟩
theorem tiling_til {W T : Int} {bs : List Bool} {L : List Int} (h : tilingB W T bs L = true) : validB W T bs = true ∧ L.length = bs.length ∧ IsTil (atQ W T bs) (dirL W T L) := by
  unfold tilingB laidOkB at h
  rw [Bool.and_eq_true, Bool.and_eq_true] at h
  obtain ⟨⟨h1, h2⟩, h3⟩ := h
  refine ⟨h1, ?_, til_of (valid_fld h1) h2 h3⟩
  unfold laysB at h2
  rw [Bool.and_eq_true, decide_eq_true_eq] at h2
  exact h2.1
theorem til_tiling {W T : Int} {bs : List Bool} {L : List Int} (hv : validB W T bs = true) (hl : L.length = bs.length) (h : IsTil (atQ W T bs) (dirL W T L)) : tilingB W T bs L = true := by
  obtain ⟨h1, h2⟩ := of_til (valid_fld hv) hl h
  unfold tilingB laidOkB
  rw [hv, h1, h2]; rfl
end Go.Proofs.YtafmpgikdhlknaaGreat
