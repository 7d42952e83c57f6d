
/- Sides of cells, plainly; heights that spread from the first corner over them. -/
import Derived.Test.YtafmpgikdhlknaaGreatHtlN
namespace Go.Proofs.YtafmpgikdhlknaaGreat
open Go.RowKit

/-! ### Sides: a corner, and whether it goes to the north or to the east -/
def cX (W : Int) (v : Nat) : Int := (v : Int) % (W + 1)
def cY (W : Int) (v : Nat) : Int := (v : Int) / (W + 1)
/-- where it leads -/
def sdT (W : Int) (v : Nat) (b : Bool) : Int := if b = true then (v : Int) + (W + 1) else (v : Int) + 1
/-- the cell on its left and the one on its right -/
def slx (W : Int) (v : Nat) (b : Bool) : Int := if b = true then cX W v - 1 else cX W v
def srx (W : Int) (v : Nat) : Int := cX W v
def sry (W : Int) (v : Nat) (b : Bool) : Int := if b = true then cY W v else cY W v - 1
def sdU (W T : Int) (bs : List Bool) (v : Nat) (b : Bool) : Bool := atQ W T bs (slx W v b) (cY W v) || atQ W T bs (srx W v) (sry W v b)
def sdI (W T : Int) (bs : List Bool) (v : Nat) (b : Bool) : Bool := atQ W T bs (slx W v b) (cY W v) && atQ W T bs (srx W v) (sry W v b)
/-- a domino lies across it -/
def sdX (W T : Int) (L : List Int) (v : Nat) (b : Bool) : Bool := decide (dirL W T L (slx W v b) (cY W v) = if b = true then 1 else 4)
/-- by how much heights grow -/
def sdZ (W T : Int) (L : List Int) (v : Nat) (b : Bool) : Int := if sdX W T L v b = true then -3 * rho (slx W v b) (cY W v) else rho (slx W v b) (cY W v)
theorem c_xy {W T : Int} {n : Nat} (hf : FldG W T n) {v : Nat} (hv : v < ncN W T) : 0 ≤ cX W v ∧ cX W v ≤ W ∧ 0 ≤ cY W v ∧ cY W v ≤ T ∧ cY W v * (W + 1) + cX W v = v := by
  obtain ⟨a, b, c, d, e⟩ := (cor_fld hf).xy hv
  unfold cX cY
  exact ⟨a, by omega, c, by omega, e⟩
theorem c_at {W T : Int} {n : Nat} (hf : FldG W T n) {x y : Int} (x0 : 0 ≤ x) (x1 : x ≤ W) (y0 : 0 ≤ y) (y1 : y ≤ T) : ∃ v : Nat, v < ncN W T ∧ cX W v = x ∧ cY W v = y ∧ y * (W + 1) + x = v := by
  obtain ⟨v, e, hv, e1, e2⟩ := (cor_fld hf).at_ (x := x) (y := y) x0 (by omega) y0 (by omega)
  exact ⟨v, hv, e1, e2, e⟩
theorem hL_c {W T : Int} {n : Nat} (hf : FldG W T n) {hs : List Int} {v : Nat} (hv : v < ncN W T) : hL W T hs (cX W v) (cY W v) = hs.getD v 0 := hL_k hf hv
/-- a side of a cell leads from a corner to a corner -/
theorem sd_to {W T : Int} {bs : List Bool} (hf : FldG W T bs.length) {v : Nat} (hv : v < ncN W T) {b : Bool} (hu : sdU W T bs v b = true) :
    ∃ u : Nat, sdT W v b = u ∧ u < ncN W T ∧ cX W u = (if b = true then cX W v else cX W v + 1) ∧ cY W u = (if b = true then cY W v + 1 else cY W v) ∧ corK W T bs v ∧ corK W T bs u := by
  obtain ⟨x0, x1, y0, y1, e⟩ := c_xy hf hv
  unfold sdU at hu
  rw [Bool.or_eq_true] at hu
  have key : ∀ (x y : Int) , atQ W T bs x y = true → (x = cX W v ∨ x = slx W v b) → (y = cY W v ∨ y = sry W v b) → 0 ≤ x ∧ x ≤ W - 1 ∧ 0 ≤ y ∧ y ≤ T - 1 := fun x y h _ _ => at_in h
  cases b with
  | false =>
    have hin : cX W v ≤ W - 1 := by
      rcases hu with h | h
      · have := at_in h; unfold inF slx at this; simp at this; omega
      · have := at_in h; unfold inF srx at this; omega
    obtain ⟨u, hu1, u2, u3, u4⟩ := c_at hf (x := cX W v + 1) (y := cY W v) (by omega) (by omega) y0 y1
    refine ⟨u, by unfold sdT; simp; omega, hu1, by simpa using u2, by simpa using u3, ?_, ?_⟩
    · unfold corK
      change Cor _ (cX W v) (cY W v)
      unfold Cor
      rcases hu with h | h
      · exact .inl (by simpa [slx] using h)
      · exact .inr (.inr (.inl (by simpa [srx, sry] using h)))
    · unfold corK
      change Cor _ (cX W u) (cY W u)
      rw [u2, u3]
      unfold Cor
      rw [show cX W v + 1 - 1 = cX W v by omega]
      rcases hu with h | h
      · exact .inr (.inl (by simpa [slx] using h))
      · exact .inr (.inr (.inr (by simpa [srx, sry] using h)))
  | true =>
    have hin : cY W v ≤ T - 1 := by
      rcases hu with h | h
      · have := at_in h; unfold inF at this; omega
      · have := at_in h; unfold inF sry at this; simp at this; omega
    have em : (cY W v + 1) * (W + 1) = cY W v * (W + 1) + (W + 1) := by rw [Int.add_mul, Int.one_mul]
    obtain ⟨u, hu1, u2, u3, u4⟩ := c_at hf (x := cX W v) (y := cY W v + 1) x0 x1 (by omega) (by omega)
    refine ⟨u, by unfold sdT; simp; omega, hu1, by simpa using u2, by simpa using u3, ?_, ?_⟩
    · unfold corK
      change Cor _ (cX W v) (cY W v)
      unfold Cor
      rcases hu with h | h
      · exact .inr (.inl (by simpa [slx] using h))
      · exact .inl (by simpa [srx, sry] using h)
    · unfold corK
      change Cor _ (cX W u) (cY W u)
      rw [u2, u3]
      unfold Cor
      rw [show cY W v + 1 - 1 = cY W v by omega]
      rcases hu with h | h
      · exact .inr (.inr (.inr (by simpa [slx] using h)))
      · exact .inr (.inr (.inl (by simpa [srx, sry] using h)))
/-- heights grow along sides as a tiling says -/
theorem sd_rise {W T : Int} {bs : List Bool} (hs : simpB W T bs = true) {L : List Int} (h : tilingB W T bs L = true) {v : Nat} (hv : v < ncN W T) {b : Bool} (hu : sdU W T bs v b = true) {u : Nat} (e : sdT W v b = u) :
    (hgtV W T bs L).getD u 0 = (hgtV W T bs L).getD v 0 + sdZ W T L v b := by
  obtain ⟨hval, hl, ht⟩ := tiling_til h
  have hf := valid_fld hval
  obtain ⟨hg, hh⟩ := hgtV_spec hs ht
  obtain ⟨u', e', hu', u2, u3, -, -⟩ := sd_to hf hv hu
  obtain rfl : u' = u := by omega
  rw [← hL_c hf hv, ← hL_c hf hu', u2, u3]
  unfold sdU at hu
  rw [Bool.or_eq_true] at hu
  unfold sdZ sdX
  cases b with
  | false =>
    simp only [Bool.false_eq_true, if_false, slx, srx, sry] at hu ⊢
    have : hL W T (hgtV W T bs L) (cX W v + 1) (cY W v) - hL W T (hgtV W T bs L) (cX W v) (cY W v) = byH (dirL W T L) (cX W v) (cY W v) := by
      rcases hu with h | h
      · exact (hh _ _ h).1
      · have := (hh _ _ h).2.1
        rw [show cY W v - 1 + 1 = cY W v by omega] at this
        exact this
    unfold byH at this
    by_cases hd : dirL W T L (cX W v) (cY W v) = 4
    · rw [if_pos hd] at this; rw [if_pos (decide_eq_true hd)]; omega
    · rw [if_neg hd] at this; rw [if_neg (by rw [decide_eq_true_eq]; exact hd)]; omega
  | true =>
    simp only [if_true, slx, srx, sry] at hu ⊢
    have : hL W T (hgtV W T bs L) (cX W v) (cY W v + 1) - hL W T (hgtV W T bs L) (cX W v) (cY W v) = byV (dirL W T L) (cX W v) (cY W v) := by
      rcases hu with h | h
      · have := (hh _ _ h).2.2.2
        rw [show cX W v - 1 + 1 = cX W v by omega] at this
        exact this
      · exact (hh _ _ h).2.2.1
    unfold byV at this
    by_cases hd : dirL W T L (cX W v - 1) (cY W v) = 1
    · rw [if_pos hd] at this; rw [if_pos (decide_eq_true hd)]; omega
    · rw [if_neg hd] at this; rw [if_neg (by rw [decide_eq_true_eq]; exact hd)]; omega

/-! ### The first corner -/
def v0K (W : Int) (bs : List Bool) : Nat := (y0K W bs * (W + 1) + x0K W bs).toNat
theorem v0_at {W T : Int} {bs : List Bool} (hs : simpB W T bs = true) : v0K W bs < ncN W T ∧ cX W (v0K W bs) = x0K W bs ∧ cY W (v0K W bs) = y0K W bs ∧ atQ W T bs (x0K W bs) (y0K W bs) = true := by
  obtain ⟨h1, h2, -⟩ := simp_iff.1 hs
  have hf := valid_fld h1
  have h0 := (hangs_of hf h2).1
  obtain ⟨a, b, c, d⟩ := at_in h0
  obtain ⟨v, hv, e1, e2, e⟩ := c_at hf (x := x0K W bs) (y := y0K W bs) (by omega) (by omega) (by omega) (by omega)
  have : v0K W bs = v := by unfold v0K; omega
  rw [this]
  exact ⟨hv, e1, e2, h0⟩
theorem v0_le {W T : Int} {bs : List Bool} (hs : simpB W T bs = true) {v : Nat} (hv : v < ncN W T) (hc : corK W T bs v) : v0K W bs ≤ v := by
  obtain ⟨h1, h2, -⟩ := simp_iff.1 hs
  have hf := valid_fld h1
  obtain ⟨hm, -⟩ := fst_all hf h2
  obtain ⟨p0, p1, p2, -⟩ := v0_at hs
  obtain ⟨-, -, -, -, e0⟩ := c_xy hf p0
  obtain ⟨x0, x1, y0, y1, e⟩ := c_xy hf hv
  have hw := hf.w1
  obtain ⟨ax, -, -, -⟩ := at_in (v0_at hs).2.2.2
  have h9 := at_in (v0_at hs).2.2.2
  unfold inF at h9
  rw [p1, p2] at e0
  have key : ∀ cx cy : Int, atQ W T bs cx cy = true → cx ≤ cX W v → cy ≤ cY W v → v0K W bs ≤ v := fun cx cy hr hx hy => by
    obtain ⟨k, hk, rfl, rfl, hb⟩ := at_ex hf hr
    have hle := hf.le (cellP_lt hm) hk (fst_le hb)
    change y0K W bs < _ ∨ (y0K W bs = _ ∧ x0K W bs ≤ _) at hle
    by_cases hy0 : y0K W bs < cY W v
    · have h3 : (y0K W bs + 1) * (W + 1) ≤ cY W v * (W + 1) := Int.mul_le_mul_of_nonneg_right (by omega) (by omega)
      rw [Int.add_mul, Int.one_mul] at h3
      omega
    · have h3 : y0K W bs = cY W v := by omega
      rw [h3] at e0
      omega
  unfold corK at hc
  change Cor _ (cX W v) (cY W v) at hc
  rcases hc with h | h | h | h
  · exact key _ _ h (Int.le_refl _) (Int.le_refl _)
  · exact key _ _ h (by omega) (Int.le_refl _)
  · exact key _ _ h (Int.le_refl _) (by omega)
  · exact key _ _ h (by omega) (by omega)
theorem v0_use {W T : Int} {bs : List Bool} (hs : simpB W T bs = true) : sdU W T bs (v0K W bs) false = true := by
  obtain ⟨-, p1, p2, p3⟩ := v0_at hs
  unfold sdU slx
  rw [p1, p2]
  simp only [Bool.false_eq_true, if_false]
  rw [p3]; rfl

/-! ### Heights that spread -/
structure RelI (W T : Int) (bs : List Bool) (L M : List Int) : Prop where
  len : M.length = ncN W T
  val : ∀ v, v < ncN W T → M.getD v 0 = 99 ∨ M.getD v 0 = (hgtV W T bs L).getD v 0
  fst : M.getD (v0K W bs) 0 ≠ 99
/-- one more step over a side -/
def relS (W T : Int) (L M : List Int) (v : Nat) (b : Bool) : List Int :=
  if M.getD v 0 ≠ 99 ∧ M.getD (sdT W v b).toNat 0 = 99 then M.set (sdT W v b).toNat (M.getD v 0 + sdZ W T L v b)
  else if M.getD v 0 = 99 ∧ M.getD (sdT W v b).toNat 0 ≠ 99 then M.set v (M.getD (sdT W v b).toNat 0 - sdZ W T L v b) else M
def evenS (W : Int) (M : List Int) (v : Nat) (b : Bool) : Prop := M.getD v 0 = 99 ↔ M.getD (sdT W v b).toNat 0 = 99
def un99 (M : List Int) : Nat := M.countP fun z => z == 99
theorem un99_set : ∀ (M : List Int) (k : Nat) (z : Int), k < M.length → M.getD k 0 = 99 → z ≠ 99 → un99 (M.set k z) + 1 = un99 M
  | [], k, z, h, _, _ => by simp at h
  | a :: M, 0, z, _, h, hz => by
    have : a = 99 := by simpa using h
    subst this
    unfold un99
    rw [List.set_cons_zero, List.countP_cons, List.countP_cons]
    simp [hz]
  | a :: M, k + 1, z, h, h2, hz => by
    have := un99_set M k z (by simpa using h) (by simpa using h2) hz
    unfold un99 at *
    rw [List.set_cons_succ, List.countP_cons, List.countP_cons]
    omega
theorem getD_setJ {l : List Int} {k j : Nat} {v : Int} (hk : k < l.length) : (l.set k v).getD j 0 = if j = k then v else l.getD j 0 := by
  rw [List.getD_eq_getElem?_getD, List.getElem?_set]
  by_cases h : k = j
  · subst h; rw [if_pos rfl, if_pos hk, if_pos rfl]; rfl
  · rw [if_neg h, if_neg (fun e => h e.symm), List.getD_eq_getElem?_getD]
/-- a known corner of cells has a height that is near -/
theorem rel_bd {W T : Int} {bs : List Bool} (hs : simpB W T bs = true) {L : List Int} (h : tilingB W T bs L = true) {M : List Int} (hM : RelI W T bs L M) {v : Nat} (hv : v < ncN W T) : -60 ≤ M.getD v 0 ∧ M.getD v 0 ≤ 99 := by
  have hg := hgtV_good hs h
  rcases hM.val v hv with e | e
  · omega
  · rw [e]
    by_cases hc : corK W T bs v
    · have := hg.bd hs hv hc; omega
    · rw [hg.none v hv hc]; omega
theorem rel_step {W T : Int} {bs : List Bool} (hs : simpB W T bs = true) {L : List Int} (h : tilingB W T bs L = true) {M : List Int} (hM : RelI W T bs L M) {v : Nat} (hv : v < ncN W T) {b : Bool} (hu : sdU W T bs v b = true) :
    RelI W T bs L (relS W T L M v b) ∧ ((relS W T L M v b = M ∧ evenS W M v b) ∨ (un99 (relS W T L M v b) + 1 = un99 M ∧ ¬ evenS W M v b)) := by
  have hf := valid_fld (simp_iff.1 hs).1
  have hg := hgtV_good hs h
  obtain ⟨u, e, hu', -, -, c1, c2⟩ := sd_to hf hv hu
  have hr := sd_rise hs h hv hu e
  have b1 := hg.bd hs hv c1
  have b2 := hg.bd hs hu' c2
  have hl := hM.len
  unfold relS evenS
  rw [e, Int.toNat_natCast]
  by_cases h1 : M.getD v 0 = 99
  · by_cases h2 : M.getD u 0 = 99
    · rw [if_neg (fun x => x.1 h1), if_neg (fun x => x.2 h2)]
      exact ⟨hM, .inl ⟨rfl, by rw [h1, h2]⟩⟩
    · have e2 : M.getD u 0 = (hgtV W T bs L).getD u 0 := (hM.val u hu').resolve_left h2
      rw [if_neg (fun x => x.1 h1), if_pos ⟨h1, h2⟩]
      have ez : M.getD u 0 - sdZ W T L v b = (hgtV W T bs L).getD v 0 := by omega
      rw [ez]
      refine ⟨⟨by rw [List.length_set]; exact hl, fun j hj => ?_, ?_⟩, .inr ⟨un99_set M v _ (by omega) h1 (by omega), fun x => h2 (x.1 h1)⟩⟩
      · rw [getD_setJ (by omega)]
        split
        · rename_i q; subst q; exact .inr rfl
        · exact hM.val j hj
      · rw [getD_setJ (by omega)]
        split
        · omega
        · exact hM.fst
  · have e1 : M.getD v 0 = (hgtV W T bs L).getD v 0 := (hM.val v hv).resolve_left h1
    by_cases h2 : M.getD u 0 = 99
    · rw [if_pos ⟨h1, h2⟩]
      have ez : M.getD v 0 + sdZ W T L v b = (hgtV W T bs L).getD u 0 := by omega
      rw [ez]
      refine ⟨⟨by rw [List.length_set]; exact hl, fun j hj => ?_, ?_⟩, .inr ⟨un99_set M u _ (by omega) h2 (by omega), fun x => h1 (x.2 h2)⟩⟩
      · rw [getD_setJ (by omega)]
        split
        · rename_i q; subst q; exact .inr rfl
        · exact hM.val j hj
      · rw [getD_setJ (by omega)]
        split
        · omega
        · exact hM.fst
    · rw [if_neg (fun x => h2 x.2), if_neg (fun x => h1 x.1)]
      exact ⟨hM, .inl ⟨rfl, ⟨fun x => absurd x h1, fun x => absurd x h2⟩⟩⟩
/-- nothing more to spread: all heights are there -/
theorem rel_fix {W T : Int} {bs : List Bool} (hs : simpB W T bs = true) {L : List Int} (h : tilingB W T bs L = true) {M : List Int} (hM : RelI W T bs L M) (he : ∀ v b, v < ncN W T → sdU W T bs v b = true → evenS W M v b) : M = hgtV W T bs L := by
  obtain ⟨hval, hp, -⟩ := simp_iff.1 hs
  have hf := valid_fld hval
  have hg := hgtV_good hs h
  have hh := hangs_of hf hp
  -- the corners of a side are both known or both not
  have ev : ∀ (x y : Int) (b : Bool), 0 ≤ x → x ≤ W → 0 ≤ y → y ≤ T → (atQ W T bs (if b = true then x - 1 else x) y || atQ W T bs x (if b = true then y else y - 1)) = true → (hL W T M x y = 99 ↔ hL W T M (if b = true then x else x + 1) (if b = true then y + 1 else y) = 99) := fun x y b x0 x1 y0 y1 hq => by
    obtain ⟨v, hv, e1, e2, -⟩ := c_at hf x0 x1 y0 y1
    have hu : sdU W T bs v b = true := by unfold sdU slx srx sry; rw [e1, e2]; exact hq
    obtain ⟨u, e, hu', u2, u3, -, -⟩ := sd_to hf hv hu
    have := he v b hv hu
    unfold evenS at this
    rw [e, Int.toNat_natCast, ← hL_c hf hv, ← hL_c hf hu', u2, u3, e1, e2] at this
    exact this
  have cell : ∀ x y, atQ W T bs x y = true → (hL W T M x y = 99 ↔ hL W T M (x + 1) y = 99) ∧ (hL W T M x (y + 1) = 99 ↔ hL W T M (x + 1) (y + 1) = 99) ∧ (hL W T M x y = 99 ↔ hL W T M x (y + 1) = 99) := fun x y hr => by
    have hin := at_in hr
    unfold inF at hin
    have a := ev x y false (by omega) (by omega) (by omega) (by omega) (by simp [hr])
    have b := ev x (y + 1) false (by omega) (by omega) (by omega) (by omega) (by simp only [Bool.false_eq_true, if_false]; rw [show y + 1 - 1 = y by omega, hr]; simp)
    have c := ev x y true (by omega) (by omega) (by omega) (by omega) (by simp [hr])
    simp only [Bool.false_eq_true, if_false, if_true] at a b c
    exact ⟨a, b, c⟩
  have all : ∀ x y, atQ W T bs x y = true → hL W T M x y ≠ 99 := by
    refine hh.2 (fun x y => hL W T M x y ≠ 99) ?_ ?_
    · intro x y x' y' hr hr' hn hq
      have a := cell x y hr
      have b := cell x' y' hr'
      rcases hn with ⟨rfl, rfl⟩ | ⟨rfl, rfl⟩ | ⟨rfl, rfl⟩ | ⟨rfl, rfl⟩
      · exact fun e => hq (a.1.2 e)
      · exact fun e => hq (a.2.2.2 e)
      · rw [show x - 1 + 1 = x by omega] at b
        exact fun e => hq (b.1.1 e)
      · rw [show y - 1 + 1 = y by omega] at b
        exact fun e => hq (b.2.2.1 e)
    · obtain ⟨p0, p1, p2, -⟩ := v0_at hs
      have := hM.fst
      rw [← hL_c hf p0, p1, p2] at this
      exact this
  refine List.ext_getElem (by rw [hM.len, hg.len]) fun v h1 h2 => ?_
  have hv : v < ncN W T := by rw [← hM.len]; exact h1
  rw [← getD_in M 0 h1, ← getD_in _ 0 h2]
  by_cases hc : corK W T bs v
  · refine (hM.val v hv).resolve_left ?_
    rw [← hL_k hf hv]
    refine cor_all (Q := fun x y => hL W T M x y ≠ 99) (fun x y hr => ?_) hc
    have a := cell x y hr
    have b := all x y hr
    exact ⟨b, fun e => b (a.1.2 e), fun e => b (a.2.2.2 e), fun e => b (a.2.2.2 (a.2.1.2 e))⟩
  · rcases hM.val v hv with e | e
    · rw [e, hg.none v hv hc]
    · exact e
/-- none is known but the first one -/
theorem rel_start {W T : Int} {bs : List Bool} (hs : simpB W T bs = true) {L : List Int} (h : tilingB W T bs L = true) : RelI W T bs L ((List.replicate (ncN W T) 99).set (v0K W bs) 0) := by
  have hf := valid_fld (simp_iff.1 hs).1
  have hg := hgtV_good hs h
  obtain ⟨p0, p1, p2, -⟩ := v0_at hs
  refine ⟨by simp, fun v hv => ?_, ?_⟩
  · rw [getD_setJ (by simpa using p0)]
    split
    · rename_i q
      subst q
      right
      rw [← hL_c hf p0, p1, p2, hg.zero]
    · left
      rw [List.getD_eq_getElem?_getD, List.getElem?_replicate, if_pos hv]; rfl
  · rw [getD_setJ (by simpa using p0), if_pos rfl]; decide
theorem un99_le (M : List Int) : un99 M ≤ M.length := List.countP_le_length

/-! ### All sides, as the program tells them -/
def sidesV (W T : Int) (bs : List Bool) : List (Nat × Bool) := (List.range (ncN W T)).flatMap fun v => (if sdU W T bs v false = true then [(v, false)] else []) ++ (if sdU W T bs v true = true then [(v, true)] else [])
theorem mem_sides {W T : Int} {bs : List Bool} {s : Nat × Bool} : s ∈ sidesV W T bs ↔ s.1 < ncN W T ∧ sdU W T bs s.1 s.2 = true := by
  unfold sidesV
  rw [List.mem_flatMap]
  constructor
  · rintro ⟨v, hv, h⟩
    rw [List.mem_range] at hv
    rcases List.mem_append.1 h with h | h
    · split at h
      · rename_i hu; rw [List.mem_singleton] at h; subst h; exact ⟨hv, hu⟩
      · cases h
    · split at h
      · rename_i hu; rw [List.mem_singleton] at h; subst h; exact ⟨hv, hu⟩
      · cases h
  · rintro ⟨h1, h2⟩
    obtain ⟨v, b⟩ := s
    refine ⟨v, List.mem_range.2 h1, ?_⟩
    cases b with
    | false => exact List.mem_append_left _ (by simp only at h2; rw [if_pos h2]; simp)
    | true => exact List.mem_append_right _ (by simp only at h2; rw [if_pos h2]; simp)
end Go.Proofs.YtafmpgikdhlknaaGreat
