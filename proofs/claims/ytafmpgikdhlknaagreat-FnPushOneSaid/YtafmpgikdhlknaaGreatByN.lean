
/- Tilings told by heights, plainly: side by side. -/
import Derived.Test.YtafmpgikdhlknaaGreatRelN
import Derived.Test.YtafmpgikdhlknaaGreatPshN
namespace Go.Proofs.YtafmpgikdhlknaaGreat
open Go.RowKit

/-- the direction over a side, from the cell on its left -/
def d0B (b : Bool) : Int := if b = true then 1 else 4
/-- a side that is crossed, by heights -/
def crD (W : Int) (hs : List Int) (v : Nat) (b : Bool) : Int := hs.getD (sdT W v b).toNat 0 - hs.getD v 0
def crH (W T : Int) (bs : List Bool) (hs : List Int) (v : Nat) (b : Bool) : Bool := sdI W T bs v b && (decide (crD W hs v b = 3) || decide (crD W hs v b = -3))
def tD (W T : Int) (bs : List Bool) (hs : List Int) (j : Nat) : Int := dirH (atQ W T bs) (hL W T hs) ((j : Int) % W) ((j : Int) / W)
theorem sdI_use {W T : Int} {bs : List Bool} {v : Nat} {b : Bool} (h : sdI W T bs v b = true) : sdU W T bs v b = true := by
  unfold sdI at h
  unfold sdU
  rw [Bool.and_eq_true] at h
  rw [h.1]; rfl
/-- both cells of an inner side -/
theorem sd_cells {W T : Int} {bs : List Bool} (hf : FldG W T bs.length) {v : Nat} {b : Bool} (h : sdI W T bs v b = true) :
    ∃ a c : Nat, cY W v * W + slx W v b = a ∧ sry W v b * W + srx W v = c ∧ a < bs.length ∧ c < bs.length ∧ a ≠ c ∧ ((a : Int) % W = slx W v b ∧ (a : Int) / W = cY W v) ∧ ((c : Int) % W = srx W v ∧ (c : Int) / W = sry W v b) ∧ bs.getD a false = true ∧ bs.getD c false = true ∧
      (∀ w : Int, 1 ≤ w → w ≤ 4 → (stepZ W T a w = c ↔ w = d0B b)) := by
  unfold sdI at h
  rw [Bool.and_eq_true] at h
  obtain ⟨h1, h2⟩ := h
  have i1 := at_in h1
  have i2 := at_in h2
  obtain ⟨a, ea, ha, a1, a2⟩ := hf.at_ i1.1 i1.2.1 i1.2.2.1 i1.2.2.2
  obtain ⟨c, ec, hc, c1, c2⟩ := hf.at_ i2.1 i2.2.1 i2.2.2.1 i2.2.2.2
  have g1 := h1
  have g2 := h2
  rw [← a1, ← a2, at_k hf ha] at g1
  rw [← c1, ← c2, at_k hf hc] at g2
  have hd : ∃ dx dy, IsDir (d0B b) dx dy ∧ (c : Int) % W = (a : Int) % W + dx ∧ (c : Int) / W = (a : Int) / W + dy := by
    rw [a1, a2, c1, c2]
    cases b with
    | true => exact ⟨1, 0, .inl ⟨rfl, rfl, rfl⟩, by simp only [slx, srx, if_true]; omega, by simp only [sry, if_true]; omega⟩
    | false => exact ⟨0, -1, .inr (.inr (.inr ⟨rfl, rfl, rfl⟩)), by simp only [slx, srx, Bool.false_eq_true, if_false]; omega, by simp only [sry, Bool.false_eq_true, if_false]; omega⟩
  obtain ⟨dx, dy, hd, e1, e2⟩ := hd
  refine ⟨a, c, ea, ec, ha, hc, ?_, ⟨a1, a2⟩, ⟨c1, c2⟩, g1, g2, fun w w1 w2 => ⟨fun e => ?_, fun e => ?_⟩⟩
  · rintro rfl
    unfold IsDir at hd; omega
  · obtain ⟨dx', dy', hd'⟩ := isDir_of ⟨w1, w2⟩
    rcases hf.step ha hd' with ⟨s, e', hs, e3, e4, -⟩ | ⟨e', -⟩
    · have : s = c := by omega
      subst this
      unfold IsDir at hd hd'; omega
    · omega
  · subst e
    exact (adjW_of hf ha hc hd e1 e2).1
theorem back_d0 (b : Bool) : backZ (d0B b) = if b = true then 3 else 2 := by cases b <;> decide
/-- a crossed side tells the directions of both cells -/
theorem cr_dir {W T : Int} {bs : List Bool} (hf : FldG W T bs.length) {hs : List Int} (ho : HgtOk (atQ W T bs) (hL W T hs)) {v : Nat} (hv : v < ncN W T) {b : Bool} (h : crH W T bs hs v b = true) {a c : Nat}
    (a1 : (a : Int) % W = slx W v b) (a2 : (a : Int) / W = cY W v) (c1 : (c : Int) % W = srx W v) (c2 : (c : Int) / W = sry W v b) :
    tD W T bs hs a = d0B b ∧ tD W T bs hs c = backZ (d0B b) := by
  unfold crH at h
  rw [Bool.and_eq_true, Bool.or_eq_true, decide_eq_true_eq, decide_eq_true_eq] at h
  obtain ⟨hi, hd⟩ := h
  obtain ⟨u, e, hu, u2, u3, -, -⟩ := sd_to hf hv (sdI_use hi)
  unfold crD at hd
  rw [e, Int.toNat_natCast, ← hL_c hf hv, ← hL_c hf hu, u2, u3] at hd
  unfold sdI at hi
  rw [Bool.and_eq_true] at hi
  obtain ⟨h1, h2⟩ := hi
  rw [back_d0]
  unfold tD d0B
  rw [a1, a2, c1, c2]
  have r1 := rho_or (slx W v b) (cY W v)
  cases b with
  | true =>
    have q1 := (dirH_is ho h1).1
    have q2 := (dirH_is ho h2).2.2.1
    have o1 := (ho _ _ h1).2.2.2
    simp only [slx, srx, sry, if_true] at r1 q1 q2 o1 hd ⊢
    rw [show cX W v - 1 + 1 = cX W v by omega] at q1 o1
    have r3 := rho_x' (cX W v) (cY W v)
    have t : hL W T hs (cX W v) (cY W v + 1) - hL W T hs (cX W v) (cY W v) = -3 * rho (cX W v - 1) (cY W v) := by
      clear q1 q2
      rcases o1 with o1 | ⟨-, o1⟩
      · omega
      · exact o1
    exact ⟨q1 t, q2 (by rw [t, r3]; omega)⟩
  | false =>
    have q1 := (dirH_is ho h1).2.2.2
    have q2 := (dirH_is ho h2).2.1
    have o1 := (ho _ _ h1).1
    simp only [slx, srx, sry, Bool.false_eq_true, if_false] at r1 q1 q2 o1 hd ⊢
    rw [show cY W v - 1 + 1 = cY W v by omega] at q2
    have r3 := rho_y' (cX W v) (cY W v)
    have t : hL W T hs (cX W v + 1) (cY W v) - hL W T hs (cX W v) (cY W v) = -3 * rho (cX W v) (cY W v) := by
      clear q1 q2
      rcases o1 with o1 | ⟨-, o1⟩
      · omega
      · exact o1
    exact ⟨q1 t, q2 (by rw [t, r3]; omega)⟩
/-- directions told so far: those over the sides of a set -/
structure ByI (W T : Int) (bs : List Bool) (hs M : List Int) (P : Nat → Bool → Prop) : Prop where
  len : M.length = bs.length
  val : ∀ j, j < bs.length → M.getD j 0 = 0 ∨ M.getD j 0 = tD W T bs hs j
  done : ∀ v b, P v b → v < ncN W T → crH W T bs hs v b = true → ∀ j, j < bs.length → (((j : Int) % W = slx W v b ∧ (j : Int) / W = cY W v) ∨ ((j : Int) % W = srx W v ∧ (j : Int) / W = sry W v b)) → M.getD j 0 = tD W T bs hs j
theorem by_start {W T : Int} {bs : List Bool} {hs : List Int} {P : Nat → Bool → Prop} (hP : ∀ v b, ¬ P v b) : ByI W T bs hs (List.replicate bs.length 0) P :=
  ⟨by simp, fun j hj => .inl (by rw [List.getD_eq_getElem?_getD, List.getElem?_replicate, if_pos hj]; rfl), fun v b h => absurd h (hP v b)⟩
theorem by_keep {W T : Int} {bs : List Bool} {hs M : List Int} {P P' : Nat → Bool → Prop} (h : ByI W T bs hs M P) (hP : ∀ v b, v < ncN W T → crH W T bs hs v b = true → P' v b → P v b) : ByI W T bs hs M P' :=
  ⟨h.len, h.val, fun v b hp hv hc => h.done v b (hP v b hv hc hp) hv hc⟩
theorem by_set {W T : Int} {bs : List Bool} (hf : FldG W T bs.length) {hs : List Int} (ho : HgtOk (atQ W T bs) (hL W T hs)) {M : List Int} {P P' : Nat → Bool → Prop} (h : ByI W T bs hs M P) {v : Nat} (hv : v < ncN W T) {b : Bool} (hc : crH W T bs hs v b = true)
    {a c : Nat} (ha : a < bs.length) (hcl : c < bs.length) (a1 : (a : Int) % W = slx W v b ∧ (a : Int) / W = cY W v) (c1 : (c : Int) % W = srx W v ∧ (c : Int) / W = sry W v b) (hP : ∀ v' b', v' < ncN W T → crH W T bs hs v' b' = true → P' v' b' → P v' b' ∨ (v' = v ∧ b' = b)) :
    ByI W T bs hs ((M.set a (d0B b)).set c (backZ (d0B b))) P' := by
  obtain ⟨t1, t2⟩ := cr_dir hf ho hv hc a1.1 a1.2 c1.1 c1.2
  have hl := h.len
  have g : ∀ j, ((M.set a (d0B b)).set c (backZ (d0B b))).getD j 0 = if j = c then tD W T bs hs c else if j = a then tD W T bs hs a else M.getD j 0 := fun j => by
    rw [getD_setJ (by rw [List.length_set]; omega), getD_setJ (by omega), t1, t2]
  refine ⟨by simp [hl], fun j hj => ?_, fun v' b' hp hv' hc' j hj hjq => ?_⟩
  · rw [g]
    split
    · rename_i q; subst q; exact .inr rfl
    · split
      · rename_i q; subst q; exact .inr rfl
      · exact h.val j hj
  · rw [g]
    split
    · rename_i q; subst q; rfl
    · rename_i q1
      split
      · rename_i q; subst q; rfl
      · rename_i q2
        rcases hP v' b' hv' hc' hp with hp | ⟨rfl, rfl⟩
        · exact h.done v' b' hp hv' hc' j hj hjq
        · exfalso
          rcases hjq with hq | hq
          · exact q2 (hf.inj hj ha (by omega) (by omega))
          · exact q1 (hf.inj hj hcl (by omega) (by omega))
/-- all sides: the tiling of these heights -/
theorem by_all {W T : Int} {bs : List Bool} (hf : FldG W T bs.length) {hs : List Int} (ho : HgtOk (atQ W T bs) (hL W T hs)) {M : List Int} {P : Nat → Bool → Prop} (h : ByI W T bs hs M P) (hP : ∀ v b, v < ncN W T → sdU W T bs v b = true → P v b) : M = tilH W T bs hs := by
  refine List.ext_getElem (by rw [h.len, tilH_len]) fun j h1 h2 => ?_
  have hj : j < bs.length := by rw [← h.len]; exact h1
  rw [← getD_in M 0 h1, ← getD_in _ 0 h2, tilH_k hj]
  change _ = tD W T bs hs j
  cases hb : bs.getD j false with
  | false =>
    have e : tD W T bs hs j = 0 := dirH_out ((at_k hf hj).trans hb)
    rcases h.val j hj with q | q
    · rw [q, e]
    · exact q
  | true =>
    have hr : atQ W T bs ((j : Int) % W) ((j : Int) / W) = true := (at_k hf hj).trans hb
    obtain ⟨x0, x1, y0, y1⟩ := at_in hr
    -- the side that is crossed
    have key : ∀ (x y : Int) (b : Bool), 0 ≤ x → x ≤ W → 0 ≤ y → y ≤ T → atQ W T bs (if b = true then x - 1 else x) y = true → atQ W T bs x (if b = true then y else y - 1) = true →
        (hL W T hs (if b = true then x else x + 1) (if b = true then y + 1 else y) - hL W T hs x y = 3 ∨ hL W T hs (if b = true then x else x + 1) (if b = true then y + 1 else y) - hL W T hs x y = -3) →
        (((j : Int) % W = (if b = true then x - 1 else x) ∧ (j : Int) / W = y) ∨ ((j : Int) % W = x ∧ (j : Int) / W = (if b = true then y else y - 1))) → M.getD j 0 = tD W T bs hs j := fun x y b xa xb ya yb q1 q2 q3 q4 => by
      obtain ⟨v, hv, e1, e2, -⟩ := c_at hf xa xb ya yb
      have hi : sdI W T bs v b = true := by unfold sdI slx srx sry; rw [e1, e2, q1, q2]; rfl
      obtain ⟨u, e, hu, u2, u3, -, -⟩ := sd_to hf hv (sdI_use hi)
      refine h.done v b (hP v b hv (sdI_use hi)) hv ?_ j hj ?_
      · unfold crH crD
        rw [hi, e, Int.toNat_natCast, ← hL_c hf hv, ← hL_c hf hu, u2, u3, e1, e2]
        rw [Bool.true_and, Bool.or_eq_true, decide_eq_true_eq, decide_eq_true_eq]
        exact q3
      · unfold slx srx sry
        rw [e1, e2]; exact q4
    have hro := rho_or ((j : Int) % W) ((j : Int) / W)
    rcases dirH_cases ho hr with ⟨-, r, d1, -⟩ | ⟨-, r, -, d1, -⟩ | ⟨-, r, -, -, d1, -⟩ | ⟨-, r, -, -, -, d1⟩
    · have hin := at_in r
      refine key ((j : Int) % W + 1) ((j : Int) / W) true (by omega) (by omega) (by omega) (by omega) (by rw [if_pos rfl, show (j : Int) % W + 1 - 1 = (j : Int) % W by omega]; exact hr) (by rw [if_pos rfl]; exact r) (by rw [if_pos rfl, if_pos rfl]; omega) (.inl (by rw [if_pos rfl]; omega))
    · have hin := at_in r
      refine key ((j : Int) % W) ((j : Int) / W + 1) false (by omega) (by omega) (by omega) (by omega) (by simp only [Bool.false_eq_true, if_false]; exact r) (by simp only [Bool.false_eq_true, if_false]; rw [show (j : Int) / W + 1 - 1 = (j : Int) / W by omega]; exact hr) (by simp only [Bool.false_eq_true, if_false]; omega) (.inr ⟨rfl, by simp only [Bool.false_eq_true, if_false]; omega⟩)
    · refine key ((j : Int) % W) ((j : Int) / W) true (by omega) (by omega) (by omega) (by omega) (by rw [if_pos rfl]; exact r) (by rw [if_pos rfl]; exact hr) (by rw [if_pos rfl, if_pos rfl]; omega) (.inr (by rw [if_pos rfl]; omega))
    · refine key ((j : Int) % W) ((j : Int) / W) false (by omega) (by omega) (by omega) (by omega) (by simp only [Bool.false_eq_true, if_false]; exact hr) (by simp only [Bool.false_eq_true, if_false]; exact r) (by simp only [Bool.false_eq_true, if_false]; omega) (.inl ⟨by simp only [Bool.false_eq_true, if_false], rfl⟩)
/-- the reference's way: a tiling at each step -/
noncomputable def foldS (f : Int → Int → Int) (W T : Int) (bs : List Bool) (t : List Int) (ts : List (List Int)) : List Int := ts.foldl (fun t u => tilH W T bs (pickL f (hgtV W T bs t) (hgtV W T bs u))) t
theorem foldS_eq {W T : Int} {bs : List Bool} (hs : simpB W T bs = true) {f : Int → Int → Int} (hp : ∀ a b, GoodH W T bs a → GoodH W T bs b → GoodH W T bs (pickL f a b)) : ∀ (ts : List (List Int)) (t : List Int), tilingB W T bs t = true → (∀ u ∈ ts, tilingB W T bs u = true) → foldS f W T bs t ts = tilH W T bs (foldH f W T bs (hgtV W T bs t) ts)
  | [], t, h, _ => (tilH_hgt hs h).symm
  | u :: ts, t, h, hu => by
    have hg := hp _ _ (hgtV_good hs h) (hgtV_good hs (hu u List.mem_cons_self))
    have h1 := tilH_til hs hg
    have := foldS_eq hs hp ts _ h1 (fun x hx => hu x (List.mem_cons_of_mem _ hx))
    rw [hgt_tilH hs hg] at this
    exact this
theorem pick_self {f : Int → Int → Int} (fx : ∀ x, f x x = x) (a : List Int) : pickL f a a = a := by
  unfold pickL
  induction a with
  | nil => rfl
  | cons x a ih => rw [List.zipWith_cons_cons, ih, fx]
/-- the first one is all one needs to begin with -/
theorem foldH_tail {W T : Int} {bs : List Bool} {f : Int → Int → Int} (fx : ∀ x, f x x = x) (t : List Int) (ts : List (List Int)) : foldH f W T bs (hgtV W T bs t) (t :: ts) = foldH f W T bs (hgtV W T bs t) ts := by
  unfold foldH
  rw [List.foldl_cons, pick_self fx]
end Go.Proofs.YtafmpgikdhlknaaGreat
