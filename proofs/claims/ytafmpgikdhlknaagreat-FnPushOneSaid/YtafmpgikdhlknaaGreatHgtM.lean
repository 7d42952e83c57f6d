
/- Heights of tilings, plainly: the lesser and the greater ones, and pushes. -/
import Derived.Test.YtafmpgikdhlknaaGreatHgtN
namespace Go.Proofs.YtafmpgikdhlknaaGreat
/-! Heights of one region: how far they are apart, the lesser and the greater ones, and pushes. -/
def nearZ (x y x' y' : Int) : Prop := (x' = x + 1 ∧ y' = y) ∨ (x' = x ∧ y' = y + 1) ∨ (x' = x - 1 ∧ y' = y) ∨ (x' = x ∧ y' = y - 1)
/-- a corner of a cell of a region -/
def Cor (R : Int → Int → Bool) (x y : Int) : Prop := R x y = true ∨ R (x - 1) y = true ∨ R x (y - 1) = true ∨ R (x - 1) (y - 1) = true
theorem cor_cell {R : Int → Int → Bool} {x y : Int} (h : R x y = true) : Cor R x y ∧ Cor R (x + 1) y ∧ Cor R x (y + 1) ∧ Cor R (x + 1) (y + 1) := by
  unfold Cor
  refine ⟨.inl h, .inr (.inl ?_), .inr (.inr (.inl ?_)), .inr (.inr (.inr ?_))⟩
  · rw [show x + 1 - 1 = x by omega]; exact h
  · rw [show y + 1 - 1 = y by omega]; exact h
  · rw [show x + 1 - 1 = x by omega, show y + 1 - 1 = y by omega]; exact h
/-- what holds at the corners of all cells holds at all corners -/
theorem cor_all {R : Int → Int → Bool} {Q : Int → Int → Prop} (h : ∀ x y, R x y = true → Q x y ∧ Q (x + 1) y ∧ Q x (y + 1) ∧ Q (x + 1) (y + 1)) {x y : Int} (hc : Cor R x y) : Q x y := by
  rcases hc with h1 | h1 | h1 | h1
  · exact (h _ _ h1).1
  · have := (h _ _ h1).2.1; rwa [show x - 1 + 1 = x by omega] at this
  · have := (h _ _ h1).2.2.1; rwa [show y - 1 + 1 = y by omega] at this
  · have := (h _ _ h1).2.2.2; rwa [show x - 1 + 1 = x by omega, show y - 1 + 1 = y by omega] at this
/-- the least height of a cell's corners -/
def lowH (h : Int → Int → Int) (x y : Int) : Int := min (min (h x y) (h (x + 1) y)) (min (h x (y + 1)) (h (x + 1) (y + 1)))
theorem low_bd {R : Int → Int → Bool} {h : Int → Int → Int} (ho : HgtOk R h) {x y : Int} (hr : R x y = true) :
    (lowH h x y ≤ h x y ∧ h x y ≤ lowH h x y + 3) ∧ (lowH h x y ≤ h (x + 1) y ∧ h (x + 1) y ≤ lowH h x y + 3) ∧ (lowH h x y ≤ h x (y + 1) ∧ h x (y + 1) ≤ lowH h x y + 3) ∧
    (lowH h x y ≤ h (x + 1) (y + 1) ∧ h (x + 1) (y + 1) ≤ lowH h x y + 3) := by
  have hro := rho_or x y
  unfold lowH
  rcases dirH_cases ho hr with ⟨_, _, b1, b2, b3, b4⟩ | ⟨_, _, b1, b2, b3, b4⟩ | ⟨_, _, b1, b2, b3, b4⟩ | ⟨_, _, b1, b2, b3, b4⟩ <;> omega
theorem low_near {R : Int → Int → Bool} {h : Int → Int → Int} (ho : HgtOk R h) {x y x' y' : Int} (hr : R x y = true) (hr' : R x' y' = true) (hn : nearZ x y x' y') :
    lowH h x' y' ≤ lowH h x y + 2 ∧ lowH h x y ≤ lowH h x' y' + 2 := by
  have b := low_bd ho hr
  have b' := low_bd ho hr'
  have o := ho x y hr
  have hro := rho_or x y
  have e2 := rho_y x y
  have e3 := rho_x' x y
  generalize lowH h x y = l at *
  generalize lowH h x' y' = l' at *
  rcases hn with ⟨rfl, rfl⟩ | ⟨rfl, rfl⟩ | ⟨rfl, rfl⟩ | ⟨rfl, rfl⟩
  · omega
  · omega
  · simp only [show x - 1 + 1 = x by omega] at b'; omega
  · simp only [show y - 1 + 1 = y by omega] at b'; omega
/-- along a side, lesser heights are as both -/
theorem edge_min {a b a' b' r : Int} {p : Prop} (hr : r = 1 ∨ r = -1) (h : b - a = r ∨ (p ∧ b - a = -3 * r)) (h' : b' - a' = r ∨ (p ∧ b' - a' = -3 * r)) (hm : (a' - a) % 4 = 0) :
    min b b' - min a a' = r ∨ (p ∧ min b b' - min a a' = -3 * r) := by
  rcases h with h | ⟨hp, h⟩ <;> rcases h' with h' | ⟨hp', h'⟩
  · left; omega
  · by_cases e : min b b' - min a a' = r
    · exact .inl e
    · exact .inr ⟨hp', by omega⟩
  · by_cases e : min b b' - min a a' = r
    · exact .inl e
    · exact .inr ⟨hp, by omega⟩
  · exact .inr ⟨hp, by omega⟩
theorem edge_max {a b a' b' r : Int} {p : Prop} (hr : r = 1 ∨ r = -1) (h : b - a = r ∨ (p ∧ b - a = -3 * r)) (h' : b' - a' = r ∨ (p ∧ b' - a' = -3 * r)) (hm : (a' - a) % 4 = 0) :
    max b b' - max a a' = r ∨ (p ∧ max b b' - max a a' = -3 * r) := by
  rcases h with h | ⟨hp, h⟩ <;> rcases h' with h' | ⟨hp', h'⟩
  · left; omega
  · by_cases e : max b b' - max a a' = r
    · exact .inl e
    · exact .inr ⟨hp', by omega⟩
  · by_cases e : max b b' - max a a' = r
    · exact .inl e
    · exact .inr ⟨hp, by omega⟩
  · exact .inr ⟨hp, by omega⟩
/-- heights that differ by fours -/
def Mod4 (R : Int → Int → Bool) (h h' : Int → Int → Int) : Prop := ∀ x y, Cor R x y → (h' x y - h x y) % 4 = 0
theorem min_ok {R : Int → Int → Bool} {h h' : Int → Int → Int} (ho : HgtOk R h) (ho' : HgtOk R h') (hm : Mod4 R h h') : HgtOk R (fun x y => min (h x y) (h' x y)) := by
  intro x y hr
  obtain ⟨c1, c2, c3, c4⟩ := cor_cell hr
  obtain ⟨a, b, c, d⟩ := ho x y hr
  obtain ⟨a', b', c', d'⟩ := ho' x y hr
  exact ⟨edge_min (rho_or _ _) a a' (hm _ _ c1), edge_min (rho_or _ _) b b' (hm _ _ c3), edge_min (rho_or _ _) c c' (hm _ _ c1), edge_min (rho_or _ _) d d' (hm _ _ c2)⟩
theorem max_ok {R : Int → Int → Bool} {h h' : Int → Int → Int} (ho : HgtOk R h) (ho' : HgtOk R h') (hm : Mod4 R h h') : HgtOk R (fun x y => max (h x y) (h' x y)) := by
  intro x y hr
  obtain ⟨c1, c2, c3, c4⟩ := cor_cell hr
  obtain ⟨a, b, c, d⟩ := ho x y hr
  obtain ⟨a', b', c', d'⟩ := ho' x y hr
  exact ⟨edge_max (rho_or _ _) a a' (hm _ _ c1), edge_max (rho_or _ _) b b' (hm _ _ c3), edge_max (rho_or _ _) c c' (hm _ _ c1), edge_max (rho_or _ _) d d' (hm _ _ c2)⟩
/-- a region hangs together: what goes from cell to cell goes to all -/
def Hangs (R : Int → Int → Bool) (x0 y0 : Int) : Prop :=
  R x0 y0 = true ∧ ∀ Q : Int → Int → Prop, (∀ x y x' y', R x y = true → R x' y' = true → nearZ x y x' y' → Q x y → Q x' y') → Q x0 y0 → ∀ x y, R x y = true → Q x y
theorem mod_cell {R : Int → Int → Bool} {h h' : Int → Int → Int} (ho : HgtOk R h) (ho' : HgtOk R h') {x y : Int} (hr : R x y = true) :
    (h' (x + 1) y - h (x + 1) y) % 4 = (h' x y - h x y) % 4 ∧ (h' x (y + 1) - h x (y + 1)) % 4 = (h' x y - h x y) % 4 ∧ (h' (x + 1) (y + 1) - h (x + 1) (y + 1)) % 4 = (h' x y - h x y) % 4 := by
  have o := ho x y hr
  have o' := ho' x y hr
  have hro := rho_or x y
  have e2 := rho_y x y
  have e3 := rho_x' x y
  refine ⟨by omega, by omega, by omega⟩
/-- they differ by fours if they do at one corner of one cell -/
theorem mod_all {R : Int → Int → Bool} {h h' : Int → Int → Int} (ho : HgtOk R h) (ho' : HgtOk R h') {x0 y0 : Int} (hh : Hangs R x0 y0) (h0 : (h' x0 y0 - h x0 y0) % 4 = 0) : Mod4 R h h' := by
  have key := hh.2 (fun x y => (h' x y - h x y) % 4 = 0) (fun x y x' y' r r' hn hq => by
    have m := mod_cell ho ho' r
    have m' := mod_cell ho ho' r'
    rcases hn with ⟨rfl, rfl⟩ | ⟨rfl, rfl⟩ | ⟨rfl, rfl⟩ | ⟨rfl, rfl⟩
    · omega
    · omega
    · simp only [show x - 1 + 1 = x by omega] at m'; omega
    · simp only [show y - 1 + 1 = y by omega] at m'; omega) h0
  intro x y hc
  exact cor_all (Q := fun x y => (h' x y - h x y) % 4 = 0) (fun x y r => by
    have m := mod_cell ho ho' r
    have := key x y r
    exact ⟨this, by omega, by omega, by omega⟩) hc
/-- heights of one tiling differ by one number -/
theorem hgt_uni {R : Int → Int → Bool} {D h h' : Int → Int → Int} (hh : IsHgt R D h) (hh' : IsHgt R D h') {x0 y0 : Int} (hg : Hangs R x0 y0) {d : Int} (h0 : h' x0 y0 - h x0 y0 = d) : ∀ x y, Cor R x y → h' x y - h x y = d := by
  have key := hg.2 (fun x y => h' x y - h x y = d) (fun x y x' y' r r' hn hq => by
    have m := hh x y r
    have m' := hh' x y r
    have n := hh x' y' r'
    have n' := hh' x' y' r'
    rcases hn with ⟨rfl, rfl⟩ | ⟨rfl, rfl⟩ | ⟨rfl, rfl⟩ | ⟨rfl, rfl⟩
    · omega
    · omega
    · simp only [show x - 1 + 1 = x by omega] at n n'; omega
    · simp only [show y - 1 + 1 = y by omega] at n n'; omega) h0
  intro x y hc
  exact cor_all (Q := fun x y => h' x y - h x y = d) (fun x y r => by
    have m := hh x y r
    have m' := hh' x y r
    have := key x y r
    exact ⟨this, by omega, by omega, by omega⟩) hc
/-! ### Pushes -/
def Sq (R : Int → Int → Bool) (x y : Int) : Prop := R x y = true ∧ R (x - 1) y = true ∧ R x (y - 1) = true ∧ R (x - 1) (y - 1) = true
def LoMin (h : Int → Int → Int) (x y : Int) : Prop := h x y < h (x + 1) y ∧ h x y < h (x - 1) y ∧ h x y < h x (y + 1) ∧ h x y < h x (y - 1)
def LoMax (h : Int → Int → Int) (x y : Int) : Prop := h (x + 1) y < h x y ∧ h (x - 1) y < h x y ∧ h x (y + 1) < h x y ∧ h x (y - 1) < h x y
instance (R : Int → Int → Bool) (x y : Int) : Decidable (Sq R x y) := by unfold Sq; infer_instance
instance (h : Int → Int → Int) (x y : Int) : Decidable (LoMin h x y) := by unfold LoMin; infer_instance
instance (h : Int → Int → Int) (x y : Int) : Decidable (LoMax h x y) := by unfold LoMax; infer_instance
/-- by how much a push changes the height of its corner -/
def pushBy (R : Int → Int → Bool) (h : Int → Int → Int) (x y : Int) (up : Bool) : Int :=
  if Sq R x y then (if up = true then (if LoMin h x y then 4 else 0) else (if LoMax h x y then -4 else 0)) else 0
def pushH (R : Int → Int → Bool) (h : Int → Int → Int) (vx vy : Int) (up : Bool) : Int → Int → Int := fun x y => if x = vx ∧ y = vy then h x y + pushBy R h vx vy up else h x y
theorem pushBy_or (R : Int → Int → Bool) (h : Int → Int → Int) (x y : Int) (up : Bool) :
    pushBy R h x y up = 0 ∨ (pushBy R h x y up = 4 ∧ up = true ∧ Sq R x y ∧ LoMin h x y) ∨ (pushBy R h x y up = -4 ∧ up = false ∧ Sq R x y ∧ LoMax h x y) := by
  unfold pushBy
  by_cases hs : Sq R x y
  · rw [if_pos hs]
    cases up with
    | true =>
      by_cases hl : LoMin h x y
      · exact .inr (.inl ⟨by simp [hl], rfl, hs, hl⟩)
      · exact .inl (by simp [hl])
    | false =>
      by_cases hl : LoMax h x y
      · exact .inr (.inr ⟨by simp [hl], rfl, hs, hl⟩)
      · exact .inl (by simp [hl])
  · rw [if_neg hs]; exact .inl rfl
/-- the four sides at a corner within a region -/
theorem star {R : Int → Int → Bool} {h : Int → Int → Int} (ho : HgtOk R h) {x y : Int} (hs : Sq R x y) :
    (h (x + 1) y - h x y = rho x y ∨ h (x + 1) y - h x y = -3 * rho x y) ∧ (h (x - 1) y - h x y = rho x y ∨ h (x - 1) y - h x y = -3 * rho x y) ∧
    (h x (y + 1) - h x y = - rho x y ∨ h x (y + 1) - h x y = 3 * rho x y) ∧ (h x (y - 1) - h x y = - rho x y ∨ h x (y - 1) - h x y = 3 * rho x y) := by
  obtain ⟨s1, s2, s3, s4⟩ := hs
  have e3 := rho_x' x y
  have e4 := rho_y' x y
  have e34 := rho_x' x (y - 1)
  obtain ⟨a, -, c, -⟩ := ho x y s1
  obtain ⟨a2, -, -, -⟩ := ho (x - 1) y s2
  obtain ⟨-, -, c3, -⟩ := ho x (y - 1) s3
  simp only [show x - 1 + 1 = x by omega, show y - 1 + 1 = y by omega] at *
  omega
theorem edge_mk {p : Prop} (hp : p) {d r : Int} (h : d = r ∨ d = -3 * r) : d = r ∨ (p ∧ d = -3 * r) := by
  rcases h with h | h
  · exact .inl h
  · exact .inr ⟨hp, h⟩
set_option maxHeartbeats 2000000 in
theorem push_ok {R : Int → Int → Bool} {h : Int → Int → Int} (ho : HgtOk R h) (vx vy : Int) (up : Bool) : HgtOk R (pushH R h vx vy up) := by
  rcases pushBy_or R h vx vy up with e | hcase
  · intro x y hr
    unfold pushH
    rw [e]
    simp only [Int.add_zero, ite_self]
    exact ho x y hr
  · have hs : Sq R vx vy := by rcases hcase with ⟨-, -, h, -⟩ | ⟨-, -, h, -⟩ <;> exact h
    have hd : (pushBy R h vx vy up = 4 ∧ LoMin h vx vy) ∨ (pushBy R h vx vy up = -4 ∧ LoMax h vx vy) := by
      rcases hcase with ⟨a, -, -, b⟩ | ⟨a, -, -, b⟩
      · exact .inl ⟨a, b⟩
      · exact .inr ⟨a, b⟩
    have st := star ho hs
    obtain ⟨s1, s2, s3, s4⟩ := hs
    have hro := rho_or vx vy
    have e3 := rho_x' vx vy
    have e4 := rho_y' vx vy
    have e2 := rho_y vx vy
    have e34 := rho_x' vx (vy - 1)
    have gv : pushH R h vx vy up vx vy = h vx vy + pushBy R h vx vy up := by unfold pushH; rw [if_pos ⟨rfl, rfl⟩]
    have go : ∀ a b, ¬ (a = vx ∧ b = vy) → pushH R h vx vy up a b = h a b := fun a b hn => by unfold pushH; rw [if_neg hn]
    unfold LoMin LoMax at hd
    generalize pushH R h vx vy up = g at *
    generalize pushBy R h vx vy up = d at *
    intro x y hr
    obtain ⟨a, b, c, f⟩ := ho x y hr
    by_cases q1 : x = vx ∧ y = vy
    · obtain ⟨rfl, rfl⟩ := q1
      rw [gv, go (x + 1) y (by omega), go x (y + 1) (by omega), go (x + 1) (y + 1) (by omega)]
      exact ⟨edge_mk s3 (by rcases hd with ⟨rfl, hd⟩ | ⟨rfl, hd⟩ <;> omega), b, edge_mk s2 (by rcases hd with ⟨rfl, hd⟩ | ⟨rfl, hd⟩ <;> omega), f⟩
    · by_cases q2 : x = vx - 1 ∧ y = vy
      · obtain ⟨rfl, rfl⟩ := q2
        simp only [show vx - 1 + 1 = vx by omega] at *
        rw [gv, go (vx - 1) y (by omega), go (vx - 1) (y + 1) (by omega), go vx (y + 1) (by omega)]
        exact ⟨edge_mk s4 (by rcases hd with ⟨rfl, hd⟩ | ⟨rfl, hd⟩ <;> omega), b, c, edge_mk s1 (by rcases hd with ⟨rfl, hd⟩ | ⟨rfl, hd⟩ <;> omega)⟩
      · by_cases q3 : x = vx ∧ y = vy - 1
        · obtain ⟨rfl, rfl⟩ := q3
          simp only [show vy - 1 + 1 = vy by omega] at *
          rw [gv, go (x + 1) (vy - 1) (by omega), go x (vy - 1) (by omega), go (x + 1) vy (by omega)]
          exact ⟨a, edge_mk s1 (by rcases hd with ⟨rfl, hd⟩ | ⟨rfl, hd⟩ <;> omega), edge_mk s4 (by rcases hd with ⟨rfl, hd⟩ | ⟨rfl, hd⟩ <;> omega), f⟩
        · by_cases q4 : x = vx - 1 ∧ y = vy - 1
          · obtain ⟨rfl, rfl⟩ := q4
            simp only [show vx - 1 + 1 = vx by omega, show vy - 1 + 1 = vy by omega] at *
            rw [gv, go (vx - 1) (vy - 1) (by omega), go vx (vy - 1) (by omega), go (vx - 1) vy (by omega)]
            exact ⟨a, edge_mk s2 (by rcases hd with ⟨rfl, hd⟩ | ⟨rfl, hd⟩ <;> omega), c, edge_mk s3 (by rcases hd with ⟨rfl, hd⟩ | ⟨rfl, hd⟩ <;> omega)⟩
          · rw [go x y (by omega), go (x + 1) y (by omega), go x (y + 1) (by omega), go (x + 1) (y + 1) (by omega)]
            exact ⟨a, b, c, f⟩
/-- pushes keep the order -/
theorem push_mono {R : Int → Int → Bool} {h h' : Int → Int → Int} (ho : HgtOk R h) (ho' : HgtOk R h') (hm : Mod4 R h h') (hle : ∀ x y, Cor R x y → h x y ≤ h' x y) (vx vy : Int) (up : Bool) :
    ∀ x y, Cor R x y → pushH R h vx vy up x y ≤ pushH R h' vx vy up x y := by
  intro x y hc
  unfold pushH
  by_cases hv : x = vx ∧ y = vy
  · rw [if_pos hv, if_pos hv]
    obtain ⟨rfl, rfl⟩ := hv
    have m0 := hm x y hc
    have l0 := hle x y hc
    by_cases hs : Sq R x y
    · have st := star ho hs
      have st' := star ho' hs
      have hro := rho_or x y
      obtain ⟨s1, s2, s3, s4⟩ := id hs
      have c1 := hle (x + 1) y (cor_cell s1).2.1
      have c2 := hle x (y + 1) (cor_cell s1).2.2.1
      have c3 := hle (x - 1) y (cor_cell s2).1
      have c4 := hle x (y - 1) (cor_cell s3).1
      unfold pushBy
      rw [if_pos hs, if_pos hs]
      cases up with
      | true =>
        simp only [if_true]
        by_cases p : LoMin h x y
        · rw [if_pos p]
          by_cases p' : LoMin h' x y
          · rw [if_pos p']; omega
          · rw [if_neg p']
            unfold LoMin at p p'
            omega
        · rw [if_neg p]
          split <;> omega
      | false =>
        simp only [if_neg (show ¬ false = true by decide)]
        by_cases p' : LoMax h' x y
        · rw [if_pos p']
          by_cases p : LoMax h x y
          · rw [if_pos p]; omega
          · rw [if_neg p]
            unfold LoMax at p p'
            omega
        · rw [if_neg p']
          split <;> omega
    · unfold pushBy
      rw [if_neg hs, if_neg hs]; omega
  · rw [if_neg hv, if_neg hv]; exact hle x y hc
/-- a second push in the same direction changes nothing -/
theorem push_twice {R : Int → Int → Bool} {h : Int → Int → Int} (ho : HgtOk R h) (vx vy : Int) (up : Bool) : pushH R (pushH R h vx vy up) vx vy up = pushH R h vx vy up := by
  have key : pushBy R (pushH R h vx vy up) vx vy up = 0 := by
    rcases pushBy_or R h vx vy up with e | ⟨e, rfl, hs, hl⟩ | ⟨e, rfl, hs, hl⟩
    · have : pushH R h vx vy up = h := by funext x y; unfold pushH; rw [e]; simp
      rw [this, e]
    · have st := star ho hs
      have hro := rho_or vx vy
      unfold pushBy
      rw [if_pos hs]
      simp only [if_true]
      rw [if_neg]
      unfold LoMin at hl ⊢
      unfold pushH
      rw [e]
      simp only [and_self, if_true]
      omega
    · have st := star ho hs
      have hro := rho_or vx vy
      unfold pushBy
      rw [if_pos hs]
      simp only [if_neg (show ¬ false = true by decide)]
      rw [if_neg]
      unfold LoMax at hl ⊢
      unfold pushH
      rw [e]
      simp only [and_self, if_true]
      omega
  generalize pushH R h vx vy up = g at *
  funext x y
  unfold pushH
  rw [key]; simp
/-- the two dominoes around a corner -/
def Flat (D : Int → Int → Int) (x y : Int) : Prop := D (x - 1) (y - 1) = 1 ∧ D (x - 1) y = 1
def Upri (D : Int → Int → Int) (x y : Int) : Prop := D (x - 1) (y - 1) = 2 ∧ D x (y - 1) = 2
theorem flip_h {R : Int → Int → Bool} {D h : Int → Int → Int} (ht : IsTil R D) (hh : IsHgt R D h) {x y : Int} (hs : Sq R x y) :
    (LoMin h x y ↔ (rho x y = 1 ∧ Flat D x y) ∨ (rho x y = -1 ∧ Upri D x y)) ∧ (LoMax h x y ↔ (rho x y = -1 ∧ Flat D x y) ∨ (rho x y = 1 ∧ Upri D x y)) := by
  obtain ⟨s1, s2, s3, s4⟩ := hs
  obtain ⟨a, -, c, -⟩ := hh x y s1
  obtain ⟨a2, -, -, -⟩ := hh (x - 1) y s2
  obtain ⟨-, -, c3, -⟩ := hh x (y - 1) s3
  have hro := rho_or x y
  have e3 := rho_x' x y
  have e4 := rho_y' x y
  have e34 := rho_x' x (y - 1)
  have t1 := til_4 ht (x := x) (y := y)
  have t2 := til_4 ht (x := x - 1) (y := y)
  have t3 := til_3 ht (x := x) (y := y)
  simp only [show x - 1 + 1 = x by omega, show y - 1 + 1 = y by omega] at *
  unfold byH at a a2
  unfold byV at c c3
  unfold LoMin LoMax Flat Upri
  rw [e34, e4] at c3
  rw [e3] at a2 c
  generalize rho x y = r at *
  generalize rho (x - 1) y = r1 at *
  generalize rho x (y - 1) = r2 at *
  generalize rho (x - 1) (y - 1) = r3 at *
  generalize D x y = d1 at *
  generalize D (x - 1) y = d2 at *
  generalize D (x - 1) (y - 1) = d3 at *
  generalize D x (y - 1) = d4 at *
  generalize h (x + 1) y = h1 at *
  generalize h (x - 1) y = h2 at *
  generalize h x (y + 1) = h3 at *
  generalize h x (y - 1) = h4 at *
  generalize h x y = h0 at *
  by_cases f1 : d1 = 4 <;> by_cases f2 : d2 = 4 <;> by_cases f3 : d2 = 1 <;> by_cases f4 : d3 = 1 <;>
    (first | rw [if_pos f1] at a | rw [if_neg f1] at a) <;> (first | rw [if_pos f2] at a2 | rw [if_neg f2] at a2) <;> (first | rw [if_pos f3] at c | rw [if_neg f3] at c) <;> (first | rw [if_pos f4] at c3 | rw [if_neg f4] at c3) <;>
    refine ⟨⟨fun h => ?_, fun h => ?_⟩, ⟨fun h => ?_, fun h => ?_⟩⟩ <;> omega
end Go.Proofs.YtafmpgikdhlknaaGreat
