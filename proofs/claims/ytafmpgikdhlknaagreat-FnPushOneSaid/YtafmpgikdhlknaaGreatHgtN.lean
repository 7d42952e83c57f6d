
/- Heights of tilings, plainly: heights and tilings tell each other. -/
import Derived.Test.YtafmpgikdhlknaaGreatPotN
namespace Go.Proofs.YtafmpgikdhlknaaGreat
/-! Heights of tilings of a region, told by columns and rows. -/
def rho (x y : Int) : Int := if (x + y) % 2 = 0 then 1 else -1
theorem rho_or (x y : Int) : rho x y = 1 ∨ rho x y = -1 := by unfold rho; split <;> simp
theorem rho_x (x y : Int) : rho (x + 1) y = - rho x y := by
  unfold rho
  by_cases h : (x + y) % 2 = 0
  · rw [if_pos h, if_neg (by omega)]
  · rw [if_neg h, if_pos (by omega)]; rfl
theorem rho_y (x y : Int) : rho x (y + 1) = - rho x y := by
  unfold rho
  by_cases h : (x + y) % 2 = 0
  · rw [if_pos h, if_neg (by omega)]
  · rw [if_neg h, if_pos (by omega)]; rfl
theorem rho_x' (x y : Int) : rho (x - 1) y = - rho x y := by have := rho_x (x - 1) y; rw [show x - 1 + 1 = x by omega] at this; omega
theorem rho_y' (x y : Int) : rho x (y - 1) = - rho x y := by have := rho_y x (y - 1); rw [show y - 1 + 1 = y by omega] at this; omega
/-- a tiling of a region, by the directions of its cells -/
def IsTil (R : Int → Int → Bool) (D : Int → Int → Int) : Prop :=
  (∀ x y, R x y = true → (D x y = 1 ∧ R (x + 1) y = true ∧ D (x + 1) y = 3) ∨ (D x y = 2 ∧ R x (y + 1) = true ∧ D x (y + 1) = 4) ∨
    (D x y = 3 ∧ R (x - 1) y = true ∧ D (x - 1) y = 1) ∨ (D x y = 4 ∧ R x (y - 1) = true ∧ D x (y - 1) = 2)) ∧ ∀ x y, R x y = false → D x y = 0
/-- by how much heights grow along the side between a cell and the one in its south, and between a cell and the one in its west -/
def byH (D : Int → Int → Int) (x y : Int) : Int := if D x y = 4 then -3 * rho x y else rho x y
def byV (D : Int → Int → Int) (x y : Int) : Int := if D (x - 1) y = 1 then -3 * rho (x - 1) y else rho (x - 1) y
theorem til_mem {R : Int → Int → Bool} {D : Int → Int → Int} (h : IsTil R D) {x y : Int} (hd : D x y ≠ 0) : R x y = true := by
  cases hr : R x y with
  | true => rfl
  | false => exact absurd (h.2 x y hr) hd
theorem til_1 {R : Int → Int → Bool} {D : Int → Int → Int} (h : IsTil R D) {x y : Int} : D x y = 1 ↔ D (x + 1) y = 3 := by
  constructor
  · intro e
    rcases h.1 x y (til_mem h (by omega)) with ⟨_, _, a⟩ | ⟨a, _⟩ | ⟨a, _⟩ | ⟨a, _⟩ <;> omega
  · intro e
    rcases h.1 (x + 1) y (til_mem h (by omega)) with ⟨a, _⟩ | ⟨a, _⟩ | ⟨_, _, a⟩ | ⟨a, _⟩
    · omega
    · omega
    · rw [show x + 1 - 1 = x by omega] at a; exact a
    · omega
theorem til_2 {R : Int → Int → Bool} {D : Int → Int → Int} (h : IsTil R D) {x y : Int} : D x y = 2 ↔ D x (y + 1) = 4 := by
  constructor
  · intro e
    rcases h.1 x y (til_mem h (by omega)) with ⟨a, _⟩ | ⟨_, _, a⟩ | ⟨a, _⟩ | ⟨a, _⟩ <;> omega
  · intro e
    rcases h.1 x (y + 1) (til_mem h (by omega)) with ⟨a, _⟩ | ⟨a, _⟩ | ⟨a, _⟩ | ⟨_, _, a⟩
    · omega
    · omega
    · omega
    · rw [show y + 1 - 1 = y by omega] at a; exact a
theorem til_3 {R : Int → Int → Bool} {D : Int → Int → Int} (h : IsTil R D) {x y : Int} : D (x - 1) y = 1 ↔ D x y = 3 := by
  have := til_1 h (x := x - 1) (y := y); rw [show x - 1 + 1 = x by omega] at this; exact this
theorem til_4 {R : Int → Int → Bool} {D : Int → Int → Int} (h : IsTil R D) {x y : Int} : D x (y - 1) = 2 ↔ D x y = 4 := by
  have := til_2 h (x := x) (y := y - 1); rw [show y - 1 + 1 = y by omega] at this; exact this
theorem til_dir {R : Int → Int → Bool} {D : Int → Int → Int} (h : IsTil R D) {x y : Int} (hr : R x y = true) : D x y = 1 ∨ D x y = 2 ∨ D x y = 3 ∨ D x y = 4 := by
  rcases h.1 x y hr with ⟨a, _⟩ | ⟨a, _⟩ | ⟨a, _⟩ | ⟨a, _⟩ <;> omega
/-- around a cell the rises are nothing together -/
theorem til_round {R : Int → Int → Bool} {D : Int → Int → Int} (h : IsTil R D) {x y : Int} (hr : R x y = true) : byH D x y + byV D (x + 1) y - byH D x (y + 1) - byV D x y = 0 := by
  unfold byH byV
  have h1 := til_3 h (x := x) (y := y)
  have h2 := til_2 h (x := x) (y := y)
  have e1 := rho_x' x y
  have e2 := rho_y x y
  rw [show x + 1 - 1 = x by omega]
  rcases til_dir h hr with d | d | d | d
  · rw [if_neg (by omega), if_pos d, if_neg (by omega), if_neg (by omega)]; omega
  · rw [if_neg (by omega), if_neg (by omega), if_pos (by omega), if_neg (by omega)]; omega
  · rw [if_neg (by omega), if_neg (by omega), if_neg (by omega), if_pos (by omega)]; omega
  · rw [if_pos d, if_neg (by omega), if_neg (by omega), if_neg (by omega)]; omega
/-- heights that grow as a tiling says -/
def IsHgt (R : Int → Int → Bool) (D h : Int → Int → Int) : Prop := ∀ x y, R x y = true →
  h (x + 1) y - h x y = byH D x y ∧ h (x + 1) (y + 1) - h x (y + 1) = byH D x (y + 1) ∧ h x (y + 1) - h x y = byV D x y ∧ h (x + 1) (y + 1) - h (x + 1) y = byV D (x + 1) y
/-- heights that may be those of a tiling -/
def HgtOk (R : Int → Int → Bool) (h : Int → Int → Int) : Prop := ∀ x y, R x y = true →
  (h (x + 1) y - h x y = rho x y ∨ (R x (y - 1) = true ∧ h (x + 1) y - h x y = -3 * rho x y)) ∧
  (h (x + 1) (y + 1) - h x (y + 1) = rho x (y + 1) ∨ (R x (y + 1) = true ∧ h (x + 1) (y + 1) - h x (y + 1) = -3 * rho x (y + 1))) ∧
  (h x (y + 1) - h x y = rho (x - 1) y ∨ (R (x - 1) y = true ∧ h x (y + 1) - h x y = -3 * rho (x - 1) y)) ∧
  (h (x + 1) (y + 1) - h (x + 1) y = rho x y ∨ (R (x + 1) y = true ∧ h (x + 1) (y + 1) - h (x + 1) y = -3 * rho x y))
theorem IsHgt.ok {R : Int → Int → Bool} {D h : Int → Int → Int} (ht : IsTil R D) (hh : IsHgt R D h) : HgtOk R h := by
  intro x y hr
  obtain ⟨a, b, c, d⟩ := hh x y hr
  unfold byH at a b
  unfold byV at c d
  rw [show x + 1 - 1 = x by omega] at d
  refine ⟨?_, ?_, ?_, ?_⟩
  · by_cases e : D x y = 4
    · rw [if_pos e] at a; exact .inr ⟨til_mem ht (by have := (til_4 ht (x := x) (y := y)).2 e; omega), a⟩
    · rw [if_neg e] at a; exact .inl a
  · by_cases e : D x (y + 1) = 4
    · rw [if_pos e] at b; exact .inr ⟨til_mem ht (by omega), b⟩
    · rw [if_neg e] at b; exact .inl b
  · by_cases e : D (x - 1) y = 1
    · rw [if_pos e] at c; exact .inr ⟨til_mem ht (by omega), c⟩
    · rw [if_neg e] at c; exact .inl c
  · by_cases e : D x y = 1
    · rw [if_pos e] at d; exact .inr ⟨til_mem ht (by have := (til_1 ht (x := x) (y := y)).1 e; omega), d⟩
    · rw [if_neg e] at d; exact .inl d
/-- the direction of a cell by heights: the side that is crossed -/
def dirH (R : Int → Int → Bool) (h : Int → Int → Int) (x y : Int) : Int :=
  if R x y = true then
    (if h (x + 1) (y + 1) - h (x + 1) y = -3 * rho x y then 1 else if h (x + 1) (y + 1) - h x (y + 1) = 3 * rho x y then 2
      else if h x (y + 1) - h x y = 3 * rho x y then 3 else 4)
  else 0
theorem dirH_out {R : Int → Int → Bool} {h : Int → Int → Int} {x y : Int} (hr : R x y = false) : dirH R h x y = 0 := by unfold dirH; rw [hr]; rfl
/-- just one side of each cell is crossed -/
theorem dirH_cases {R : Int → Int → Bool} {h : Int → Int → Int} (ho : HgtOk R h) {x y : Int} (hr : R x y = true) :
    (dirH R h x y = 1 ∧ R (x + 1) y = true ∧ h (x + 1) (y + 1) - h (x + 1) y = -3 * rho x y ∧ h (x + 1) (y + 1) - h x (y + 1) = - rho x y ∧ h x (y + 1) - h x y = - rho x y ∧ h (x + 1) y - h x y = rho x y) ∨
    (dirH R h x y = 2 ∧ R x (y + 1) = true ∧ h (x + 1) (y + 1) - h (x + 1) y = rho x y ∧ h (x + 1) (y + 1) - h x (y + 1) = 3 * rho x y ∧ h x (y + 1) - h x y = - rho x y ∧ h (x + 1) y - h x y = rho x y) ∨
    (dirH R h x y = 3 ∧ R (x - 1) y = true ∧ h (x + 1) (y + 1) - h (x + 1) y = rho x y ∧ h (x + 1) (y + 1) - h x (y + 1) = - rho x y ∧ h x (y + 1) - h x y = 3 * rho x y ∧ h (x + 1) y - h x y = rho x y) ∨
    (dirH R h x y = 4 ∧ R x (y - 1) = true ∧ h (x + 1) (y + 1) - h (x + 1) y = rho x y ∧ h (x + 1) (y + 1) - h x (y + 1) = - rho x y ∧ h x (y + 1) - h x y = - rho x y ∧ h (x + 1) y - h x y = -3 * rho x y) := by
  obtain ⟨a, b, c, d⟩ := ho x y hr
  have e1 := rho_x' x y
  have e2 := rho_y x y
  rw [e2] at b
  rw [e1] at c
  have hro := rho_or x y
  unfold dirH
  rw [if_pos hr]
  generalize rho x y = r at *
  generalize h (x + 1) (y + 1) = h11 at *
  generalize h (x + 1) y = h10 at *
  generalize h x (y + 1) = h01 at *
  generalize h x y = h00 at *
  rcases a with a | ⟨ra, a⟩ <;> rcases b with b | ⟨rb, b⟩ <;> rcases c with c | ⟨rc, c⟩ <;> rcases d with d | ⟨rd, d⟩ <;>
    first
    | (exfalso; omega)
    | (refine .inl ⟨by rw [if_pos d], rd, d, by omega, by omega, by omega⟩)
    | (refine .inr (.inl ⟨by rw [if_neg (by omega), if_pos (by omega)], rb, by omega, by omega, by omega, by omega⟩))
    | (refine .inr (.inr (.inl ⟨by rw [if_neg (by omega), if_neg (by omega), if_pos (by omega)], rc, by omega, by omega, by omega, by omega⟩)))
    | (refine .inr (.inr (.inr ⟨by rw [if_neg (by omega), if_neg (by omega), if_neg (by omega)], ra, by omega, by omega, by omega, by omega⟩)))
/-- heights tell a tiling -/
theorem dirH_til {R : Int → Int → Bool} {h : Int → Int → Int} (ho : HgtOk R h) : IsTil R (dirH R h) := by
  refine ⟨fun x y hr => ?_, fun x y hr => dirH_out hr⟩
  have hro := rho_or x y
  have k1 := rho_x x y
  have k2 := rho_y x y
  have k3 := rho_x' x y
  have k4 := rho_y' x y
  rcases dirH_cases ho hr with ⟨a, r, b⟩ | ⟨a, r, b⟩ | ⟨a, r, b⟩ | ⟨a, r, b⟩
  · refine .inl ⟨a, r, ?_⟩
    rcases dirH_cases ho r with ⟨a', _, b'⟩ | ⟨a', _, b'⟩ | ⟨a', _, b'⟩ | ⟨a', _, b'⟩
    · omega
    · omega
    · exact a'
    · omega
  · refine .inr (.inl ⟨a, r, ?_⟩)
    rcases dirH_cases ho r with ⟨a', _, b'⟩ | ⟨a', _, b'⟩ | ⟨a', _, b'⟩ | ⟨a', _, b'⟩
    · omega
    · omega
    · omega
    · exact a'
  · refine .inr (.inr (.inl ⟨a, r, ?_⟩))
    rcases dirH_cases ho r with ⟨a', _, b'⟩ | ⟨a', _, b'⟩ | ⟨a', _, b'⟩ | ⟨a', _, b'⟩
    · exact a'
    · simp only [show x - 1 + 1 = x by omega] at b'; omega
    · simp only [show x - 1 + 1 = x by omega] at b'; omega
    · simp only [show x - 1 + 1 = x by omega] at b'; omega
  · refine .inr (.inr (.inr ⟨a, r, ?_⟩))
    rcases dirH_cases ho r with ⟨a', _, b'⟩ | ⟨a', _, b'⟩ | ⟨a', _, b'⟩ | ⟨a', _, b'⟩
    · simp only [show y - 1 + 1 = y by omega] at b'; omega
    · exact a'
    · simp only [show y - 1 + 1 = y by omega] at b'; omega
    · simp only [show y - 1 + 1 = y by omega] at b'; omega
theorem dirH_hgt {R : Int → Int → Bool} {h : Int → Int → Int} (ho : HgtOk R h) : IsHgt R (dirH R h) h := by
  intro x y hr
  have ht := dirH_til ho
  have hro := rho_or x y
  have k2 := rho_y x y
  have k3 := rho_x' x y
  have h1 := til_3 ht (x := x) (y := y)
  have h2 := til_2 ht (x := x) (y := y)
  unfold byH byV
  rw [show x + 1 - 1 = x by omega]
  rcases dirH_cases ho hr with ⟨a, _, b1, b2, b3, b4⟩ | ⟨a, _, b1, b2, b3, b4⟩ | ⟨a, _, b1, b2, b3, b4⟩ | ⟨a, _, b1, b2, b3, b4⟩
  · rw [if_neg (by omega), if_neg (by omega), if_neg (by omega), if_pos a]; exact ⟨by omega, by omega, by omega, by omega⟩
  · rw [if_neg (by omega), if_pos (by omega), if_neg (by omega), if_neg (by omega)]; exact ⟨by omega, by omega, by omega, by omega⟩
  · rw [if_neg (by omega), if_neg (by omega), if_pos (by omega), if_neg (by omega)]; exact ⟨by omega, by omega, by omega, by omega⟩
  · rw [if_pos a, if_neg (by omega), if_neg (by omega), if_neg (by omega)]; exact ⟨by omega, by omega, by omega, by omega⟩
/-- the tiling of its heights is a tiling itself -/
theorem dirH_eq {R : Int → Int → Bool} {D h : Int → Int → Int} (ht : IsTil R D) (hh : IsHgt R D h) (x y : Int) : dirH R h x y = D x y := by
  cases hr : R x y with
  | false => rw [dirH_out hr, ht.2 x y hr]
  | true =>
    obtain ⟨a, b, c, d⟩ := hh x y hr
    unfold byH at a b
    unfold byV at c d
    rw [show x + 1 - 1 = x by omega] at d
    have hro := rho_or x y
    have k2 := rho_y x y
    have k3 := rho_x' x y
    have h1 := til_3 ht (x := x) (y := y)
    have h2 := til_2 ht (x := x) (y := y)
    rcases dirH_cases (hh.ok ht) hr with ⟨e, _, b1, b2, b3, b4⟩ | ⟨e, _, b1, b2, b3, b4⟩ | ⟨e, _, b1, b2, b3, b4⟩ | ⟨e, _, b1, b2, b3, b4⟩
    · rw [e]
      by_cases f : D x y = 1
      · exact f.symm
      · rw [if_neg f] at d; omega
    · rw [e]
      by_cases f : D x (y + 1) = 4
      · rw [h2.2 f]
      · rw [if_neg f] at b; omega
    · rw [e]
      by_cases f : D (x - 1) y = 1
      · rw [h1.1 f]
      · rw [if_neg f] at c; omega
    · rw [e]
      by_cases f : D x y = 4
      · exact f.symm
      · rw [if_neg f] at a; omega
end Go.Proofs.YtafmpgikdhlknaaGreat
