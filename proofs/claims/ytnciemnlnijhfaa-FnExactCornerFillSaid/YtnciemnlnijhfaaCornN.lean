/- A square filled by corners, plainly: the program and the reference fill it alike. -/
namespace Go.Proofs.Ytnciemnlnijhfaa
/-- a square filled by corners, as the program goes: the pieces of a square first, then its quarters -/
def crnIn (x y h gx gy q : Nat) : Bool := (decide (x + h ≤ gx) == decide (q % 2 = 1)) && (decide (y + h ≤ gy) == decide (q / 2 = 1))
def crnX (x y h gx gy q : Nat) : Nat × Nat := if crnIn x y h gx gy q = true then (gx, gy) else (x + h - 1 + q % 2, y + h - 1 + q / 2)
def crnF (side x y h gx gy : Nat) (v : Int) (F : List Int) (q : Nat) : List Int := if crnIn x y h gx gy q = true then F else F.set ((y + h - 1 + q / 2) * side + (x + h - 1 + q % 2)) v
def crnL (side x y h gx gy : Nat) (v : Int) (F : List Int) : Nat → List Int
  | 0 => F
  | q + 1 => crnF side x y h gx gy v (crnL side x y h gx gy v F q) q
/-- level f: a square of the side 2^f -/
def crnI (side : Nat) : Nat → Nat → Nat → Nat → Nat → List Int × Int → List Int × Int
  | 0, _, _, _, _, s => s
  | f + 1, x, y, gx, gy, (F, n) =>
    (List.range 4).foldl (fun s q => crnI side f (x + q % 2 * 2 ^ f) (y + q / 2 * 2 ^ f) (crnX x y (2 ^ f) gx gy q).1 (crnX x y (2 ^ f) gx gy q).2 s) (crnL side x y (2 ^ f) gx gy n F 4, n + 1)
/-- as the reference goes: quarter by quarter -/
def crnS (side : Nat) : Nat → Nat → Nat → Nat → List Int × Int → List Int × Int
  | 0, _, _, _, s => s
  | f + 1, x, y, hole, (F, n) =>
    (List.range 4).foldl (fun s q =>
      if (x + q % 2 * 2 ^ f ≤ hole % side ∧ hole % side < x + q % 2 * 2 ^ f + 2 ^ f) ∧ (y + q / 2 * 2 ^ f ≤ hole / side ∧ hole / side < y + q / 2 * 2 ^ f + 2 ^ f)
      then crnS side f (x + q % 2 * 2 ^ f) (y + q / 2 * 2 ^ f) hole s
      else crnS side f (x + q % 2 * 2 ^ f) (y + q / 2 * 2 ^ f) ((y + 2 ^ f - 1 + q / 2) * side + (x + 2 ^ f - 1 + q % 2)) (s.1.set ((y + 2 ^ f - 1 + q / 2) * side + (x + 2 ^ f - 1 + q % 2)) n, s.2)) (F, n + 1)
theorem crnL_len (side x y h gx gy : Nat) (v : Int) (F : List Int) : ∀ q, (crnL side x y h gx gy v F q).length = F.length
  | 0 => rfl
  | q + 1 => by
    show (crnF side x y h gx gy v (crnL side x y h gx gy v F q) q).length = _
    unfold crnF
    split
    · exact crnL_len side x y h gx gy v F q
    · rw [List.length_set]; exact crnL_len side x y h gx gy v F q
theorem crn_lenQ (side : Nat) : ∀ (f x y gx gy : Nat) (s : List Int × Int), (crnI side f x y gx gy s).1.length = s.1.length
  | 0, _, _, _, _, _ => rfl
  | f + 1, x, y, gx, gy, (F, n) => by
    have key : ∀ (l : List Nat) (s : List Int × Int), (l.foldl (fun s q => crnI side f (x + q % 2 * 2 ^ f) (y + q / 2 * 2 ^ f) (crnX x y (2 ^ f) gx gy q).1 (crnX x y (2 ^ f) gx gy q).2 s) s).1.length = s.1.length := by
      intro l
      induction l with
      | nil => intro s; rfl
      | cons a l ih => intro s; rw [List.foldl_cons, ih, crn_lenQ side f]
    exact (key _ _).trans (crnL_len _ _ _ _ _ _ _ _ _)
theorem crn_len (side f x y gx gy N : Nat) (n : Int) : (crnI side f x y gx gy (List.replicate N (-1), n)).1.length = N := by rw [crn_lenQ]; simp
theorem crn_eq : ∀ f ∈ [0, 1, 2], ∀ cell ∈ List.range (2 ^ f * 2 ^ f), (crnI (2 ^ f) f 0 0 (cell % 2 ^ f) (cell / 2 ^ f) (List.replicate (2 ^ f * 2 ^ f) (-1), 0)).1 = (crnS (2 ^ f) f 0 0 cell (List.replicate (2 ^ f * 2 ^ f) (-1), 0)).1 := by decide +kernel
end Go.Proofs.Ytnciemnlnijhfaa
