/- A box without two cells, plainly. -/
import Derived.Test.YtcghbpnhdpmilaaStepN
import Derived.Test.YtcghbpnhdpmilaaRoundOf
namespace Go.Proofs.Ytcghbpnhdpmilaa
open Go.RowKit

def layD (W T : Int) (l : List Int) (cell next d : Int) : List Int := if stepZ W T cell d = next then (l.set cell.toNat d).set next.toNat (backZ d) else l
/-- the directions up to d tried -/
def layTo (W T : Int) (l : List Int) (cell next : Int) : Nat → List Int
  | 0 => l
  | d + 1 => layD W T (layTo W T l cell next d) cell next ((d : Int) + 1)
def wayAt (X : List Int) (i : Nat) : Int := X.getD (i % X.length) 0
/-- the first m dominoes from a place on -/
def coverK (W T : Int) (X : List Int) (l : List Int) (fr : Nat) : Nat → List Int
  | 0 => l
  | m + 1 => layTo W T (coverK W T X l fr m) (wayAt X (fr + 2 * m)) (wayAt X (fr + 2 * m + 1)) 4
def coverL (W T : Int) (X : List Int) (l : List Int) (fr to : Nat) : List Int := coverK W T X l fr ((to - fr) / 2)
def idx (X : List Int) (a : Int) : Nat := X.idxOf a
def cutI (W T : Int) (X : List Int) (a b : Int) : List Int :=
  let f := min (idx X a) (idx X b)
  let s := max (idx X a) (idx X b)
  coverL W T X (coverL W T X (List.replicate X.length 0) (f + 1) s) (s + 1) (f + X.length)
def cutK (W T : Int) (X : List Int) (a b : Int) (at_ : Nat) : Nat → List Int
  | 0 => List.replicate X.length 0
  | m + 1 =>
    let l := cutK W T X a b at_ m
    let one := wayAt X (at_ + (m + 1))
    if one = a ∨ one = b ∨ l.getD one.toNat 0 ≠ 0 then l else layTo W T l one (wayAt X (at_ + (m + 1) + 1)) 4
def cutS (W T : Int) (X : List Int) (a b : Int) : List Int := cutK W T X a b (min (idx X a) (idx X b)) (X.length - 1)
def oddPair (W a b : Int) : Bool := (a % W + a / W + b % W + b / W) % 2 == 1
def cutEq (W T : Nat) : Bool := (List.range (W * T)).all fun a : Nat => (List.range (W * T)).all fun b : Nat => !oddPair W a b || (cutI W T (roundL W T) a b == cutS W T (roundL W T) a b)
def wayAll (W T : Nat) : Bool :=
  let X := roundL W T
  (X.length == W * T) && (X.all fun x => decide (0 ≤ x) && decide (x < (W : Int) * T)) && (List.range (W * T)).all fun c : Nat => X.contains (c : Int)
theorem way_all : ∀ W, W ≤ 6 → ∀ T, T ≤ 6 → roundOk (W : Nat) (T : Nat) = true → wayAll W T = true := by decide +kernel
theorem layD_len (W T : Int) (l : List Int) (c n d : Int) : (layD W T l c n d).length = l.length := by unfold layD; split <;> simp
theorem layTo_len (W T : Int) (l : List Int) (c n : Int) (d : Nat) : (layTo W T l c n d).length = l.length := by
  induction d with
  | zero => rfl
  | succ d ih => rw [layTo, layD_len, ih]
theorem coverK_len (W T : Int) (X l : List Int) (f m : Nat) : (coverK W T X l f m).length = l.length := by
  induction m with
  | zero => rfl
  | succ m ih => rw [coverK, layTo_len, ih]
theorem coverL_len (W T : Int) (X l : List Int) (f t : Nat) : (coverL W T X l f t).length = l.length := coverK_len _ _ _ _ _ _
theorem cutI_len (W T : Int) (X : List Int) (a b : Int) : (cutI W T X a b).length = X.length := by
  simp only [cutI, coverL_len, List.length_replicate]
theorem cutK_len (W T : Int) (X : List Int) (a b : Int) (t m : Nat) : (cutK W T X a b t m).length = X.length := by
  induction m with
  | zero => simp [cutK]
  | succ m ih =>
    simp only [cutK]
    split
    · exact ih
    · rw [layTo_len, ih]
/-- the place of a cell on the way -/
theorem idx_at {X : List Int} {a : Int} (h : a ∈ X) : ∃ (hk : idx X a < X.length), X[idx X a] = a := by
  have hk : X.idxOf a < X.length := List.idxOf_lt_length_iff.2 h
  exact ⟨hk, List.getElem_idxOf hk⟩
theorem idx_not {X : List Int} {a : Int} {j : Nat} (hj : j < idx X a) (hl : j < X.length) : X[j] ≠ a := by
  intro e
  have := List.not_of_lt_findIdx (p := (· == a)) (xs := X) (i := j) hj
  simp [e] at this
theorem way_in {W T : Nat} {a : Int} (hg : wayAll W T = true) (h0 : 0 ≤ a) (h1 : a < (W : Int) * T) : a ∈ roundL W T := by
  unfold wayAll at hg
  simp only [Bool.and_eq_true] at hg
  obtain ⟨n, rfl⟩ := Int.eq_ofNat_of_zero_le h0
  have hn : n < W * T := by rw [← Int.natCast_mul] at h1; omega
  have := List.all_eq_true.1 hg.2 n (List.mem_range.2 hn)
  simpa using this
theorem way_bd {W T : Nat} (hg : wayAll W T = true) : (roundL W T).length = W * T ∧ ∀ x ∈ roundL W T, 0 ≤ x ∧ x < (W : Int) * T := by
  unfold wayAll at hg
  simp only [Bool.and_eq_true] at hg
  refine ⟨by simpa using hg.1.1, fun x hx => ?_⟩
  have := List.all_eq_true.1 hg.1.2 x hx
  simpa using this
theorem wayAt_at {X : List Int} {n i q : Nat} (hn : X.length = n) (hq : i % n = q) (hl : q < X.length) : wayAt X i = X[q] := by
  subst hn; subst hq; simp [wayAt, List.getD_eq_getElem?_getD, List.getElem?_eq_getElem hl]
end Go.Proofs.Ytcghbpnhdpmilaa
