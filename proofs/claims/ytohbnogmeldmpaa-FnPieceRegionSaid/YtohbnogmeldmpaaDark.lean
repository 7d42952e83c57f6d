
/- Contracts: dark cells. -/
import Derived.Test.YtohbnogmeldmpaaColour
import Derived.Test.YtohbnogmeldmpaaApp
namespace Go.Proofs.Ytohbnogmeldmpaa
open Go.RowKit

def darkB (W c : Int) : Bool := (c % W + c / W) % 2 == 0
/-- the numbers with a property, in order -/
def pickTo (p : Nat → Bool) (k : Nat) : List Int := ((List.range k).filter p).map fun i : Nat => (i : Int)
theorem pick_t {p : Nat → Bool} {k : Nat} (h : p k = true) : pickTo p (k + 1) = pickTo p k ++ [(k : Int)] := by
  unfold pickTo; rw [List.range_succ, List.filter_append]; simp [h]
theorem pick_f {p : Nat → Bool} {k : Nat} (h : p k = false) : pickTo p (k + 1) = pickTo p k := by
  unfold pickTo; rw [List.range_succ, List.filter_append]; simp [h]
theorem pick_len (p : Nat → Bool) (k : Nat) : (pickTo p k).length ≤ k := by
  unfold pickTo; rw [List.length_map]; have := List.length_filter_le p (List.range k); simpa using this
/-- whether a cell of the region is dark, or light -/
def isCol (W : Int) (bs : List Bool) (d : Bool) (i : Nat) : Bool := bs.getD i false && (darkB W i == d)
theorem isCol_f {W : Int} {bs : List Bool} {d : Bool} {k : Nat} (hk : k < bs.length) (h : bs[k] = false) : isCol W bs d k = false := by
  unfold isCol; rw [List.getD_eq_getElem?_getD, List.getElem?_eq_getElem hk]; simp [h]
theorem isCol_t {W : Int} {bs : List Bool} {d : Bool} {k : Nat} (hk : k < bs.length) (h : bs[k] = true) : isCol W bs d k = (darkB W k == d) := by
  unfold isCol; rw [List.getD_eq_getElem?_getD, List.getElem?_eq_getElem hk]; simp [h]
def darkL (W : Int) (bs : List Bool) (d : Bool) : List Int := pickTo (isCol W bs d) bs.length


/-- what is returned for a region that is not valid -/
def darkV (W T : Int) (bs : List Bool) : List Int := if validB W T bs = true then darkL W bs true else []

theorem darkV_len (W T : Int) (bs : List Bool) {n : Nat} (h : bs.length ≤ n) : (darkV W T bs).length ≤ n := by
  unfold darkV
  split
  · exact Nat.le_trans (pick_len _ _) h
  · simp
end Go.Proofs.Ytohbnogmeldmpaa
