/- Contracts: the way around a box. -/
import Derived.Test.YtcghbpnhdpmilaaApp
namespace Go.Proofs.Ytcghbpnhdpmilaa
open Go.RowKit

/-- the way around a box by columns and rows -/
def roundUp (f : Int → Int → Int) (k : Nat) : List Int := (List.range k).map fun y : Nat => f 0 (y : Int)
def roundX (wide m i : Nat) : Int := if m % 2 = 1 then (wide : Int) - (i : Int) else (i : Int)
def roundRow (wide tall : Nat) (f : Int → Int → Int) (m i : Nat) : List Int := (List.range i).map fun j => f (roundX wide m (j + 1)) ((tall : Int) - 1 - m)
def roundDown (wide tall : Nat) (f : Int → Int → Int) (m : Nat) : List Int := (List.range m).flatMap fun j => roundRow wide tall f j (wide - 1)
def roundN (wide tall : Nat) (f : Int → Int → Int) : List Int := roundUp f tall ++ roundDown wide tall f tall
theorem roundUp_succ (f : Int → Int → Int) (k : Nat) : roundUp f (k + 1) = roundUp f k ++ [f 0 k] := by simp [roundUp, List.range_succ]
theorem roundRow_succ (wide tall : Nat) (f : Int → Int → Int) (m i : Nat) : roundRow wide tall f m (i + 1) = roundRow wide tall f m i ++ [f (roundX wide m (i + 1)) ((tall : Int) - 1 - m)] := by simp [roundRow, List.range_succ]
theorem roundDown_succ (wide tall : Nat) (f : Int → Int → Int) (m : Nat) : roundDown wide tall f (m + 1) = roundDown wide tall f m ++ roundRow wide tall f m (wide - 1) := by simp [roundDown, List.range_succ]
theorem roundUp_len (f : Int → Int → Int) (k : Nat) : (roundUp f k).length = k := by simp [roundUp]
theorem roundRow_len (wide tall : Nat) (f : Int → Int → Int) (m i : Nat) : (roundRow wide tall f m i).length = i := by simp [roundRow]
theorem roundDown_len (wide tall : Nat) (f : Int → Int → Int) (m : Nat) : (roundDown wide tall f m).length = m * (wide - 1) := by
  induction m with
  | zero => simp [roundDown]
  | succ m ih => rw [roundDown_succ, List.length_append, ih, roundRow_len, Nat.succ_mul]
/-- what is there when m rows and j cells of the next one are done -/
def roundAcc (W T : Nat) (f : Int → Int → Int) (m j : Nat) : List Int := roundUp f T ++ roundDown W T f m ++ roundRow W T f m j
theorem roundAcc_up (W T : Nat) (f : Int → Int → Int) : roundAcc W T f 0 0 = roundUp f T := by simp [roundAcc, roundDown, roundRow]
theorem roundAcc_succ (W T : Nat) (f : Int → Int → Int) (m j : Nat) : roundAcc W T f m (j + 1) = roundAcc W T f m j ++ [f (roundX W m (j + 1)) ((T : Int) - 1 - m)] := by unfold roundAcc; rw [roundRow_succ, List.append_assoc]; simp
theorem roundAcc_next (W T : Nat) (f : Int → Int → Int) (m : Nat) : roundAcc W T f (m + 1) 0 = roundAcc W T f m (W - 1) := by unfold roundAcc; rw [roundDown_succ]; simp [roundRow]
theorem roundAcc_end (W T : Nat) (f : Int → Int → Int) : roundAcc W T f T 0 = roundN W T f := by unfold roundAcc roundN; simp [roundRow]
theorem roundAcc_len (W T : Nat) (f : Int → Int → Int) (m j : Nat) : (roundAcc W T f m j).length = T + m * (W - 1) + j := by
  unfold roundAcc; rw [List.length_append, List.length_append, roundUp_len, roundDown_len, roundRow_len]
def byRow (wide : Nat) (x y : Int) : Int := y * wide + x
def byCol (wide : Nat) (x y : Int) : Int := x * wide + y

theorem mul6 {a b : Int} (h1 : 0 ≤ a) (h2 : a ≤ 6) (h3 : 0 ≤ b) (h4 : b ≤ 6) : 0 ≤ a * b ∧ a * b ≤ 36 := by
  rcases (show a = 0 ∨ a = 1 ∨ a = 2 ∨ a = 3 ∨ a = 4 ∨ a = 5 ∨ a = 6 from by omega) with rfl | rfl | rfl | rfl | rfl | rfl | rfl <;> omega
theorem mul6n {a b : Nat} (h1 : a ≤ 6) (h2 : b ≤ 6) : a * b ≤ 36 := by
  rcases (show a = 0 ∨ a = 1 ∨ a = 2 ∨ a = 3 ∨ a = 4 ∨ a = 5 ∨ a = 6 from by omega) with rfl | rfl | rfl | rfl | rfl | rfl | rfl <;> omega

end Go.Proofs.Ytcghbpnhdpmilaa
