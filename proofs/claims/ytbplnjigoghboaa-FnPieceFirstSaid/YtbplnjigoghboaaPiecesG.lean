/- All pieces of so many cells, plainly: how far the listing is. -/
import Derived.Test.YtbplnjigoghboaaPiecesN
namespace Go.Proofs.Ytbplnjigoghboaa

noncomputable def cellG (p : List Ce) (c : Ce) : List (List Ce) := (newsC p c).map fun x => firstV (p ++ [x])
noncomputable def gD (p : List Ce) (c : Ce) (d : Nat) : List (List Ce) := (((nearC c).take d).filter fun x => !decide (x ∈ p)).map fun x => firstV (p ++ [x])
theorem near_len (c : Ce) : (nearC c).length = 4 := rfl
theorem gD_zero (p : List Ce) (c : Ce) : gD p c 0 = [] := rfl
theorem gD_four (p : List Ce) (c : Ce) : gD p c 4 = cellG p c := rfl
theorem gD_in {p : List Ce} {c x : Ce} {d : Nat} (hd : d < 4) (hx : (nearC c)[d]'(by rw [near_len]; exact hd) = x) (h : decide (x ∈ p) = true) : gD p c (d + 1) = gD p c d := by
  unfold gD
  rw [take_one_more (nearC c) d (by rw [near_len]; exact hd), hx, List.filter_append, List.map_append]
  simp [h]
theorem gD_out {p : List Ce} {c x : Ce} {d : Nat} (hd : d < 4) (hx : (nearC c)[d]'(by rw [near_len]; exact hd) = x) (h : decide (x ∈ p) = false) : gD p c (d + 1) = gD p c d ++ [firstV (p ++ [x])] := by
  unfold gD
  rw [take_one_more (nearC c) d (by rw [near_len]; exact hd), hx, List.filter_append, List.map_append]
  simp [h]
noncomputable def gJ (p : List Ce) (j : Nat) : List (List Ce) := (p.take j).flatMap (cellG p)
theorem gJ_zero (p : List Ce) : gJ p 0 = [] := rfl
theorem gJ_step {p : List Ce} {c : Ce} {j : Nat} (h : j < p.length) (hc : p[j] = c) : gJ p (j + 1) = gJ p j ++ cellG p c := by
  unfold gJ
  rw [take_one_more p j h, List.flatMap_append, hc]
  simp
theorem gJ_all (p : List Ce) : gJ p p.length = growV p := by
  unfold gJ growV
  rw [List.take_length]
  rfl
noncomputable def gI (L : List (List Ce)) (i : Nat) : List (List Ce) := (L.take i).flatMap growV
theorem gI_zero (L : List (List Ce)) : gI L 0 = [] := rfl
theorem gI_step {L : List (List Ce)} {p : List Ce} {i : Nat} (h : i < L.length) (hp : L[i] = p) : gI L (i + 1) = gI L i ++ growV p := by
  unfold gI
  rw [take_one_more L i h, List.flatMap_append, hp]
  simp
theorem gI_all (L : List (List Ce)) : gI L L.length = growL L := by
  unfold gI growL
  rw [List.take_length]
/-- the four ways -/
def dirsC : List Ce := [(1, 0), (0, 1), (-1, 0), (0, -1)]
theorem near_dir (c : Ce) {d : Nat} (hd : d < 4) (h2 : d < dirsC.length) : (nearC c)[d]'(by rw [near_len]; exact hd) = (c.1 + dirsC[d].1, c.2 + dirsC[d].2) ∧ -1 ≤ dirsC[d].1 ∧ dirsC[d].1 ≤ 1 ∧ -1 ≤ dirsC[d].2 ∧ dirsC[d].2 ≤ 1 := by
  have : d = 0 ∨ d = 1 ∨ d = 2 ∨ d = 3 := by omega
  rcases this with rfl | rfl | rfl | rfl <;> simp [nearC, dirsC] <;> omega
theorem allP_lens {n : Nat} (h1 : 1 ≤ n) (h5 : n ≤ 5) : 1 ≤ (allP n).length ∧ (allP n).length ≤ 12 := by
  obtain ⟨a, b, c, d, e⟩ := all_len
  have : n = 1 ∨ n = 2 ∨ n = 3 ∨ n = 4 ∨ n = 5 := by omega
  rcases this with rfl | rfl | rfl | rfl | rfl <;> omega
theorem grow_pos {n : Nat} (h1 : 1 ≤ n) (h4 : n ≤ 4) : 1 ≤ (growL (allP n)).length := by
  rcases Nat.eq_zero_or_pos (growL (allP n)).length with h | h
  · exfalso
    have h0 : growL (allP n) = [] := List.eq_nil_of_length_eq_zero h
    obtain ⟨m, rfl⟩ : ∃ m, n = m + 1 := ⟨n - 1, by omega⟩
    have h2 : allP (m + 2) = incOf (growL (allP (m + 1))) := rfl
    have h3 := (allP_lens (n := m + 2) (by omega) (by omega)).1
    rw [h2, h0] at h3
    simp [incOf] at h3
  · exact h
theorem grow_each {n : Nat} (h1 : 1 ≤ n) (h4 : n ≤ 4) {q : List Ce} (h : q ∈ growL (allP n)) : q.length = n + 1 := by
  obtain ⟨m, rfl⟩ : ∃ m, n = m + 1 := ⟨n - 1, by omega⟩
  have h2 : q ∈ allP (m + 2) := by
    show q ∈ incOf (growL (allP (m + 1)))
    rw [incOf_mem]; exact h
  exact (allP_ok (m + 2) (by omega) q h2).len
/-- all pieces of so many cells; none for other numbers -/
noncomputable def allV (m : Int) : List (List Ce) := if 1 ≤ m ∧ m ≤ 5 then allP m.toNat else []
theorem allV_len (m : Int) : (allV m).length ≤ 12 := by
  unfold allV
  split
  · rename_i h
    exact (allP_lens (n := m.toNat) (by omega) (by omega)).2
  · simp
theorem allV_each (m : Int) : ∀ x ∈ allV m, x.length ≤ 5 := by
  intro x hx
  unfold allV at hx
  split at hx
  · rename_i h
    have := (allP_ok m.toNat (by omega) x hx).len
    omega
  · simp at hx
end Go.Proofs.Ytbplnjigoghboaa
