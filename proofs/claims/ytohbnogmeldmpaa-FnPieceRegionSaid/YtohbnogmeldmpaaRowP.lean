
/- A row of the call's own, written over in the sort's words. -/
import Derived.Test.YtohbnogmeldmpaaCell
import Derived.Shelf.GgSortFunc.InsertionK
namespace Go.Proofs.Ytohbnogmeldmpaa
open Go.RowKit Go.Sort

theorem putRow_block {α : Type} [Inhabited α] (enc : α → Value) (w : World) (g off q : Nat) (d : Array α) (os : Array Obj) {cur : Array Value} {e : TypeId} {fz : Nat × Nat} (h : w.heap[g]? = some (.cells cur e fz)) :
    (grow (putRow enc (Sort.ahead w q) g off d) os).heap[g]? = some (.cells (putCells enc off d cur) e fz) := by
  have hlt : g < w.heap.size := (Array.getElem?_eq_some_iff.1 h).1
  show ((w.heap.modify g _) ++ os)[g]? = _
  rw [Array.getElem?_append_left (by simpa using hlt), Array.getElem?_modify, if_pos rfl, h]
  rfl
theorem putRow_other {α : Type} [Inhabited α] (enc : α → Value) (w : World) (g off q : Nat) (d : Array α) (os : Array Obj) (k : Nat) (hk : k < w.heap.size) (hne : k ≠ g) :
    (grow (putRow enc (Sort.ahead w q) g off d) os).heap[k]? = w.heap[k]? := by
  show ((w.heap.modify g _) ++ os)[k]? = _
  rw [Array.getElem?_append_left (by simpa using hk), Array.getElem?_modify, if_neg (Ne.symm hne)]
theorem below_putRow {α : Type} [Inhabited α] (enc : α → Value) {B : Nat} {w0 w : World} (hb : Below B w0 w) {g : Nat} (hg : B ≤ g) (hB : B ≤ w.heap.size) (off q : Nat) (d : Array α) (os : Array Obj) :
    Below B w0 (grow (putRow enc (Sort.ahead w q) g off d) os) := by
  refine hb.trans ⟨rfl, rfl, rfl, ?_, fun k hk => putRow_other enc w g off q d os k (by omega) (by omega)⟩
  show w.heap.size ≤ ((w.heap.modify g _) ++ os).size
  simp
theorem putCells_take (cur : Array Value) (d : Array Value) (m : Nat) (hd : d.size = m) (hm : m ≤ cur.size) : (putCells id 0 d cur).toList.take m = d.toList := by
  apply List.ext_getElem?
  intro k
  rw [List.getElem?_take]
  by_cases hk : k < m
  · rw [if_pos hk]
    have h1 : k < cur.size := by omega
    have h2 : k < d.size := by omega
    rw [Array.getElem?_toList, Array.getElem?_toList]
    unfold putCells
    rw [Array.getElem?_mapIdx, Array.getElem?_eq_getElem h1, Array.getElem?_eq_getElem h2, Option.map_some, if_pos ⟨by omega, by omega⟩]
    simp [h2]
  · rw [if_neg hk, Array.getElem?_toList, Array.getElem?_eq_none (by omega)]
/-- an owned row written over whole -/
theorem own_putRow {w : World} {base : Nat} {e : TypeId} {size g n c : Nat} {xs : List Value} (h : w.ownsRow base e size (.slice (some ⟨g, 0, none⟩) n c) n xs) (ys : Array Value) (hy : ys.size = xs.length) (q : Nat) (os : Array Obj) :
    (grow (putRow id (Sort.ahead w q) g 0 ys) os).ownsRow base e size (.slice (some ⟨g, 0, none⟩) n c) n ys.toList := by
  obtain ⟨h1, h2⟩ := h
  refine ⟨by simpa [hy] using h1, ?_⟩
  rcases h2 with ⟨e1, _⟩ | ⟨g', cap, cur, hv, hg, hh, h3, h4, h5, h6⟩
  · cases e1
  · injection hv with hA hn hc
    injection hA with hA
    injection hA with hg2
    subst hg2; subst hc
    refine .inr ⟨g, c, putCells id 0 ys cur, rfl, hg, putRow_block id w g 0 q ys os hh, h3, h4, by simpa [putCells] using h5, ?_⟩
    have hle : n * size ≤ cur.size := by rw [h5]; exact Nat.mul_le_mul_right _ h3
    exact putCells_take cur ys (n * size) (by rw [hy, h1]) hle
theorem own_holds {w : World} {base : Nat} {e : TypeId} {size g n c : Nat} {xs : List Value} (h : w.ownsRow base e size (.slice (some ⟨g, 0, none⟩) n c) n xs) : Holds id w g 0 xs.toArray := by
  intro j hj
  have hj' : j < xs.length := by simpa using hj
  obtain ⟨h1, h2⟩ := h
  rcases h2 with ⟨e1, _⟩ | ⟨g', cap, cur, hv, hg, hh, h3, h4, h5, h6⟩
  · cases e1
  · injection hv with hA hn hc
    injection hA with hA
    injection hA with hg2
    subst hg2
    rw [Nat.zero_add]
    refine ⟨?_, frozen_of_row w g j cur e hh⟩
    rw [cell_of_row w g j cur e (0, 0) hh]
    have : xs[j]? = cur[j]? := by
      rw [← h6, List.getElem?_take, if_pos (by omega)]; simp
    rw [← this]
    simp [hj']
/-! ### Cells -/
def encC (c : Ce) : List Value := [.int .i64 c.1, .int .i64 c.2]
theorem encC_len (c : Ce) : (encC c).length = 2 := rfl
theorem encC_one (c : Ce) : ∀ v ∈ encC c, v.oneCell' = true := by intro v hv; simp [encC] at hv; rcases hv with rfl | rfl <;> rfl
theorem flatK_cells (ps : List Ce) : flatK encC 2 ps.toArray = (cellsV ps).toArray := by
  apply Array.ext
  · simp [cellsV_len]
  · intro t h1 h2
    have ht : t < ps.length * 2 := by simpa using h1
    have hk : t / 2 < ps.length := by omega
    obtain ⟨g0, g1⟩ := cellsV_get ps (t / 2) hk
    have e1 : (flatK encC 2 ps.toArray)[t] = (encC ps[t / 2])[t % 2]! := by
      have := get_flatK encC 2 ps.toArray t (by simpa using ht)
      rw [getElem!_pos _ t h1] at this
      rw [this]
      simp [hk]
    rw [e1]
    rcases Nat.mod_two_eq_zero_or_one t with hp | hp
    · have et : t / 2 * 2 = t := by omega
      rw [et] at g0
      rw [hp]
      have : (cellsV ps)[t]? = some (cellsV ps).toArray[t] := by simp
      rw [g0] at this
      injection this with this
    · have et : t / 2 * 2 + 1 = t := by omega
      rw [et] at g1
      rw [hp]
      have : (cellsV ps)[t]? = some (cellsV ps).toArray[t] := by simp
      rw [g1] at this
      injection this with this
theorem own_holdsC {w : World} {base g c : Nat} {e : TypeId} {ps : List Ce} (h : w.ownsRow base e 2 (.slice (some ⟨g, 0, none⟩) ps.length c) ps.length (cellsV ps)) : HoldsK encC 2 w g 0 ps.toArray := by
  unfold HoldsK
  rw [flatK_cells]
  exact own_holds h
theorem own_sortC {w : World} {base g c : Nat} {e : TypeId} {ps : List Ce} (h : w.ownsRow base e 2 (.slice (some ⟨g, 0, none⟩) ps.length c) ps.length (cellsV ps)) (qs : List Ce) (hq : qs.length = ps.length) (m : Nat) (os : Array Obj) :
    (sortWorldK encC 2 w g 0 m qs.toArray os).ownsRow base e 2 (.slice (some ⟨g, 0, none⟩) ps.length c) ps.length (cellsV qs) := by
  unfold sortWorldK putRowK
  rw [flatK_cells]
  exact own_putRow h (cellsV qs).toArray (by simp [cellsV_len, hq]) m os
theorem below_sortC {B : Nat} {w0 w : World} (hb : Below B w0 w) {g : Nat} (hg : B ≤ g) (hB : B ≤ w.heap.size) (m : Nat) (qs : Array Ce) (os : Array Obj) : Below B w0 (sortWorldK encC 2 w g 0 m qs os) := below_putRow id hb hg hB 0 m _ os
end Go.Proofs.Ytohbnogmeldmpaa
