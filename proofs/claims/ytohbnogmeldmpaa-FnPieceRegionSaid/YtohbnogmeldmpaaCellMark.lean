
/- Slices of cells that may be written: marks. -/
import Derived.Test.YtohbnogmeldmpaaCells
import Derived.Test.YtohbnogmeldmpaaCellApp
namespace Go.Proofs.Ytohbnogmeldmpaa
open Go.RowKit

theorem Wr.of_ownC {w : World} {lo : Nat} {e : TypeId} {A : Option Addr} {size n c : Nat} {xs : List Value} (h : w.ownsRow lo e size (.slice A n c) n xs) : Wr w lo e A xs := by
  refine ⟨fun ad ha => ?_, fun hne => ?_⟩
  · subst ha; exact (h.lt ad.block rfl).1
  have hl : xs.length = n * size := h.1
  rcases h.2 with ⟨_, h0⟩ | ⟨g, cap, cur, hv, hg, hh, _, _, _, ht⟩
  · subst h0; exact absurd (List.eq_nil_of_length_eq_zero (by simpa using hl)) hne
  · have hA : A = some ⟨g, 0, none⟩ := by injection hv
    exact ⟨g, cur, hA, hh, by rw [hl]; exact ht⟩
theorem set_grown (w : World) (g k : Nat) (u : Value) : w.grownBy (w.setCell ⟨g, k, none⟩ u) (some g) :=
  ⟨rfl, rfl, rfl, by simp [World.setCell], fun i _ hn => Below.heap_setCell _ _ _ _ (fun e => hn (by simp [e]))⟩
/-- a new slice of cells that may be written -/
def NewC (ps : List Ce) (w : World) (e : Ending) (w' : World) : Prop :=
  ∃ A : Option Addr, e = .returned (.slice A ps.length ps.length) ∧ Wr w' w.heap.size 42 A (cellsV ps) ∧ Below w.heap.size w w'
/-- a slice of cells that may be read -/
def NewRdC (ps : List Ce) (w : World) (e : Ending) (w' : World) : Prop :=
  ∃ (A : Option Addr) (c : Nat), e = .returned (.slice A ps.length c) ∧ RdC w' A ps ∧ Below w.heap.size w w' ∧ ∀ ad, A = some ad → w.heap.size ≤ ad.block
theorem own_ltS {w : World} {base e size n c : Nat} {A : Option Addr} {xs : List Value} (h : w.ownsRow base e size (.slice A n c) n xs) : ∀ ad, A = some ad → ad.block < w.heap.size := by
  rintro ad rfl; exact (h.lt ad.block rfl).2
theorem OwnC.newRd {w0 w : World} {base : Nat} {v : Value} {ps : List Ce} (h : OwnC w base v ps) (hb : Below w0.heap.size w0 w) (hB : w0.heap.size ≤ base) : NewRdC ps w0 (.returned v) w := by
  obtain ⟨A, c, e, h'⟩ := id h; subst e
  exact ⟨A, c, rfl, h.rd, hb, fun ad ha => by subst ha; have := (h'.lt ad.block rfl).1; omega⟩
end Go.Proofs.Ytohbnogmeldmpaa
