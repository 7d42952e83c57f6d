/- Lists of lists of cells: how they read; copies, comparison, sizes; such an argument opened. -/
import Derived.Test.YtcghbpnhdpmilaaCells
import Derived.Test.YtcghbpnhdpmilaaPieceS
namespace Go.Proofs.Ytcghbpnhdpmilaa
open Go.RowKit

/-- a slice that reads as lists of cells -/
def RdSS (w : World) (A : Option Addr) (pss : List (List Ce)) : Prop :=
  ∀ k (h : k < pss.length), ∃ (b off : Nat) (A' : Option Addr) (c' : Nat), A = some ⟨b, off, none⟩ ∧ w.cell? ⟨b, off + k, none⟩ = some (.slice A' pss[k].length c') ∧ pss[k].length ≤ c' ∧ pss[k].length ≤ maxLen ∧ RdC w A' pss[k]
theorem RdSS.belo {w w' : World} {A : Option Addr} {pss : List (List Ce)} (h : RdSS w A pss) (hb : Below w.heap.size w w') : RdSS w' A pss := fun k hk => by
  obtain ⟨b, off, A', c', e, h1, h2, h3, h4⟩ := h k hk
  exact ⟨b, off, A', c', e, ((bcell hb).1 _ _ (World.block_lt_of_cell? w _ h1)).trans h1, h2, h3, h4.belo hb⟩
/-- all of them pieces -/
noncomputable def piecesB (pss : List (List Ce)) : Bool := @decide (∀ ps ∈ pss, pieceB ps = true) (Classical.propDecidable _)
theorem piecesB_t {pss : List (List Ce)} (h : ∀ k (hk : k < pss.length), k < pss.length → pieceB pss[k] = true) : piecesB pss = true := by
  unfold piecesB; exact @decide_eq_true _ (Classical.propDecidable _) (fun ps hp => by obtain ⟨j, hj, e⟩ := List.getElem_of_mem hp; rw [← e]; exact h j hj hj)
theorem piecesB_f {pss : List (List Ce)} (k : Nat) (hk : k < pss.length) (h : pieceB pss[k] = false) : piecesB pss = false := by
  unfold piecesB; exact @decide_eq_false _ (Classical.propDecidable _) (fun hh => by have := hh _ (List.getElem_mem hk); rw [h] at this; cases this)
end Go.Proofs.Ytcghbpnhdpmilaa
