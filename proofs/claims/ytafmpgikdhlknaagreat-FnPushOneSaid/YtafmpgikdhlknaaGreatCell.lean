
/- Slices of cells (two numbers each); connected pieces, plainly. -/
import Derived.Test.YtafmpgikdhlknaaGreatApp
namespace Go.Proofs.YtafmpgikdhlknaaGreat
open Go.RowKit

abbrev Ce := Int × Int
def cellsV (ps : List Ce) : List Value := ps.flatMap fun c => [.int .i64 c.1, .int .i64 c.2]
theorem cellsV_len (ps : List Ce) : (cellsV ps).length = ps.length * 2 := by
  induction ps with
  | nil => rfl
  | cons a l ih => unfold cellsV at ih ⊢; rw [List.flatMap_cons, List.length_append, ih, List.length_cons]; simp; omega
theorem cellsV_append (a b : List Ce) : cellsV (a ++ b) = cellsV a ++ cellsV b := by unfold cellsV; rw [List.flatMap_append]
theorem cellsV_get (ps : List Ce) (k : Nat) (h : k < ps.length) : (cellsV ps)[k * 2]? = some (.int .i64 ps[k].1) ∧ (cellsV ps)[k * 2 + 1]? = some (.int .i64 ps[k].2) := by
  induction ps generalizing k with
  | nil => simp at h
  | cons a l ih =>
    have e : cellsV (a :: l) = .int .i64 a.1 :: .int .i64 a.2 :: cellsV l := rfl
    cases k with
    | zero => rw [e]; exact ⟨rfl, rfl⟩
    | succ k =>
      have := ih k (by simpa using h)
      rw [e, show (k + 1) * 2 = k * 2 + 2 by omega, show k * 2 + 2 + 1 = (k * 2 + 1) + 2 by omega]
      exact this
/-- a slice that reads as cells -/
def RdC (w : World) (A : Option Addr) (ps : List Ce) : Prop := Rd w A (cellsV ps)
theorem add_off (b off n : Nat) : (⟨b, off, none⟩ : Addr).add n = ⟨b, off + n, none⟩ := by unfold Addr.add; split <;> simp_all
theorem RdC.at_ {w : World} {A : Option Addr} {ps : List Ce} (h : RdC w A ps) {k : Nat} (hk : k < ps.length) :
    ∃ b off, A = some ⟨b, off, none⟩ ∧ w.cell? ⟨b, off + k * 2, none⟩ = some (.int .i64 ps[k].1) ∧ w.cell? ⟨b, off + k * 2 + 1, none⟩ = some (.int .i64 ps[k].2) := by
  obtain ⟨ad, e, hc⟩ := h (by intro e; have := cellsV_len ps; rw [e] at this; simp at this; omega)
  obtain ⟨h1, h2⟩ := cellsV_get ps k hk
  obtain ⟨z1, -⟩ := cellsV_get ps 0 (by omega)
  have h0 := hc _ _ z1
  rw [add_zero'] at h0
  have hs := World.cell?_spot h0
  obtain ⟨b, off, spot⟩ := ad
  simp only at hs
  subst hs
  have e1 := hc _ _ h1
  have e2 := hc _ _ h2
  rw [add_off] at e1 e2
  exact ⟨b, off, e, e1, e2⟩

/-! ### Connected pieces -/
/-- side by side -/
def adjC (a b : Ce) : Prop := (a.1 = b.1 ∧ (a.2 - b.2 = 1 ∨ a.2 - b.2 = -1)) ∨ (a.2 = b.2 ∧ (a.1 - b.1 = 1 ∨ a.1 - b.1 = -1))
instance (a b : Ce) : Decidable (adjC a b) := by unfold adjC; exact inferInstance
def closedC (p L : List Ce) : Prop := ∀ a ∈ L, ∀ b ∈ p, adjC b a → b ∈ L
inductive ReachC (p : List Ce) (s : Ce) : Ce → Prop
  | base : ReachC p s s
  | step (a b : Ce) : ReachC p s a → b ∈ p → adjC b a → ReachC p s b
/-- what both searches keep: no cell twice, all of them cells of the piece that are reached -/
structure SoC (p : List Ce) (s : Ce) (L : List Ce) : Prop where
  nodup : L.Nodup
  sub : ∀ a ∈ L, a ∈ p
  reach : ∀ a ∈ L, ReachC p s a
  start : s ∈ L
theorem SoC.one {p : List Ce} {s : Ce} (h : s ∈ p) : SoC p s [s] :=
  ⟨by simp, fun a ha => by simp at ha; rw [ha]; exact h, fun a ha => by simp at ha; rw [ha]; exact .base, by simp⟩
theorem SoC.more {p : List Ce} {s : Ce} {L : List Ce} (h : SoC p s L) {a b : Ce} (ha : a ∈ L) (hb : b ∈ p) (hab : adjC b a) (hn : b ∉ L) : SoC p s (L ++ [b]) := by
  refine ⟨?_, fun c hc => ?_, fun c hc => ?_, List.mem_append_left _ h.start⟩
  · rw [List.nodup_append]
    refine ⟨h.nodup, by simp, fun x hx y hy => ?_⟩
    simp at hy; subst hy; intro e; subst e; exact hn hx
  · rcases List.mem_append.1 hc with h1 | h1
    · exact h.sub c h1
    · simp at h1; rw [h1]; exact hb
  · rcases List.mem_append.1 hc with h1 | h1
    · exact h.reach c h1
    · simp at h1; rw [h1]; exact .step a b (h.reach a ha) hb hab
theorem nodup_le : ∀ (L p : List Ce), L.Nodup → (∀ a ∈ L, a ∈ p) → L.length ≤ p.length
  | [], p, _, _ => by simp
  | a :: L, p, hn, hs => by
    have h1 := List.nodup_cons.1 hn
    have hp : a ∈ p := hs a (by simp)
    have h2 := nodup_le L (p.erase a) h1.2 (fun b hb => by
      have : b ≠ a := fun e => h1.1 (e ▸ hb)
      exact (List.mem_erase_of_ne this).2 (hs b (by simp [hb])))
    rw [List.length_erase_of_mem hp] at h2
    have : 0 < p.length := List.length_pos_of_mem hp
    simp; omega
theorem SoC.le {p : List Ce} {s : Ce} {L : List Ce} (h : SoC p s L) : L.length ≤ p.length := nodup_le L p h.nodup h.sub
/-- a closed one has all that is reached -/
theorem SoC.all {p : List Ce} {s : Ce} {L : List Ce} (h : SoC p s L) (hc : closedC p L) : ∀ a, ReachC p s a → a ∈ L := by
  intro a ha
  induction ha with
  | base => exact h.start
  | step a b _ hb hab ih => exact hc a ih b hb hab
/-- it has as many cells as the piece exactly if all are reached -/
theorem SoC.len_iff {p : List Ce} {s : Ce} {L : List Ce} (h : SoC p s L) (hc : closedC p L) (hp : p.Nodup) : L.length = p.length ↔ ∀ a ∈ p, ReachC p s a := by
  constructor
  · intro hl a ha
    refine Classical.byContradiction fun hr => ?_
    have hn : a ∉ L := fun h1 => hr (h.reach a h1)
    have := nodup_le (a :: L) p (List.nodup_cons.2 ⟨hn, h.nodup⟩) (fun b hb => by
      rcases List.mem_cons.1 hb with h1 | h1
      · rw [h1]; exact ha
      · exact h.sub b h1)
    simp at this; omega
  · intro hr
    have h1 := h.le
    have h2 := nodup_le p L hp (fun a ha => h.all hc a (hr a ha))
    omega
/-- a piece is valid -/
def PieceOk (p : List Ce) : Prop := (1 ≤ p.length ∧ p.length ≤ 5) ∧ (∀ c ∈ p, -9 ≤ c.1 ∧ c.1 ≤ 9 ∧ -9 ≤ c.2 ∧ c.2 ≤ 9) ∧ p.Nodup ∧ ∀ a ∈ p, ReachC p (p.headD (0, 0)) a
noncomputable def pieceB (p : List Ce) : Bool := @decide (PieceOk p) (Classical.propDecidable _)
theorem pieceB_t {p : List Ce} (h : PieceOk p) : pieceB p = true := by unfold pieceB; exact @decide_eq_true _ (Classical.propDecidable _) h
theorem pieceB_f {p : List Ce} (h : ¬ PieceOk p) : pieceB p = false := by unfold pieceB; exact @decide_eq_false _ (Classical.propDecidable _) h
/-- what both searches end with -/
theorem piece_end {p L : List Ce} (h1 : 1 ≤ p.length ∧ p.length ≤ 5) (h2 : ∀ c ∈ p, -9 ≤ c.1 ∧ c.1 ≤ 9 ∧ -9 ≤ c.2 ∧ c.2 ≤ 9) (h3 : p.Nodup) (h : SoC p (p.headD (0, 0)) L) (hc : closedC p L) :
    pieceB p = ((L.length : Int) == (p.length : Int)) := by
  by_cases hl : L.length = p.length
  · rw [pieceB_t ⟨h1, h2, h3, (h.len_iff hc h3).1 hl⟩]; simp [hl]
  · rw [pieceB_f (fun hk => hl ((h.len_iff hc h3).2 hk.2.2.2))]
    symm; rw [beq_eq_false_iff_ne]; omega
end Go.Proofs.YtafmpgikdhlknaaGreat
