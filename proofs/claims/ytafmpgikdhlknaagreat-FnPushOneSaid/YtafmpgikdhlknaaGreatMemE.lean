
/- More plain words for memory: explicit addresses; parts of slices; lists of numbers. -/
import Derived.Test.YtafmpgikdhlknaaGreatApp
namespace Go.Proofs.YtafmpgikdhlknaaGreat
open Go.RowKit

theorem add_ofs (b off n : Nat) : (⟨b, off, none⟩ : Addr).add n = ⟨b, off + n, none⟩ := by unfold Addr.add; split <;> simp_all
theorem Rd.atE {w : World} {A : Option Addr} {xs : List Value} (h : Rd w A xs) {k : Nat} (hk : k < xs.length) : ∃ b off, A = some ⟨b, off, none⟩ ∧ w.cell? ⟨b, off + k, none⟩ = some xs[k] := by
  obtain ⟨ad, e, hc⟩ := h (by intro e; subst e; simp at hk)
  have h0 := hc 0 _ (List.getElem?_eq_getElem (show 0 < xs.length by omega))
  rw [add_zero'] at h0
  have hs := World.cell?_spot h0
  obtain ⟨b, off, spot⟩ := ad
  simp only at hs
  subst hs
  have e1 := hc k _ (List.getElem?_eq_getElem hk)
  rw [add_ofs] at e1
  exact ⟨b, off, e, e1⟩
theorem Rd.atEM {α : Type} {f : α → Value} {l : List α} {w : World} {A : Option Addr} (h : Rd w A (l.map f)) {k : Nat} (hk : k < l.length) : ∃ b off, A = some ⟨b, off, none⟩ ∧ w.cell? ⟨b, off + k, none⟩ = some (f l[k]) := by
  obtain ⟨b, off, e, hc⟩ := h.atE (k := k) (by simpa using hk)
  exact ⟨b, off, e, by simpa using hc⟩
theorem Rd.cellE {w : World} {b off : Nat} {xs : List Value} (h : Rd w (some ⟨b, off, none⟩) xs) {k : Nat} (hk : k < xs.length) : w.cell? ⟨b, off + k, none⟩ = some xs[k] := by
  obtain ⟨b', off', e, hc⟩ := h.atE hk
  injection e with e
  injection e with e1 e2
  subst e1; subst e2; exact hc
theorem Rd.cellEM {α : Type} {f : α → Value} {l : List α} {w : World} {b off : Nat} (h : Rd w (some ⟨b, off, none⟩) (l.map f)) {k : Nat} (hk : k < l.length) : w.cell? ⟨b, off + k, none⟩ = some (f l[k]) := by
  have := h.cellE (k := k) (by simpa using hk)
  simpa using this
theorem getD_at {α : Type} (l : List α) (d : α) {k : Nat} (hk : k < l.length) : l.getD k d = l[k] := by simp [List.getD_eq_getElem?_getD, List.getElem?_eq_getElem hk]
/-- a part of a slice from its head -/
theorem Rd.take {w : World} {A : Option Addr} {xs : List Value} (h : Rd w A xs) (k : Nat) : Rd w A (xs.take k) := fun hne => by
  obtain ⟨ad, e, hc⟩ := h (by intro e; subst e; simp at hne)
  refine ⟨ad, e, fun j u hu => hc j u ?_⟩
  rw [List.getElem?_take] at hu
  split at hu
  · exact hu
  · cases hu
theorem Rd.takeM {α : Type} {f : α → Value} {l : List α} {w : World} {A : Option Addr} (h : Rd w A (l.map f)) (k : Nat) : Rd w A ((l.take k).map f) := by
  rw [List.map_take]; exact h.take k
set_option maxHeartbeats 400000 in
theorem sameInts_t (A A' : Option Addr) (c c' : Nat) (bs : List Int) (w : World) (hr : Rd w A (bs.map (.int .i64))) (hr' : Rd w A' (bs.map (.int .i64))) (hn : bs.length ≤ maxLen) :
    Calls Tryz.prog 8 #[.slice A bs.length c, .slice A' bs.length c'] w fun e w' => e = .returned (.bool true) ∧ Below w.heap.size w w' := by
  unfold maxLen at hn
  go_enter Tryz.func8, Tryz.ntmps8
  go_wp2
  go_loopw [5] (fun i wr => ∃ k : Nat, k ≤ bs.length ∧ i = .int .i64 k ∧ Below w.heap.size w wr) (fun i _ => bs.length - (intOf i).toNat)
  case atStart => exact ⟨0, Nat.zero_le _, rfl, Below.refl _ _⟩
  case round =>
    obtain ⟨k, hk, rfl, hbel⟩ := hrel
    by_cases hlt : k < bs.length
    · obtain ⟨ad, rfl, hc⟩ := (hr.belo hbel).atM hlt
      obtain ⟨ad', rfl, hc'⟩ := (hr'.belo hbel).atM hlt
      have hne : (bs[k] != bs[k]) = false := by simp
      go_wp2
      go_quiet (fail)
      go_wp2
      go_roundw
      case rel => exact ⟨k + 1, by omega, by go_num, below_drewN' hbel _⟩
      case measure => simp [intOf]; omega
    · go_wp2
      go_ret
      exact ⟨rfl, hbel⟩
end Go.Proofs.YtafmpgikdhlknaaGreat
