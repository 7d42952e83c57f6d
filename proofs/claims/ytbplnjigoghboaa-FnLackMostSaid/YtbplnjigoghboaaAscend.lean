/- Contracts: ascending lists; dark cells and those beside them. -/
import Derived.Test.YtbplnjigoghboaaBesideE
import Derived.Test.YtbplnjigoghboaaDarkMany
import Derived.BigQuiet
namespace Go.Proofs.Ytbplnjigoghboaa
open Go.RowKit

set_option maxHeartbeats 800000 in
theorem ascend_t (A : Option Addr) (c : Nat) (xs : List Int) (w : World) (hr : Rd w A (xs.map (.int .i64))) (hn : xs.length ≤ 1000000000000) (hs : xs.Pairwise (· < ·)) :
    Calls Try.prog 39 #[.slice A xs.length c] w fun e w' => e = .returned (.bool true) ∧ Below w.heap.size w w' := by
  have HS := Lib.hid hs
  clear hs
  go_enter Try.func39, Try.ntmps39
  go_wp2_with fail
  go_loopw [3] (fun i wr => ∃ k : Nat, 1 ≤ k ∧ (k ≤ xs.length ∨ k = 1) ∧ i = .int .i64 k ∧ Below w.heap.size w wr) (fun i _ => xs.length - (intOf i).toNat)
  case atStart => exact ⟨1, Nat.le_refl _, .inr rfl, rfl, Below.refl _ _⟩
  case round =>
    obtain ⟨k, hk1, hk, rfl, B1⟩ := hrel
    by_cases hlt : k < xs.length
    · obtain ⟨j, hj⟩ : ∃ j, k = j + 1 := ⟨k - 1, by omega⟩
      have hjl : j < xs.length := by omega
      have R1 := hr.belo B1
      obtain ⟨ad, rfl, hc⟩ := R1.atM hjl
      obtain ⟨ad', e', hc2⟩ := R1.atM hlt
      injection e' with e'
      subst e'
      have hp := (List.pairwise_iff_getElem.1 HS.out) j k hjl hlt (by omega)
      obtain ⟨x, hx⟩ : ∃ x, xs[j] = x := ⟨_, rfl⟩
      obtain ⟨y, hy⟩ : ∃ y, xs[k] = y := ⟨_, rfl⟩
      rw [hx] at hc hp
      rw [hy] at hc2 hp
      clear hx hy
      have ws : IntKind.i64.wrap ((k : Int) - 1) = (j : Int) := by rw [IntWalk.i64_in _ (by omega)]; omega
      have hjI : (j : Int) < (xs.length : Int) := by omega
      have hkI : (k : Int) < (xs.length : Int) := by omega
      have HJ := Lib.hid hj
      clear hj
      go_wp2_with fail
      go_quiet (fail)
      go_wp2_with fail
      go_roundw
      case rel => exact ⟨k + 1, by omega, .inl (by omega), by go_num, below_drewN' B1 _⟩
      case measure => simp [intOf]; omega
    · go_wp2
      go_ret
      exact ⟨rfl, B1⟩
/-- steps change the colour -/
theorem step_parity {W T c d : Int} (h1 : 1 ≤ W) (h2 : W ≤ 6) (d1 : 1 ≤ d) (d2 : d ≤ 4) (h : 0 ≤ stepZ W T c d) :
    ((stepZ W T c d) % W + (stepZ W T c d) / W + (c % W + c / W)) % 2 = 1 := by
  rcases (show d = 1 ∨ d = 2 ∨ d = 3 ∨ d = 4 from by omega) with rfl | rfl | rfl | rfl
  · rw [step1] at *
    split at h
    · rename_i hc
      rw [if_pos hc]
      have e1 : (c + 1) % W = c % W + 1 := by rcases (show W = 1 ∨ W = 2 ∨ W = 3 ∨ W = 4 ∨ W = 5 ∨ W = 6 from by omega) with rfl | rfl | rfl | rfl | rfl | rfl <;> omega
      have e2 : (c + 1) / W = c / W := by rcases (show W = 1 ∨ W = 2 ∨ W = 3 ∨ W = 4 ∨ W = 5 ∨ W = 6 from by omega) with rfl | rfl | rfl | rfl | rfl | rfl <;> omega
      rw [e1, e2]
      generalize c % W = X
      generalize c / W = Y
      omega
    · omega
  · rw [step2] at *
    split at h
    · rename_i hc
      rw [if_pos hc]
      have e1 : (c + W) % W = c % W := by rcases (show W = 1 ∨ W = 2 ∨ W = 3 ∨ W = 4 ∨ W = 5 ∨ W = 6 from by omega) with rfl | rfl | rfl | rfl | rfl | rfl <;> omega
      have e2 : (c + W) / W = c / W + 1 := by rcases (show W = 1 ∨ W = 2 ∨ W = 3 ∨ W = 4 ∨ W = 5 ∨ W = 6 from by omega) with rfl | rfl | rfl | rfl | rfl | rfl <;> omega
      rw [e1, e2]
      generalize c % W = X
      generalize c / W = Y
      omega
    · omega
  · rw [step3] at *
    split at h
    · rename_i hc
      rw [if_pos hc]
      have e1 : (c - 1) % W = c % W - 1 := by rcases (show W = 1 ∨ W = 2 ∨ W = 3 ∨ W = 4 ∨ W = 5 ∨ W = 6 from by omega) with rfl | rfl | rfl | rfl | rfl | rfl <;> omega
      have e2 : (c - 1) / W = c / W := by rcases (show W = 1 ∨ W = 2 ∨ W = 3 ∨ W = 4 ∨ W = 5 ∨ W = 6 from by omega) with rfl | rfl | rfl | rfl | rfl | rfl <;> omega
      rw [e1, e2]
      generalize c % W = X
      generalize c / W = Y
      omega
    · omega
  · rw [step4] at *
    split at h
    · rename_i hc
      rw [if_pos hc]
      have e1 : (c - W) % W = c % W := by rcases (show W = 1 ∨ W = 2 ∨ W = 3 ∨ W = 4 ∨ W = 5 ∨ W = 6 from by omega) with rfl | rfl | rfl | rfl | rfl | rfl <;> omega
      have e2 : (c - W) / W = c / W - 1 := by rcases (show W = 1 ∨ W = 2 ∨ W = 3 ∨ W = 4 ∨ W = 5 ∨ W = 6 from by omega) with rfl | rfl | rfl | rfl | rfl | rfl <;> omega
      rw [e1, e2]
      generalize c % W = X
      generalize c / W = Y
      omega
    · omega
theorem dark_mem {W : Int} {bs : List Bool} {x : Int} (h : x ∈ darkL W bs true) : 0 ≤ x ∧ (x % W + x / W) % 2 = 0 := by
  obtain ⟨i, -, hp, rfl⟩ := mem_pick.1 h
  refine ⟨by omega, ?_⟩
  unfold isCol at hp
  rw [Bool.and_eq_true] at hp
  have := hp.2
  unfold darkB at this
  simpa using this
/-- what is beside a dark cell is not dark -/
theorem bes_dark {W T : Int} {bs : List Bool} (h1 : 1 ≤ W) (h2 : W ≤ 6) {x : Int} (h : x ∈ besL W T bs (darkL W bs true)) : x ∉ darkL W bs true := by
  obtain ⟨i, -, hp, rfl⟩ := mem_pick.1 h
  unfold isBes at hp
  rw [Bool.and_eq_true, nbr_iff] at hp
  obtain ⟨-, d, d1, d2, s0, hs⟩ := hp
  intro hx
  have e1 := (dark_mem hx).2
  have e2 := (dark_mem hs).2
  have e3 := step_parity (W := W) (T := T) (c := (i : Int)) h1 h2 d1 (by omega) s0
  omega
theorem pick_cnt (p : Nat → Bool) (k : Nat) : ((pickTo p k).length : Int) = cntTo p k := by unfold pickTo cntTo; rw [List.length_map]
theorem darkL_len (W : Int) (bs : List Bool) : ((darkL W bs true).length : Int) = cntTo (inCol W 2 0 bs) bs.length := by
  unfold darkL
  rw [pick_cnt]
  congr 1
  funext i
  unfold isCol inCol darkB
  congr 1
  by_cases h : ((i : Int) % W + (i : Int) / W) % 2 = 0 <;> simp [h]
end Go.Proofs.Ytbplnjigoghboaa
