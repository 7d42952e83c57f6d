/- Contracts: equal lists of cells; the draws of pieces. -/
import Derived.Test.YtbplnjigoghboaaDrawPiece
import Derived.Test.YtbplnjigoghboaaAlive
import Derived.Test.YtbplnjigoghboaaMoveT
namespace Go.Proofs.Ytbplnjigoghboaa
open Go.RowKit

set_option maxHeartbeats 800000 in
theorem sameCells_t (A A' : Option Addr) (c c' : Nat) (ps : List Ce) (w : World) (hr : RdC w A ps) (hr' : RdC w A' ps) (hn : ps.length ≤ 1000000) :
    Calls Try.prog 27 #[.slice A ps.length c, .slice A' ps.length c'] w fun e w' => e = .returned (.bool true) ∧ Below w.heap.size w w' := by
  have heq := fun W a b x y => neq_cell W a b x y
  go_enter Try.func27, Try.ntmps27
  go_wp2_with fail
  go_loopw [5] (fun i wr => ∃ k : Nat, k ≤ ps.length ∧ i = .int .i64 k ∧ Below w.heap.size w wr) (fun i _ => ps.length - (intOf i).toNat)
  case atStart => exact ⟨0, Nat.zero_le _, rfl, Below.refl _ _⟩
  case round =>
    obtain ⟨k, hk, rfl, Z1⟩ := hrel
    by_cases hlt : k < ps.length
    · obtain ⟨b, off, rfl, c0, c1⟩ := RdC.at_ (w := wr) (Rd.belo hr Z1) hlt
      obtain ⟨b', off', rfl, d0, d1⟩ := RdC.at_ (w := wr) (Rd.belo hr' Z1) hlt
      generalize ps[k] = q at c0 c1 d0 d1
      obtain ⟨x, y⟩ := q
      simp only at c0 c1 d0 d1
      have hqq : (x == x && y == y) = true := by simp
      go_wp2_with fail
      go_quiet (fail)
      go_wp2
      go_roundw
      case rel => exact ⟨k + 1, by omega, by go_num, below_drewN' Z1 _⟩
      case measure => simp [intOf]; omega
    · go_wp2
      go_ret
      exact ⟨rfl, Z1⟩
theorem near_ok {ps : List Ce} (h : NearC 10 ps) : ∀ q ∈ ps, okC q := fun q hq => by
  have := h q hq
  unfold okC okI
  omega
set_option maxHeartbeats 800000 in
theorem drawPieceRegion_any (A : Option Addr) (c : Nat) (bs : List Int) (w : World) (hr : Rd w A (bs.map (.int .u8))) (hw : ∀ x ∈ bs, 0 ≤ x ∧ x ≤ 255) (hn : bs.length ≤ 1048576) (hcap : bs.length ≤ c) :
    Calls Try.prog 49 #[.slice A bs.length c] w fun e w' => ∃ (B : Option Addr) (c' : Nat) (ps : List Ce), e = .returned (.slice B ps.length c') ∧ RdC w' B ps ∧ ps.length ≤ c' ∧ ps.length ≤ 7 ∧ NearC 10 ps ∧ Below w.heap.size w w' := by
  go_enter Try.func49, Try.ntmps49
  go_wp2_with fail
  refine (open_any A c bs _ hr hw hn hcap).mono ?_
  rintro e w1 ⟨g, A1, c1, by1, rfl, O1⟩
  go_wp2_with fail
  refine (piece_any g A1 c1 by1 0 5 9 _ O1.1 O1.lt (by omega) (by omega) (by omega)).mono ?_
  rintro e w2 ⟨B, c', ps, p', rfl, W2, h1, h2, h3, S2, -, G2⟩
  go_wp2
  go_ret
  exact ⟨B, c', ps, rfl, OwnC.rd W2, h1, h2, h3, (O1.pick S2 G2).2.2⟩
set_option maxHeartbeats 800000 in
theorem drawPieceFirst_any (A : Option Addr) (c : Nat) (bs : List Int) (w : World) (hr : Rd w A (bs.map (.int .u8))) (hw : ∀ x ∈ bs, 0 ≤ x ∧ x ≤ 255) (hn : bs.length ≤ 1048576) (hcap : bs.length ≤ c) :
    Calls Try.prog 25 #[.slice A bs.length c] w fun e w' => ∃ (B : Option Addr) (c' : Nat) (ps : List Ce), e = .returned (.slice B ps.length c') ∧ RdC w' B ps ∧ ps.length ≤ c' ∧ ps.length ≤ 7 ∧ NearC 10 ps ∧ Below w.heap.size w w' := by
  go_enter Try.func25, Try.ntmps25
  go_wp2_with fail
  refine (open_any A c bs _ hr hw hn hcap).mono ?_
  rintro e w1 ⟨g, A1, c1, by1, rfl, O1⟩
  go_wp2_with fail
  refine (piece_any g A1 c1 by1 0 5 9 _ O1.1 O1.lt (by omega) (by omega) (by omega)).mono ?_
  rintro e w2 ⟨B, c', ps, p', rfl, W2, h1, h2, h3, S2, -, G2⟩
  go_wp2
  go_ret
  exact ⟨B, c', ps, rfl, OwnC.rd W2, h1, h2, h3, (O1.pick S2 G2).2.2⟩
end Go.Proofs.Ytbplnjigoghboaa
