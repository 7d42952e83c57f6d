
/- Contracts: equal lists of cells; the draws of pieces. -/
import Derived.Test.YtohbnogmeldmpaaDrawPiece
import Derived.Test.YtohbnogmeldmpaaAlive
import Derived.Test.YtohbnogmeldmpaaMoveT
namespace Go.Proofs.Ytohbnogmeldmpaa
open Go.RowKit

theorem near_ok {ps : List Ce} (h : NearC 10 ps) : ∀ q ∈ ps, okC q := fun q hq => by
  have := h q hq
  unfold okC okI
  omega
set_option maxHeartbeats 800000 in
theorem drawPieceRegion_any (A : Option Addr) (c : Nat) (bs : List Int) (w : World) (hr : Rd w A (bs.map (.int .u8))) (hw : ∀ x ∈ bs, 0 ≤ x ∧ x ≤ 255) (hn : bs.length ≤ 1048576) (hcap : bs.length ≤ c) :
    Calls Try.prog 4 #[.slice A bs.length c] w fun e w' => ∃ (B : Option Addr) (c' : Nat) (ps : List Ce), e = .returned (.slice B ps.length c') ∧ RdC w' B ps ∧ ps.length ≤ c' ∧ ps.length ≤ 7 ∧ NearC 10 ps ∧ Below w.heap.size w w' := by
  go_enter Try.func4, Try.ntmps4
  go_wp2_with fail
  refine (open_any A c bs _ hr hw hn hcap).mono ?_
  rintro e w1 ⟨g, A1, c1, by1, rfl, O1⟩
  go_wp2_with fail
  refine (piece_any g A1 c1 by1 0 5 9 _ O1.1 O1.lt (by omega) (by omega) (by omega)).mono ?_
  rintro e w2 ⟨B, c', ps, p', rfl, W2, h1, h2, h3, S2, -, G2⟩
  go_wp2
  go_ret
  exact ⟨B, c', ps, rfl, OwnC.rd W2, h1, h2, h3, (O1.pick S2 G2).2.2⟩
end Go.Proofs.Ytohbnogmeldmpaa
