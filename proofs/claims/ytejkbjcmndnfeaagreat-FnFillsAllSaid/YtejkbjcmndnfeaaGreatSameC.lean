
/- Contracts: equal lists of cells; the draws of pieces. -/
import Derived.Test.YtejkbjcmndnfeaaGreatDrawPiece
import Derived.Test.YtejkbjcmndnfeaaGreatAlive
import Derived.Test.YtejkbjcmndnfeaaGreatMoveT
namespace Go.Proofs.YtejkbjcmndnfeaaGreat
open Go.RowKit

theorem near_ok {ps : List Ce} (h : NearC 10 ps) : ∀ q ∈ ps, okC q := fun q hq => by
  have := h q hq
  unfold okC okI
  omega
end Go.Proofs.YtejkbjcmndnfeaaGreat
