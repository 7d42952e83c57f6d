
/- Contracts: sizes and comparisons of the laws' own: szBoolS, szRegion, eqBoolS, eqIntS, toRegion, eqRegion. -/
import Derived.Test.YtafmpgikdhlknaaGreatTo
namespace Go.Proofs.YtafmpgikdhlknaaGreat
open Go.RowKit

theorem below_drewN' {B : Nat} {a w : World} (h : Below B a w) (n : Nat) : Below B a (w.drewN n) := ⟨h.os, h.tape, h.output, h.size, h.block⟩


end Go.Proofs.YtafmpgikdhlknaaGreat
