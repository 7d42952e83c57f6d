/-
  No cell of these rows narrows 'for every input' (looked for: loops, veiled, ifaces, maps, wideKeys, modest, calm, conditions, laid).
  DERIVED. THE GIVEN ROWS OF THIS SEAT. 12 by the template 'for every input the law returns true; each argument reads behind the call as it read before'; 0 by the template 'total and deterministic' (their statements: YtealmphaoolglaaTotals.lean).
  GIVEN WITH THE SEED: the statements are not yours to turn. If you find one false, say at which input.
  Laid BY PROGRAM, IN A SANDBOX (cutbox-rows.mjs): the forced cells as the released guide's own fill.sh prints them over the translation 3eed81e3daaf5ea4… (all of the seat's roots in one cut). By AI agents, Wed Nov 11 2026. No macro, syntax, notation, axiom, sorry.
-/
import Derived.Test.YtealmphaoolglaaChecked
import GoSem.Claim
import GoSem.ClaimJoined
import GoSem.ClaimMapViews
import Derived.JoinedTies
import Derived.KernelRfl
namespace Go.Proofs.Ytealmphaoolglaa
/- THE CELL 'sum', in the pinned program and in every row, IS THE sha256 OF THE DUMP (.gsa) THAT YtealmphaoolglaaProg.lean LOADS. Nothing in Lean hashes anything: it is a label: what it is worth is what the hold of that sum in a sandbox is worth. -/
noncomputable def Try.pinned : Pinned := { name := "ytealmphaoolglaa", sum := "3eed81e3daaf5ea4395a62b0348baf53a76a5414aad0188dfb70514c78a3ecc2", checked := Try.checked }
namespace Rows
def none {H : Type} : Left H := { results := [], args := [] }

/-- 'laws.FnExactPairOf': WHATEVER THE INPUT: true; the input reads as it did. -/
def fnExactPairOfSpec : ChangeSpec := { name := "fnExactPairOf", fn := fun _ => fun
  | [d1, d2] => { results := [.lit (.bool true)], args := [d1, d2] }
  | _ => none }
def fnExactPairOfRow : OpenClaim := { program := "ytealmphaoolglaa", sum := "3eed81e3daaf5ea4395a62b0348baf53a76a5414aad0188dfb70514c78a3ecc2", func := "loop.example/dominotilings/laws.FnExactPairOf", spec := "fnExactPairOf", apart := false }
def FnExactPairOfSaid : Prop := fnExactPairOfRow.holds Try.pinned (OpenSpec.ofChange fnExactPairOfSpec)

/-- ITS FALSE NEIGHBOUR: 'it returns false'. Refute it at one input. -/
def fnExactPairOfWrong : ChangeSpec := { name := "fnExactPairOf", fn := fun _ => fun
  | [d1, d2] => { results := [.lit (.bool false)], args := [d1, d2] }
  | _ => none }
def FnExactPairOfWrongFalsely : Prop := fnExactPairOfRow.holds Try.pinned (OpenSpec.ofChange fnExactPairOfWrong)

/-- 'laws.FnPairOf': WHATEVER THE INPUT: true; the input reads as it did. -/
def fnPairOfSpec : ChangeSpec := { name := "fnPairOf", fn := fun _ => fun
  | [d] => { results := [.lit (.bool true)], args := [d] }
  | _ => none }
def fnPairOfRow : OpenClaim := { program := "ytealmphaoolglaa", sum := "3eed81e3daaf5ea4395a62b0348baf53a76a5414aad0188dfb70514c78a3ecc2", func := "loop.example/dominotilings/laws.FnPairOf", spec := "fnPairOf", apart := false }
def FnPairOfSaid : Prop := fnPairOfRow.holds Try.pinned (OpenSpec.ofChange fnPairOfSpec)

/-- ITS FALSE NEIGHBOUR: 'it returns false'. Refute it at one input. -/
def fnPairOfWrong : ChangeSpec := { name := "fnPairOf", fn := fun _ => fun
  | [d] => { results := [.lit (.bool false)], args := [d] }
  | _ => none }
def FnPairOfWrongFalsely : Prop := fnPairOfRow.holds Try.pinned (OpenSpec.ofChange fnPairOfWrong)

/-- 'laws.FnExactRoundOf': WHATEVER THE INPUT: true; the input reads as it did. -/
def fnExactRoundOfSpec : ChangeSpec := { name := "fnExactRoundOf", fn := fun _ => fun
  | [d1, d2] => { results := [.lit (.bool true)], args := [d1, d2] }
  | _ => none }
def fnExactRoundOfRow : OpenClaim := { program := "ytealmphaoolglaa", sum := "3eed81e3daaf5ea4395a62b0348baf53a76a5414aad0188dfb70514c78a3ecc2", func := "loop.example/dominotilings/laws.FnExactRoundOf", spec := "fnExactRoundOf", unfollowed := true, recurses := true, apart := false }
def FnExactRoundOfSaid : Prop := fnExactRoundOfRow.holds Try.pinned (OpenSpec.ofChange fnExactRoundOfSpec)

/-- ITS FALSE NEIGHBOUR: 'it returns false'. Refute it at one input. -/
def fnExactRoundOfWrong : ChangeSpec := { name := "fnExactRoundOf", fn := fun _ => fun
  | [d1, d2] => { results := [.lit (.bool false)], args := [d1, d2] }
  | _ => none }
def FnExactRoundOfWrongFalsely : Prop := fnExactRoundOfRow.holds Try.pinned (OpenSpec.ofChange fnExactRoundOfWrong)

/-- 'laws.FnExactPieceValid': WHATEVER THE INPUT: true; the input reads as it did. -/
def fnExactPieceValidSpec : ChangeSpec := { name := "fnExactPieceValid", fn := fun _ => fun
  | [d] => { results := [.lit (.bool true)], args := [d] }
  | _ => none }
def fnExactPieceValidRow : OpenClaim := { program := "ytealmphaoolglaa", sum := "3eed81e3daaf5ea4395a62b0348baf53a76a5414aad0188dfb70514c78a3ecc2", func := "loop.example/dominotilings/laws.FnExactPieceValid", spec := "fnExactPieceValid", apart := false }
def FnExactPieceValidSaid : Prop := fnExactPieceValidRow.holds Try.pinned (OpenSpec.ofChange fnExactPieceValidSpec)

/-- ITS FALSE NEIGHBOUR: 'it returns false'. Refute it at one input. -/
def fnExactPieceValidWrong : ChangeSpec := { name := "fnExactPieceValid", fn := fun _ => fun
  | [d] => { results := [.lit (.bool false)], args := [d] }
  | _ => none }
def FnExactPieceValidWrongFalsely : Prop := fnExactPieceValidRow.holds Try.pinned (OpenSpec.ofChange fnExactPieceValidWrong)

/-- 'laws.FnExactColourMany': WHATEVER THE INPUT: true; the input reads as it did. -/
def fnExactColourManySpec : ChangeSpec := { name := "fnExactColourMany", fn := fun _ => fun
  | [d1, d2, d3] => { results := [.lit (.bool true)], args := [d1, d2, d3] }
  | _ => none }
def fnExactColourManyRow : OpenClaim := { program := "ytealmphaoolglaa", sum := "3eed81e3daaf5ea4395a62b0348baf53a76a5414aad0188dfb70514c78a3ecc2", func := "loop.example/dominotilings/laws.FnExactColourMany", spec := "fnExactColourMany", apart := false }
def FnExactColourManySaid : Prop := fnExactColourManyRow.holds Try.pinned (OpenSpec.ofChange fnExactColourManySpec)

/-- ITS FALSE NEIGHBOUR: 'it returns false'. Refute it at one input. -/
def fnExactColourManyWrong : ChangeSpec := { name := "fnExactColourMany", fn := fun _ => fun
  | [d1, d2, d3] => { results := [.lit (.bool false)], args := [d1, d2, d3] }
  | _ => none }
def FnExactColourManyWrongFalsely : Prop := fnExactColourManyRow.holds Try.pinned (OpenSpec.ofChange fnExactColourManyWrong)

/-- 'laws.FnExactPuzzleValid': WHATEVER THE INPUT: true; the input reads as it did. -/
def fnExactPuzzleValidSpec : ChangeSpec := { name := "fnExactPuzzleValid", fn := fun _ => fun
  | [d1, d2] => { results := [.lit (.bool true)], args := [d1, d2] }
  | _ => none }
def fnExactPuzzleValidRow : OpenClaim := { program := "ytealmphaoolglaa", sum := "3eed81e3daaf5ea4395a62b0348baf53a76a5414aad0188dfb70514c78a3ecc2", func := "loop.example/dominotilings/laws.FnExactPuzzleValid", spec := "fnExactPuzzleValid", apart := false }
def FnExactPuzzleValidSaid : Prop := fnExactPuzzleValidRow.holds Try.pinned (OpenSpec.ofChange fnExactPuzzleValidSpec)

/-- ITS FALSE NEIGHBOUR: 'it returns false'. Refute it at one input. -/
def fnExactPuzzleValidWrong : ChangeSpec := { name := "fnExactPuzzleValid", fn := fun _ => fun
  | [d1, d2] => { results := [.lit (.bool false)], args := [d1, d2] }
  | _ => none }
def FnExactPuzzleValidWrongFalsely : Prop := fnExactPuzzleValidRow.holds Try.pinned (OpenSpec.ofChange fnExactPuzzleValidWrong)

/-- 'laws.FnExactColoursEven': WHATEVER THE INPUT: true; the input reads as it did. -/
def fnExactColoursEvenSpec : ChangeSpec := { name := "fnExactColoursEven", fn := fun _ => fun
  | [d1, d2] => { results := [.lit (.bool true)], args := [d1, d2] }
  | _ => none }
def fnExactColoursEvenRow : OpenClaim := { program := "ytealmphaoolglaa", sum := "3eed81e3daaf5ea4395a62b0348baf53a76a5414aad0188dfb70514c78a3ecc2", func := "loop.example/dominotilings/laws.FnExactColoursEven", spec := "fnExactColoursEven", apart := false }
def FnExactColoursEvenSaid : Prop := fnExactColoursEvenRow.holds Try.pinned (OpenSpec.ofChange fnExactColoursEvenSpec)

/-- ITS FALSE NEIGHBOUR: 'it returns false'. Refute it at one input. -/
def fnExactColoursEvenWrong : ChangeSpec := { name := "fnExactColoursEven", fn := fun _ => fun
  | [d1, d2] => { results := [.lit (.bool false)], args := [d1, d2] }
  | _ => none }
def FnExactColoursEvenWrongFalsely : Prop := fnExactColoursEvenRow.holds Try.pinned (OpenSpec.ofChange fnExactColoursEvenWrong)

/-- 'laws.FnExactCornerFill': WHATEVER THE INPUT: true; the input reads as it did. -/
def fnExactCornerFillSpec : ChangeSpec := { name := "fnExactCornerFill", fn := fun _ => fun
  | [d1, d2] => { results := [.lit (.bool true)], args := [d1, d2] }
  | _ => none }
def fnExactCornerFillRow : OpenClaim := { program := "ytealmphaoolglaa", sum := "3eed81e3daaf5ea4395a62b0348baf53a76a5414aad0188dfb70514c78a3ecc2", func := "loop.example/dominotilings/laws.FnExactCornerFill", spec := "fnExactCornerFill", unfollowed := true, recurses := true, apart := false }
def FnExactCornerFillSaid : Prop := fnExactCornerFillRow.holds Try.pinned (OpenSpec.ofChange fnExactCornerFillSpec)

/-- ITS FALSE NEIGHBOUR: 'it returns false'. Refute it at one input. -/
def fnExactCornerFillWrong : ChangeSpec := { name := "fnExactCornerFill", fn := fun _ => fun
  | [d1, d2] => { results := [.lit (.bool false)], args := [d1, d2] }
  | _ => none }
def FnExactCornerFillWrongFalsely : Prop := fnExactCornerFillRow.holds Try.pinned (OpenSpec.ofChange fnExactCornerFillWrong)

/-- 'laws.FnExactDarkCells': WHATEVER THE INPUT: true; the input reads as it did. -/
def fnExactDarkCellsSpec : ChangeSpec := { name := "fnExactDarkCells", fn := fun _ => fun
  | [d] => { results := [.lit (.bool true)], args := [d] }
  | _ => none }
def fnExactDarkCellsRow : OpenClaim := { program := "ytealmphaoolglaa", sum := "3eed81e3daaf5ea4395a62b0348baf53a76a5414aad0188dfb70514c78a3ecc2", func := "loop.example/dominotilings/laws.FnExactDarkCells", spec := "fnExactDarkCells", apart := false }
def FnExactDarkCellsSaid : Prop := fnExactDarkCellsRow.holds Try.pinned (OpenSpec.ofChange fnExactDarkCellsSpec)

/-- ITS FALSE NEIGHBOUR: 'it returns false'. Refute it at one input. -/
def fnExactDarkCellsWrong : ChangeSpec := { name := "fnExactDarkCells", fn := fun _ => fun
  | [d] => { results := [.lit (.bool false)], args := [d] }
  | _ => none }
def FnExactDarkCellsWrongFalsely : Prop := fnExactDarkCellsRow.holds Try.pinned (OpenSpec.ofChange fnExactDarkCellsWrong)

/-- 'laws.FnExactPiecesValid': WHATEVER THE INPUT: true; the input reads as it did. -/
def fnExactPiecesValidSpec : ChangeSpec := { name := "fnExactPiecesValid", fn := fun _ => fun
  | [d] => { results := [.lit (.bool true)], args := [d] }
  | _ => none }
def fnExactPiecesValidRow : OpenClaim := { program := "ytealmphaoolglaa", sum := "3eed81e3daaf5ea4395a62b0348baf53a76a5414aad0188dfb70514c78a3ecc2", func := "loop.example/dominotilings/laws.FnExactPiecesValid", spec := "fnExactPiecesValid", unfollowed := true, recurses := true, apart := false }
def FnExactPiecesValidSaid : Prop := fnExactPiecesValidRow.holds Try.pinned (OpenSpec.ofChange fnExactPiecesValidSpec)

/-- ITS FALSE NEIGHBOUR: 'it returns false'. Refute it at one input. -/
def fnExactPiecesValidWrong : ChangeSpec := { name := "fnExactPiecesValid", fn := fun _ => fun
  | [d] => { results := [.lit (.bool false)], args := [d] }
  | _ => none }
def FnExactPiecesValidWrongFalsely : Prop := fnExactPiecesValidRow.holds Try.pinned (OpenSpec.ofChange fnExactPiecesValidWrong)

/-- 'laws.FnExactBarsMany': WHATEVER THE INPUT: true; the input reads as it did. -/
def fnExactBarsManySpec : ChangeSpec := { name := "fnExactBarsMany", fn := fun _ => fun
  | [d1, d2] => { results := [.lit (.bool true)], args := [d1, d2] }
  | _ => none }
def fnExactBarsManyRow : OpenClaim := { program := "ytealmphaoolglaa", sum := "3eed81e3daaf5ea4395a62b0348baf53a76a5414aad0188dfb70514c78a3ecc2", func := "loop.example/dominotilings/laws.FnExactBarsMany", spec := "fnExactBarsMany", unfollowed := true, recurses := true, apart := false }
def FnExactBarsManySaid : Prop := fnExactBarsManyRow.holds Try.pinned (OpenSpec.ofChange fnExactBarsManySpec)

/-- ITS FALSE NEIGHBOUR: 'it returns false'. Refute it at one input. -/
def fnExactBarsManyWrong : ChangeSpec := { name := "fnExactBarsMany", fn := fun _ => fun
  | [d1, d2] => { results := [.lit (.bool false)], args := [d1, d2] }
  | _ => none }
def FnExactBarsManyWrongFalsely : Prop := fnExactBarsManyRow.holds Try.pinned (OpenSpec.ofChange fnExactBarsManyWrong)

/-- 'laws.FnExactCutTwo': WHATEVER THE INPUT: true; the input reads as it did. -/
def fnExactCutTwoSpec : ChangeSpec := { name := "fnExactCutTwo", fn := fun _ => fun
  | [d1, d2, d3, d4] => { results := [.lit (.bool true)], args := [d1, d2, d3, d4] }
  | _ => none }
def fnExactCutTwoRow : OpenClaim := { program := "ytealmphaoolglaa", sum := "3eed81e3daaf5ea4395a62b0348baf53a76a5414aad0188dfb70514c78a3ecc2", func := "loop.example/dominotilings/laws.FnExactCutTwo", spec := "fnExactCutTwo", unfollowed := true, recurses := true, apart := false }
def FnExactCutTwoSaid : Prop := fnExactCutTwoRow.holds Try.pinned (OpenSpec.ofChange fnExactCutTwoSpec)

/-- ITS FALSE NEIGHBOUR: 'it returns false'. Refute it at one input. -/
def fnExactCutTwoWrong : ChangeSpec := { name := "fnExactCutTwo", fn := fun _ => fun
  | [d1, d2, d3, d4] => { results := [.lit (.bool false)], args := [d1, d2, d3, d4] }
  | _ => none }
def FnExactCutTwoWrongFalsely : Prop := fnExactCutTwoRow.holds Try.pinned (OpenSpec.ofChange fnExactCutTwoWrong)

/- THE SECOND FORM. 'bulk': how many values and letters a reading holds, each counted each time it is reached (what is shared counts as often as it is met; a slice's spare places count too). A statement '..UptoSaid' is the law's where the arguments, and the package variables that the reading takes, are together of bulk at most 1048576: NARROWER than '..Said'. Prove '..Said' where nothing that the law and all that it calls make is longer than what came in: it says more and counts as full. Else prove '..UptoSaid'. A law counts once. -/
mutual
def uptoBulk {H : Type} : DataW H → Nat
  | .lit (.string bytes) => bytes.length + 1
  | .lit _ => 1
  | .nil => 1
  | .ptr d => uptoBulk d + 1
  | .slice elems spare => uptoBulkAll elems + uptoBulkAll spare + 1
  | .agg parts => uptoBulkAll parts + 1
  | .iface _ d => uptoBulk d + 1
  | .map entries => uptoBulkEntries entries + 1
  | .held _ => 1
def uptoBulkAll {H : Type} : List (DataW H) → Nat
  | [] => 0
  | d :: r => uptoBulk d + uptoBulkAll r
def uptoBulkEntries {H : Type} : List (Lit × DataW H) → Nat
  | [] => 0
  | x :: r => uptoBulkEntry x + uptoBulkEntries r
def uptoBulkEntry {H : Type} : Lit × DataW H → Nat
  | (.string bytes, d) => bytes.length + uptoBulk d + 1
  | (_, d) => uptoBulk d + 1
 end
def uptoSmall : (H : Type) → List (DataW H) → Bool := fun _ ds => decide (uptoBulkAll ds ≤ 1048576)
def OpenSpec.upto (s : _root_.Go.ChangeSpec) : _root_.Go.OpenSpec := { _root_.Go.OpenSpec.ofChange s with cond := some uptoSmall }

/-- 'laws.FnExactPairOf', WHERE WHAT IT READS IS OF BULK AT MOST 1048576: true; the input reads as it did. -/
def fnExactPairOfUptoRow : OpenClaim := { program := "ytealmphaoolglaa", sum := "3eed81e3daaf5ea4395a62b0348baf53a76a5414aad0188dfb70514c78a3ecc2", func := "loop.example/dominotilings/laws.FnExactPairOf", spec := "fnExactPairOf", apart := false, narrowed := true }
def FnExactPairOfUptoSaid : Prop := fnExactPairOfUptoRow.holds Try.pinned (OpenSpec.upto fnExactPairOfSpec)

/-- 'laws.FnPairOf', WHERE WHAT IT READS IS OF BULK AT MOST 1048576: true; the input reads as it did. -/
def fnPairOfUptoRow : OpenClaim := { program := "ytealmphaoolglaa", sum := "3eed81e3daaf5ea4395a62b0348baf53a76a5414aad0188dfb70514c78a3ecc2", func := "loop.example/dominotilings/laws.FnPairOf", spec := "fnPairOf", apart := false, narrowed := true }
def FnPairOfUptoSaid : Prop := fnPairOfUptoRow.holds Try.pinned (OpenSpec.upto fnPairOfSpec)

/-- 'laws.FnExactRoundOf', WHERE WHAT IT READS IS OF BULK AT MOST 1048576: true; the input reads as it did. -/
def fnExactRoundOfUptoRow : OpenClaim := { program := "ytealmphaoolglaa", sum := "3eed81e3daaf5ea4395a62b0348baf53a76a5414aad0188dfb70514c78a3ecc2", func := "loop.example/dominotilings/laws.FnExactRoundOf", spec := "fnExactRoundOf", unfollowed := true, recurses := true, apart := false, narrowed := true }
def FnExactRoundOfUptoSaid : Prop := fnExactRoundOfUptoRow.holds Try.pinned (OpenSpec.upto fnExactRoundOfSpec)

/-- 'laws.FnExactPieceValid', WHERE WHAT IT READS IS OF BULK AT MOST 1048576: true; the input reads as it did. -/
def fnExactPieceValidUptoRow : OpenClaim := { program := "ytealmphaoolglaa", sum := "3eed81e3daaf5ea4395a62b0348baf53a76a5414aad0188dfb70514c78a3ecc2", func := "loop.example/dominotilings/laws.FnExactPieceValid", spec := "fnExactPieceValid", apart := false, narrowed := true }
def FnExactPieceValidUptoSaid : Prop := fnExactPieceValidUptoRow.holds Try.pinned (OpenSpec.upto fnExactPieceValidSpec)

/-- 'laws.FnExactColourMany', WHERE WHAT IT READS IS OF BULK AT MOST 1048576: true; the input reads as it did. -/
def fnExactColourManyUptoRow : OpenClaim := { program := "ytealmphaoolglaa", sum := "3eed81e3daaf5ea4395a62b0348baf53a76a5414aad0188dfb70514c78a3ecc2", func := "loop.example/dominotilings/laws.FnExactColourMany", spec := "fnExactColourMany", apart := false, narrowed := true }
def FnExactColourManyUptoSaid : Prop := fnExactColourManyUptoRow.holds Try.pinned (OpenSpec.upto fnExactColourManySpec)

/-- 'laws.FnExactPuzzleValid', WHERE WHAT IT READS IS OF BULK AT MOST 1048576: true; the input reads as it did. -/
def fnExactPuzzleValidUptoRow : OpenClaim := { program := "ytealmphaoolglaa", sum := "3eed81e3daaf5ea4395a62b0348baf53a76a5414aad0188dfb70514c78a3ecc2", func := "loop.example/dominotilings/laws.FnExactPuzzleValid", spec := "fnExactPuzzleValid", apart := false, narrowed := true }
def FnExactPuzzleValidUptoSaid : Prop := fnExactPuzzleValidUptoRow.holds Try.pinned (OpenSpec.upto fnExactPuzzleValidSpec)

/-- 'laws.FnExactColoursEven', WHERE WHAT IT READS IS OF BULK AT MOST 1048576: true; the input reads as it did. -/
def fnExactColoursEvenUptoRow : OpenClaim := { program := "ytealmphaoolglaa", sum := "3eed81e3daaf5ea4395a62b0348baf53a76a5414aad0188dfb70514c78a3ecc2", func := "loop.example/dominotilings/laws.FnExactColoursEven", spec := "fnExactColoursEven", apart := false, narrowed := true }
def FnExactColoursEvenUptoSaid : Prop := fnExactColoursEvenUptoRow.holds Try.pinned (OpenSpec.upto fnExactColoursEvenSpec)

/-- 'laws.FnExactCornerFill', WHERE WHAT IT READS IS OF BULK AT MOST 1048576: true; the input reads as it did. -/
def fnExactCornerFillUptoRow : OpenClaim := { program := "ytealmphaoolglaa", sum := "3eed81e3daaf5ea4395a62b0348baf53a76a5414aad0188dfb70514c78a3ecc2", func := "loop.example/dominotilings/laws.FnExactCornerFill", spec := "fnExactCornerFill", unfollowed := true, recurses := true, apart := false, narrowed := true }
def FnExactCornerFillUptoSaid : Prop := fnExactCornerFillUptoRow.holds Try.pinned (OpenSpec.upto fnExactCornerFillSpec)

/-- 'laws.FnExactDarkCells', WHERE WHAT IT READS IS OF BULK AT MOST 1048576: true; the input reads as it did. -/
def fnExactDarkCellsUptoRow : OpenClaim := { program := "ytealmphaoolglaa", sum := "3eed81e3daaf5ea4395a62b0348baf53a76a5414aad0188dfb70514c78a3ecc2", func := "loop.example/dominotilings/laws.FnExactDarkCells", spec := "fnExactDarkCells", apart := false, narrowed := true }
def FnExactDarkCellsUptoSaid : Prop := fnExactDarkCellsUptoRow.holds Try.pinned (OpenSpec.upto fnExactDarkCellsSpec)

/-- 'laws.FnExactPiecesValid', WHERE WHAT IT READS IS OF BULK AT MOST 1048576: true; the input reads as it did. -/
def fnExactPiecesValidUptoRow : OpenClaim := { program := "ytealmphaoolglaa", sum := "3eed81e3daaf5ea4395a62b0348baf53a76a5414aad0188dfb70514c78a3ecc2", func := "loop.example/dominotilings/laws.FnExactPiecesValid", spec := "fnExactPiecesValid", unfollowed := true, recurses := true, apart := false, narrowed := true }
def FnExactPiecesValidUptoSaid : Prop := fnExactPiecesValidUptoRow.holds Try.pinned (OpenSpec.upto fnExactPiecesValidSpec)

/-- 'laws.FnExactBarsMany', WHERE WHAT IT READS IS OF BULK AT MOST 1048576: true; the input reads as it did. -/
def fnExactBarsManyUptoRow : OpenClaim := { program := "ytealmphaoolglaa", sum := "3eed81e3daaf5ea4395a62b0348baf53a76a5414aad0188dfb70514c78a3ecc2", func := "loop.example/dominotilings/laws.FnExactBarsMany", spec := "fnExactBarsMany", unfollowed := true, recurses := true, apart := false, narrowed := true }
def FnExactBarsManyUptoSaid : Prop := fnExactBarsManyUptoRow.holds Try.pinned (OpenSpec.upto fnExactBarsManySpec)

/-- 'laws.FnExactCutTwo', WHERE WHAT IT READS IS OF BULK AT MOST 1048576: true; the input reads as it did. -/
def fnExactCutTwoUptoRow : OpenClaim := { program := "ytealmphaoolglaa", sum := "3eed81e3daaf5ea4395a62b0348baf53a76a5414aad0188dfb70514c78a3ecc2", func := "loop.example/dominotilings/laws.FnExactCutTwo", spec := "fnExactCutTwo", unfollowed := true, recurses := true, apart := false, narrowed := true }
def FnExactCutTwoUptoSaid : Prop := fnExactCutTwoUptoRow.holds Try.pinned (OpenSpec.upto fnExactCutTwoSpec)

end Rows
end Go.Proofs.Ytealmphaoolglaa
