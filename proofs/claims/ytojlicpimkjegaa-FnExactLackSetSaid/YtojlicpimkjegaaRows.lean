/-
  No cell of these rows narrows 'for every input' (looked for: loops, veiled, ifaces, maps, wideKeys, modest, calm, conditions, laid).
  DERIVED. THE GIVEN ROWS OF THIS SEAT. 12 by the template 'for every input the law returns true; each argument reads behind the call as it read before'; 0 by the template 'total and deterministic' (their statements: YtojlicpimkjegaaTotals.lean).
  GIVEN WITH THE SEED: the statements are not yours to turn. If you find one false, say at which input.
  Laid BY PROGRAM, IN A SANDBOX (cutbox-rows.mjs): the forced cells as the released guide's own fill.sh prints them over the translation dcba192c1e75580b… (all of the seat's roots in one cut). By AI agents, Wed Nov 11 2026. No macro, syntax, notation, axiom, sorry.
-/
import Derived.Test.YtojlicpimkjegaaChecked
import GoSem.Claim
import GoSem.ClaimJoined
import GoSem.ClaimMapViews
import Derived.JoinedTies
import Derived.KernelRfl
namespace Go.Proofs.Ytojlicpimkjegaa
/- THE CELL 'sum', in the pinned program and in every row, IS THE sha256 OF THE DUMP (.gsa) THAT YtojlicpimkjegaaProg.lean LOADS. Nothing in Lean hashes anything: it is a label: what it is worth is what the hold of that sum in a sandbox is worth. -/
noncomputable def Try.pinned : Pinned := { name := "ytojlicpimkjegaa", sum := "dcba192c1e75580b885ed6b9d9c6b4b4d33593eca2ffe639d8d778f0eb2aa643", checked := Try.checked }
namespace Rows
def none {H : Type} : Left H := { results := [], args := [] }

/-- 'laws.FnExactCellsBeside': WHATEVER THE INPUT: true; the input reads as it did. -/
def fnExactCellsBesideSpec : ChangeSpec := { name := "fnExactCellsBeside", fn := fun _ => fun
  | [d1, d2] => { results := [.lit (.bool true)], args := [d1, d2] }
  | _ => none }
def fnExactCellsBesideRow : OpenClaim := { program := "ytojlicpimkjegaa", sum := "dcba192c1e75580b885ed6b9d9c6b4b4d33593eca2ffe639d8d778f0eb2aa643", func := "loop.example/dominotilings/laws.FnExactCellsBeside", spec := "fnExactCellsBeside", recurses := true, apart := false }
def FnExactCellsBesideSaid : Prop := fnExactCellsBesideRow.holds Try.pinned (OpenSpec.ofChange fnExactCellsBesideSpec)

/-- ITS FALSE NEIGHBOUR: 'it returns false'. Refute it at one input. -/
def fnExactCellsBesideWrong : ChangeSpec := { name := "fnExactCellsBeside", fn := fun _ => fun
  | [d1, d2] => { results := [.lit (.bool false)], args := [d1, d2] }
  | _ => none }
def FnExactCellsBesideWrongFalsely : Prop := fnExactCellsBesideRow.holds Try.pinned (OpenSpec.ofChange fnExactCellsBesideWrong)

/-- 'laws.FnExactLackMost': WHATEVER THE INPUT: true; the input reads as it did. -/
def fnExactLackMostSpec : ChangeSpec := { name := "fnExactLackMost", fn := fun _ => fun
  | [d] => { results := [.lit (.bool true)], args := [d] }
  | _ => none }
def fnExactLackMostRow : OpenClaim := { program := "ytojlicpimkjegaa", sum := "dcba192c1e75580b885ed6b9d9c6b4b4d33593eca2ffe639d8d778f0eb2aa643", func := "loop.example/dominotilings/laws.FnExactLackMost", spec := "fnExactLackMost", recurses := true, apart := false }
def FnExactLackMostSaid : Prop := fnExactLackMostRow.holds Try.pinned (OpenSpec.ofChange fnExactLackMostSpec)

/-- ITS FALSE NEIGHBOUR: 'it returns false'. Refute it at one input. -/
def fnExactLackMostWrong : ChangeSpec := { name := "fnExactLackMost", fn := fun _ => fun
  | [d] => { results := [.lit (.bool false)], args := [d] }
  | _ => none }
def FnExactLackMostWrongFalsely : Prop := fnExactLackMostRow.holds Try.pinned (OpenSpec.ofChange fnExactLackMostWrong)

/-- 'laws.FnExactLackSet': WHATEVER THE INPUT: true; the input reads as it did. -/
def fnExactLackSetSpec : ChangeSpec := { name := "fnExactLackSet", fn := fun _ => fun
  | [d] => { results := [.lit (.bool true)], args := [d] }
  | _ => none }
def fnExactLackSetRow : OpenClaim := { program := "ytojlicpimkjegaa", sum := "dcba192c1e75580b885ed6b9d9c6b4b4d33593eca2ffe639d8d778f0eb2aa643", func := "loop.example/dominotilings/laws.FnExactLackSet", spec := "fnExactLackSet", recurses := true, apart := false }
def FnExactLackSetSaid : Prop := fnExactLackSetRow.holds Try.pinned (OpenSpec.ofChange fnExactLackSetSpec)

/-- ITS FALSE NEIGHBOUR: 'it returns false'. Refute it at one input. -/
def fnExactLackSetWrong : ChangeSpec := { name := "fnExactLackSet", fn := fun _ => fun
  | [d] => { results := [.lit (.bool false)], args := [d] }
  | _ => none }
def FnExactLackSetWrongFalsely : Prop := fnExactLackSetRow.holds Try.pinned (OpenSpec.ofChange fnExactLackSetWrong)

/-- 'laws.FnExactPieceMoved': WHATEVER THE INPUT: true; the input reads as it did. -/
def fnExactPieceMovedSpec : ChangeSpec := { name := "fnExactPieceMoved", fn := fun _ => fun
  | [d] => { results := [.lit (.bool true)], args := [d] }
  | _ => none }
def fnExactPieceMovedRow : OpenClaim := { program := "ytojlicpimkjegaa", sum := "dcba192c1e75580b885ed6b9d9c6b4b4d33593eca2ffe639d8d778f0eb2aa643", func := "loop.example/dominotilings/laws.FnExactPieceMoved", spec := "fnExactPieceMoved", unfollowed := true, recurses := true, apart := false }
def FnExactPieceMovedSaid : Prop := fnExactPieceMovedRow.holds Try.pinned (OpenSpec.ofChange fnExactPieceMovedSpec)

/-- ITS FALSE NEIGHBOUR: 'it returns false'. Refute it at one input. -/
def fnExactPieceMovedWrong : ChangeSpec := { name := "fnExactPieceMoved", fn := fun _ => fun
  | [d] => { results := [.lit (.bool false)], args := [d] }
  | _ => none }
def FnExactPieceMovedWrongFalsely : Prop := fnExactPieceMovedRow.holds Try.pinned (OpenSpec.ofChange fnExactPieceMovedWrong)

/-- 'laws.FnExactPieceTurn': WHATEVER THE INPUT: true; the input reads as it did. -/
def fnExactPieceTurnSpec : ChangeSpec := { name := "fnExactPieceTurn", fn := fun _ => fun
  | [d] => { results := [.lit (.bool true)], args := [d] }
  | _ => none }
def fnExactPieceTurnRow : OpenClaim := { program := "ytojlicpimkjegaa", sum := "dcba192c1e75580b885ed6b9d9c6b4b4d33593eca2ffe639d8d778f0eb2aa643", func := "loop.example/dominotilings/laws.FnExactPieceTurn", spec := "fnExactPieceTurn", unfollowed := true, recurses := true, apart := false }
def FnExactPieceTurnSaid : Prop := fnExactPieceTurnRow.holds Try.pinned (OpenSpec.ofChange fnExactPieceTurnSpec)

/-- ITS FALSE NEIGHBOUR: 'it returns false'. Refute it at one input. -/
def fnExactPieceTurnWrong : ChangeSpec := { name := "fnExactPieceTurn", fn := fun _ => fun
  | [d] => { results := [.lit (.bool false)], args := [d] }
  | _ => none }
def FnExactPieceTurnWrongFalsely : Prop := fnExactPieceTurnRow.holds Try.pinned (OpenSpec.ofChange fnExactPieceTurnWrong)

/-- 'laws.FnExactPieceFlip': WHATEVER THE INPUT: true; the input reads as it did. -/
def fnExactPieceFlipSpec : ChangeSpec := { name := "fnExactPieceFlip", fn := fun _ => fun
  | [d] => { results := [.lit (.bool true)], args := [d] }
  | _ => none }
def fnExactPieceFlipRow : OpenClaim := { program := "ytojlicpimkjegaa", sum := "dcba192c1e75580b885ed6b9d9c6b4b4d33593eca2ffe639d8d778f0eb2aa643", func := "loop.example/dominotilings/laws.FnExactPieceFlip", spec := "fnExactPieceFlip", unfollowed := true, recurses := true, apart := false }
def FnExactPieceFlipSaid : Prop := fnExactPieceFlipRow.holds Try.pinned (OpenSpec.ofChange fnExactPieceFlipSpec)

/-- ITS FALSE NEIGHBOUR: 'it returns false'. Refute it at one input. -/
def fnExactPieceFlipWrong : ChangeSpec := { name := "fnExactPieceFlip", fn := fun _ => fun
  | [d] => { results := [.lit (.bool false)], args := [d] }
  | _ => none }
def FnExactPieceFlipWrongFalsely : Prop := fnExactPieceFlipRow.holds Try.pinned (OpenSpec.ofChange fnExactPieceFlipWrong)

/-- 'laws.FnExactPieceRegion': WHATEVER THE INPUT: true; the input reads as it did. -/
def fnExactPieceRegionSpec : ChangeSpec := { name := "fnExactPieceRegion", fn := fun _ => fun
  | [d] => { results := [.lit (.bool true)], args := [d] }
  | _ => none }
def fnExactPieceRegionRow : OpenClaim := { program := "ytojlicpimkjegaa", sum := "dcba192c1e75580b885ed6b9d9c6b4b4d33593eca2ffe639d8d778f0eb2aa643", func := "loop.example/dominotilings/laws.FnExactPieceRegion", spec := "fnExactPieceRegion", unfollowed := true, recurses := true, apart := false }
def FnExactPieceRegionSaid : Prop := fnExactPieceRegionRow.holds Try.pinned (OpenSpec.ofChange fnExactPieceRegionSpec)

/-- ITS FALSE NEIGHBOUR: 'it returns false'. Refute it at one input. -/
def fnExactPieceRegionWrong : ChangeSpec := { name := "fnExactPieceRegion", fn := fun _ => fun
  | [d] => { results := [.lit (.bool false)], args := [d] }
  | _ => none }
def FnExactPieceRegionWrongFalsely : Prop := fnExactPieceRegionRow.holds Try.pinned (OpenSpec.ofChange fnExactPieceRegionWrong)

/-- 'laws.FnExactPieceForms': WHATEVER THE INPUT: true; the input reads as it did. -/
def fnExactPieceFormsSpec : ChangeSpec := { name := "fnExactPieceForms", fn := fun _ => fun
  | [d] => { results := [.lit (.bool true)], args := [d] }
  | _ => none }
def fnExactPieceFormsRow : OpenClaim := { program := "ytojlicpimkjegaa", sum := "dcba192c1e75580b885ed6b9d9c6b4b4d33593eca2ffe639d8d778f0eb2aa643", func := "loop.example/dominotilings/laws.FnExactPieceForms", spec := "fnExactPieceForms", unfollowed := true, recurses := true, apart := false }
def FnExactPieceFormsSaid : Prop := fnExactPieceFormsRow.holds Try.pinned (OpenSpec.ofChange fnExactPieceFormsSpec)

/-- ITS FALSE NEIGHBOUR: 'it returns false'. Refute it at one input. -/
def fnExactPieceFormsWrong : ChangeSpec := { name := "fnExactPieceForms", fn := fun _ => fun
  | [d] => { results := [.lit (.bool false)], args := [d] }
  | _ => none }
def FnExactPieceFormsWrongFalsely : Prop := fnExactPieceFormsRow.holds Try.pinned (OpenSpec.ofChange fnExactPieceFormsWrong)

/-- 'laws.FnExactPieceFirst': WHATEVER THE INPUT: true; the input reads as it did. -/
def fnExactPieceFirstSpec : ChangeSpec := { name := "fnExactPieceFirst", fn := fun _ => fun
  | [d] => { results := [.lit (.bool true)], args := [d] }
  | _ => none }
def fnExactPieceFirstRow : OpenClaim := { program := "ytojlicpimkjegaa", sum := "dcba192c1e75580b885ed6b9d9c6b4b4d33593eca2ffe639d8d778f0eb2aa643", func := "loop.example/dominotilings/laws.FnExactPieceFirst", spec := "fnExactPieceFirst", unfollowed := true, recurses := true, apart := false }
def FnExactPieceFirstSaid : Prop := fnExactPieceFirstRow.holds Try.pinned (OpenSpec.ofChange fnExactPieceFirstSpec)

/-- ITS FALSE NEIGHBOUR: 'it returns false'. Refute it at one input. -/
def fnExactPieceFirstWrong : ChangeSpec := { name := "fnExactPieceFirst", fn := fun _ => fun
  | [d] => { results := [.lit (.bool false)], args := [d] }
  | _ => none }
def FnExactPieceFirstWrongFalsely : Prop := fnExactPieceFirstRow.holds Try.pinned (OpenSpec.ofChange fnExactPieceFirstWrong)

/-- 'laws.FnExactSamePiece': WHATEVER THE INPUT: true; the input reads as it did. -/
def fnExactSamePieceSpec : ChangeSpec := { name := "fnExactSamePiece", fn := fun _ => fun
  | [d1, d2] => { results := [.lit (.bool true)], args := [d1, d2] }
  | _ => none }
def fnExactSamePieceRow : OpenClaim := { program := "ytojlicpimkjegaa", sum := "dcba192c1e75580b885ed6b9d9c6b4b4d33593eca2ffe639d8d778f0eb2aa643", func := "loop.example/dominotilings/laws.FnExactSamePiece", spec := "fnExactSamePiece", unfollowed := true, recurses := true, apart := false }
def FnExactSamePieceSaid : Prop := fnExactSamePieceRow.holds Try.pinned (OpenSpec.ofChange fnExactSamePieceSpec)

/-- ITS FALSE NEIGHBOUR: 'it returns false'. Refute it at one input. -/
def fnExactSamePieceWrong : ChangeSpec := { name := "fnExactSamePiece", fn := fun _ => fun
  | [d1, d2] => { results := [.lit (.bool false)], args := [d1, d2] }
  | _ => none }
def FnExactSamePieceWrongFalsely : Prop := fnExactSamePieceRow.holds Try.pinned (OpenSpec.ofChange fnExactSamePieceWrong)

/-- 'laws.FnDarkCells': WHATEVER THE INPUT: true; the input reads as it did. -/
def fnDarkCellsSpec : ChangeSpec := { name := "fnDarkCells", fn := fun _ => fun
  | [d] => { results := [.lit (.bool true)], args := [d] }
  | _ => none }
def fnDarkCellsRow : OpenClaim := { program := "ytojlicpimkjegaa", sum := "dcba192c1e75580b885ed6b9d9c6b4b4d33593eca2ffe639d8d778f0eb2aa643", func := "loop.example/dominotilings/laws.FnDarkCells", spec := "fnDarkCells", recurses := true, apart := false }
def FnDarkCellsSaid : Prop := fnDarkCellsRow.holds Try.pinned (OpenSpec.ofChange fnDarkCellsSpec)

/-- ITS FALSE NEIGHBOUR: 'it returns false'. Refute it at one input. -/
def fnDarkCellsWrong : ChangeSpec := { name := "fnDarkCells", fn := fun _ => fun
  | [d] => { results := [.lit (.bool false)], args := [d] }
  | _ => none }
def FnDarkCellsWrongFalsely : Prop := fnDarkCellsRow.holds Try.pinned (OpenSpec.ofChange fnDarkCellsWrong)

/-- 'laws.FnCellsBeside': WHATEVER THE INPUT: true; the input reads as it did. -/
def fnCellsBesideSpec : ChangeSpec := { name := "fnCellsBeside", fn := fun _ => fun
  | [d] => { results := [.lit (.bool true)], args := [d] }
  | _ => none }
def fnCellsBesideRow : OpenClaim := { program := "ytojlicpimkjegaa", sum := "dcba192c1e75580b885ed6b9d9c6b4b4d33593eca2ffe639d8d778f0eb2aa643", func := "loop.example/dominotilings/laws.FnCellsBeside", spec := "fnCellsBeside", recurses := true, apart := false }
def FnCellsBesideSaid : Prop := fnCellsBesideRow.holds Try.pinned (OpenSpec.ofChange fnCellsBesideSpec)

/-- ITS FALSE NEIGHBOUR: 'it returns false'. Refute it at one input. -/
def fnCellsBesideWrong : ChangeSpec := { name := "fnCellsBeside", fn := fun _ => fun
  | [d] => { results := [.lit (.bool false)], args := [d] }
  | _ => none }
def FnCellsBesideWrongFalsely : Prop := fnCellsBesideRow.holds Try.pinned (OpenSpec.ofChange fnCellsBesideWrong)

/- THE SECOND FORM. 'bulk': how many values and letters a reading holds, each counted each time it is reached (what is shared counts as often as it is met; a slice's spare places count too). A statement '..UptoSaid' is the law's where the arguments, and the package variables that the reading takes, are together of bulk at most 1048576: NARROWER than '..Said'. Prove '..Said' where nothing that the law and all that it calls make is longer than what came in: it says more and counts as full. Else prove '..UptoSaid'. A law counts once. -/
mutual
def uptoBulk {H : Type} : DataW H → Nat
  | .lit (.string bytes) => bytes.length + 1
  | .lit _ => 1
  | .nil => 1
  | .ptr d => uptoBulk d + 1
  | .slice elems spare => uptoBulkAll elems + uptoBulkAll spare + 1
  | .agg parts => uptoBulkAll parts + 1
  | .iface _ d => uptoBulk d + 1
  | .map entries => uptoBulkEntries entries + 1
  | .held _ => 1
def uptoBulkAll {H : Type} : List (DataW H) → Nat
  | [] => 0
  | d :: r => uptoBulk d + uptoBulkAll r
def uptoBulkEntries {H : Type} : List (Lit × DataW H) → Nat
  | [] => 0
  | x :: r => uptoBulkEntry x + uptoBulkEntries r
def uptoBulkEntry {H : Type} : Lit × DataW H → Nat
  | (.string bytes, d) => bytes.length + uptoBulk d + 1
  | (_, d) => uptoBulk d + 1
 end
def uptoSmall : (H : Type) → List (DataW H) → Bool := fun _ ds => decide (uptoBulkAll ds ≤ 1048576)
def OpenSpec.upto (s : _root_.Go.ChangeSpec) : _root_.Go.OpenSpec := { _root_.Go.OpenSpec.ofChange s with cond := some uptoSmall }

/-- 'laws.FnExactCellsBeside', WHERE WHAT IT READS IS OF BULK AT MOST 1048576: true; the input reads as it did. -/
def fnExactCellsBesideUptoRow : OpenClaim := { program := "ytojlicpimkjegaa", sum := "dcba192c1e75580b885ed6b9d9c6b4b4d33593eca2ffe639d8d778f0eb2aa643", func := "loop.example/dominotilings/laws.FnExactCellsBeside", spec := "fnExactCellsBeside", recurses := true, apart := false, narrowed := true }
def FnExactCellsBesideUptoSaid : Prop := fnExactCellsBesideUptoRow.holds Try.pinned (OpenSpec.upto fnExactCellsBesideSpec)

/-- 'laws.FnExactLackMost', WHERE WHAT IT READS IS OF BULK AT MOST 1048576: true; the input reads as it did. -/
def fnExactLackMostUptoRow : OpenClaim := { program := "ytojlicpimkjegaa", sum := "dcba192c1e75580b885ed6b9d9c6b4b4d33593eca2ffe639d8d778f0eb2aa643", func := "loop.example/dominotilings/laws.FnExactLackMost", spec := "fnExactLackMost", recurses := true, apart := false, narrowed := true }
def FnExactLackMostUptoSaid : Prop := fnExactLackMostUptoRow.holds Try.pinned (OpenSpec.upto fnExactLackMostSpec)

/-- 'laws.FnExactLackSet', WHERE WHAT IT READS IS OF BULK AT MOST 1048576: true; the input reads as it did. -/
def fnExactLackSetUptoRow : OpenClaim := { program := "ytojlicpimkjegaa", sum := "dcba192c1e75580b885ed6b9d9c6b4b4d33593eca2ffe639d8d778f0eb2aa643", func := "loop.example/dominotilings/laws.FnExactLackSet", spec := "fnExactLackSet", recurses := true, apart := false, narrowed := true }
def FnExactLackSetUptoSaid : Prop := fnExactLackSetUptoRow.holds Try.pinned (OpenSpec.upto fnExactLackSetSpec)

/-- 'laws.FnExactPieceMoved', WHERE WHAT IT READS IS OF BULK AT MOST 1048576: true; the input reads as it did. -/
def fnExactPieceMovedUptoRow : OpenClaim := { program := "ytojlicpimkjegaa", sum := "dcba192c1e75580b885ed6b9d9c6b4b4d33593eca2ffe639d8d778f0eb2aa643", func := "loop.example/dominotilings/laws.FnExactPieceMoved", spec := "fnExactPieceMoved", unfollowed := true, recurses := true, apart := false, narrowed := true }
def FnExactPieceMovedUptoSaid : Prop := fnExactPieceMovedUptoRow.holds Try.pinned (OpenSpec.upto fnExactPieceMovedSpec)

/-- 'laws.FnExactPieceTurn', WHERE WHAT IT READS IS OF BULK AT MOST 1048576: true; the input reads as it did. -/
def fnExactPieceTurnUptoRow : OpenClaim := { program := "ytojlicpimkjegaa", sum := "dcba192c1e75580b885ed6b9d9c6b4b4d33593eca2ffe639d8d778f0eb2aa643", func := "loop.example/dominotilings/laws.FnExactPieceTurn", spec := "fnExactPieceTurn", unfollowed := true, recurses := true, apart := false, narrowed := true }
def FnExactPieceTurnUptoSaid : Prop := fnExactPieceTurnUptoRow.holds Try.pinned (OpenSpec.upto fnExactPieceTurnSpec)

/-- 'laws.FnExactPieceFlip', WHERE WHAT IT READS IS OF BULK AT MOST 1048576: true; the input reads as it did. -/
def fnExactPieceFlipUptoRow : OpenClaim := { program := "ytojlicpimkjegaa", sum := "dcba192c1e75580b885ed6b9d9c6b4b4d33593eca2ffe639d8d778f0eb2aa643", func := "loop.example/dominotilings/laws.FnExactPieceFlip", spec := "fnExactPieceFlip", unfollowed := true, recurses := true, apart := false, narrowed := true }
def FnExactPieceFlipUptoSaid : Prop := fnExactPieceFlipUptoRow.holds Try.pinned (OpenSpec.upto fnExactPieceFlipSpec)

/-- 'laws.FnExactPieceRegion', WHERE WHAT IT READS IS OF BULK AT MOST 1048576: true; the input reads as it did. -/
def fnExactPieceRegionUptoRow : OpenClaim := { program := "ytojlicpimkjegaa", sum := "dcba192c1e75580b885ed6b9d9c6b4b4d33593eca2ffe639d8d778f0eb2aa643", func := "loop.example/dominotilings/laws.FnExactPieceRegion", spec := "fnExactPieceRegion", unfollowed := true, recurses := true, apart := false, narrowed := true }
def FnExactPieceRegionUptoSaid : Prop := fnExactPieceRegionUptoRow.holds Try.pinned (OpenSpec.upto fnExactPieceRegionSpec)

/-- 'laws.FnExactPieceForms', WHERE WHAT IT READS IS OF BULK AT MOST 1048576: true; the input reads as it did. -/
def fnExactPieceFormsUptoRow : OpenClaim := { program := "ytojlicpimkjegaa", sum := "dcba192c1e75580b885ed6b9d9c6b4b4d33593eca2ffe639d8d778f0eb2aa643", func := "loop.example/dominotilings/laws.FnExactPieceForms", spec := "fnExactPieceForms", unfollowed := true, recurses := true, apart := false, narrowed := true }
def FnExactPieceFormsUptoSaid : Prop := fnExactPieceFormsUptoRow.holds Try.pinned (OpenSpec.upto fnExactPieceFormsSpec)

/-- 'laws.FnExactPieceFirst', WHERE WHAT IT READS IS OF BULK AT MOST 1048576: true; the input reads as it did. -/
def fnExactPieceFirstUptoRow : OpenClaim := { program := "ytojlicpimkjegaa", sum := "dcba192c1e75580b885ed6b9d9c6b4b4d33593eca2ffe639d8d778f0eb2aa643", func := "loop.example/dominotilings/laws.FnExactPieceFirst", spec := "fnExactPieceFirst", unfollowed := true, recurses := true, apart := false, narrowed := true }
def FnExactPieceFirstUptoSaid : Prop := fnExactPieceFirstUptoRow.holds Try.pinned (OpenSpec.upto fnExactPieceFirstSpec)

/-- 'laws.FnExactSamePiece', WHERE WHAT IT READS IS OF BULK AT MOST 1048576: true; the input reads as it did. -/
def fnExactSamePieceUptoRow : OpenClaim := { program := "ytojlicpimkjegaa", sum := "dcba192c1e75580b885ed6b9d9c6b4b4d33593eca2ffe639d8d778f0eb2aa643", func := "loop.example/dominotilings/laws.FnExactSamePiece", spec := "fnExactSamePiece", unfollowed := true, recurses := true, apart := false, narrowed := true }
def FnExactSamePieceUptoSaid : Prop := fnExactSamePieceUptoRow.holds Try.pinned (OpenSpec.upto fnExactSamePieceSpec)

/-- 'laws.FnDarkCells', WHERE WHAT IT READS IS OF BULK AT MOST 1048576: true; the input reads as it did. -/
def fnDarkCellsUptoRow : OpenClaim := { program := "ytojlicpimkjegaa", sum := "dcba192c1e75580b885ed6b9d9c6b4b4d33593eca2ffe639d8d778f0eb2aa643", func := "loop.example/dominotilings/laws.FnDarkCells", spec := "fnDarkCells", recurses := true, apart := false, narrowed := true }
def FnDarkCellsUptoSaid : Prop := fnDarkCellsUptoRow.holds Try.pinned (OpenSpec.upto fnDarkCellsSpec)

/-- 'laws.FnCellsBeside', WHERE WHAT IT READS IS OF BULK AT MOST 1048576: true; the input reads as it did. -/
def fnCellsBesideUptoRow : OpenClaim := { program := "ytojlicpimkjegaa", sum := "dcba192c1e75580b885ed6b9d9c6b4b4d33593eca2ffe639d8d778f0eb2aa643", func := "loop.example/dominotilings/laws.FnCellsBeside", spec := "fnCellsBeside", recurses := true, apart := false, narrowed := true }
def FnCellsBesideUptoSaid : Prop := fnCellsBesideUptoRow.holds Try.pinned (OpenSpec.upto fnCellsBesideSpec)

end Rows
end Go.Proofs.Ytojlicpimkjegaa
