/-
  No cell of these rows narrows 'for every input' (looked for: loops, veiled, ifaces, maps, wideKeys, modest, calm, conditions, laid).
  DERIVED. THE GIVEN ROWS OF THIS SEAT. 12 by the template 'for every input the law returns true; each argument reads behind the call as it read before'; 0 by the template 'total and deterministic' (their statements: YtcghbpnhdpmilaaTotals.lean).
  GIVEN WITH THE SEED: the statements are not yours to turn. If you find one false, say at which input.
  Laid BY PROGRAM, IN A SANDBOX (cutbox-rows.mjs): the forced cells as the released guide's own fill.sh prints them over the translation 9c4bdaf293d95e89… (all of the seat's roots in one cut). By AI agents, Wed Nov 11 2026. No macro, syntax, notation, axiom, sorry.
-/
import Derived.Test.YtcghbpnhdpmilaaChecked
import GoSem.Claim
import GoSem.ClaimJoined
import GoSem.ClaimMapViews
import Derived.JoinedTies
import Derived.KernelRfl
namespace Go.Proofs.Ytcghbpnhdpmilaa
/- THE CELL 'sum', in the pinned program and in every row, IS THE sha256 OF THE DUMP (.gsa) THAT YtcghbpnhdpmilaaProg.lean LOADS. Nothing in Lean hashes anything: it is a label: what it is worth is what the hold of that sum in a sandbox is worth. -/
noncomputable def Try.pinned : Pinned := { name := "ytcghbpnhdpmilaa", sum := "9c4bdaf293d95e89d4065f400ed3855f020e8b894da835f59586a110b42cc0d5", checked := Try.checked }
namespace Rows
def none {H : Type} : Left H := { results := [], args := [] }

/-- 'laws.FnPieceMoved': WHATEVER THE INPUT: true; the input reads as it did. -/
def fnPieceMovedSpec : ChangeSpec := { name := "fnPieceMoved", fn := fun _ => fun
  | [d] => { results := [.lit (.bool true)], args := [d] }
  | _ => none }
def fnPieceMovedRow : OpenClaim := { program := "ytcghbpnhdpmilaa", sum := "9c4bdaf293d95e89d4065f400ed3855f020e8b894da835f59586a110b42cc0d5", func := "loop.example/dominotilings/laws.FnPieceMoved", spec := "fnPieceMoved", unfollowed := true, recurses := true, apart := false }
def FnPieceMovedSaid : Prop := fnPieceMovedRow.holds Try.pinned (OpenSpec.ofChange fnPieceMovedSpec)

/-- ITS FALSE NEIGHBOUR: 'it returns false'. Refute it at one input. -/
def fnPieceMovedWrong : ChangeSpec := { name := "fnPieceMoved", fn := fun _ => fun
  | [d] => { results := [.lit (.bool false)], args := [d] }
  | _ => none }
def FnPieceMovedWrongFalsely : Prop := fnPieceMovedRow.holds Try.pinned (OpenSpec.ofChange fnPieceMovedWrong)

/-- 'laws.FnPieceTurn': WHATEVER THE INPUT: true; the input reads as it did. -/
def fnPieceTurnSpec : ChangeSpec := { name := "fnPieceTurn", fn := fun _ => fun
  | [d] => { results := [.lit (.bool true)], args := [d] }
  | _ => none }
def fnPieceTurnRow : OpenClaim := { program := "ytcghbpnhdpmilaa", sum := "9c4bdaf293d95e89d4065f400ed3855f020e8b894da835f59586a110b42cc0d5", func := "loop.example/dominotilings/laws.FnPieceTurn", spec := "fnPieceTurn", unfollowed := true, recurses := true, apart := false }
def FnPieceTurnSaid : Prop := fnPieceTurnRow.holds Try.pinned (OpenSpec.ofChange fnPieceTurnSpec)

/-- ITS FALSE NEIGHBOUR: 'it returns false'. Refute it at one input. -/
def fnPieceTurnWrong : ChangeSpec := { name := "fnPieceTurn", fn := fun _ => fun
  | [d] => { results := [.lit (.bool false)], args := [d] }
  | _ => none }
def FnPieceTurnWrongFalsely : Prop := fnPieceTurnRow.holds Try.pinned (OpenSpec.ofChange fnPieceTurnWrong)

/-- 'laws.FnPieceFlip': WHATEVER THE INPUT: true; the input reads as it did. -/
def fnPieceFlipSpec : ChangeSpec := { name := "fnPieceFlip", fn := fun _ => fun
  | [d] => { results := [.lit (.bool true)], args := [d] }
  | _ => none }
def fnPieceFlipRow : OpenClaim := { program := "ytcghbpnhdpmilaa", sum := "9c4bdaf293d95e89d4065f400ed3855f020e8b894da835f59586a110b42cc0d5", func := "loop.example/dominotilings/laws.FnPieceFlip", spec := "fnPieceFlip", unfollowed := true, recurses := true, apart := false }
def FnPieceFlipSaid : Prop := fnPieceFlipRow.holds Try.pinned (OpenSpec.ofChange fnPieceFlipSpec)

/-- ITS FALSE NEIGHBOUR: 'it returns false'. Refute it at one input. -/
def fnPieceFlipWrong : ChangeSpec := { name := "fnPieceFlip", fn := fun _ => fun
  | [d] => { results := [.lit (.bool false)], args := [d] }
  | _ => none }
def FnPieceFlipWrongFalsely : Prop := fnPieceFlipRow.holds Try.pinned (OpenSpec.ofChange fnPieceFlipWrong)

/-- 'laws.FnExactPieceForms': WHATEVER THE INPUT: true; the input reads as it did. -/
def fnExactPieceFormsSpec : ChangeSpec := { name := "fnExactPieceForms", fn := fun _ => fun
  | [d] => { results := [.lit (.bool true)], args := [d] }
  | _ => none }
def fnExactPieceFormsRow : OpenClaim := { program := "ytcghbpnhdpmilaa", sum := "9c4bdaf293d95e89d4065f400ed3855f020e8b894da835f59586a110b42cc0d5", func := "loop.example/dominotilings/laws.FnExactPieceForms", spec := "fnExactPieceForms", unfollowed := true, recurses := true, apart := false }
def FnExactPieceFormsSaid : Prop := fnExactPieceFormsRow.holds Try.pinned (OpenSpec.ofChange fnExactPieceFormsSpec)

/-- ITS FALSE NEIGHBOUR: 'it returns false'. Refute it at one input. -/
def fnExactPieceFormsWrong : ChangeSpec := { name := "fnExactPieceForms", fn := fun _ => fun
  | [d] => { results := [.lit (.bool false)], args := [d] }
  | _ => none }
def FnExactPieceFormsWrongFalsely : Prop := fnExactPieceFormsRow.holds Try.pinned (OpenSpec.ofChange fnExactPieceFormsWrong)

/-- 'laws.FnExactSamePiece': WHATEVER THE INPUT: true; the input reads as it did. -/
def fnExactSamePieceSpec : ChangeSpec := { name := "fnExactSamePiece", fn := fun _ => fun
  | [d1, d2] => { results := [.lit (.bool true)], args := [d1, d2] }
  | _ => none }
def fnExactSamePieceRow : OpenClaim := { program := "ytcghbpnhdpmilaa", sum := "9c4bdaf293d95e89d4065f400ed3855f020e8b894da835f59586a110b42cc0d5", func := "loop.example/dominotilings/laws.FnExactSamePiece", spec := "fnExactSamePiece", unfollowed := true, recurses := true, apart := false }
def FnExactSamePieceSaid : Prop := fnExactSamePieceRow.holds Try.pinned (OpenSpec.ofChange fnExactSamePieceSpec)

/-- ITS FALSE NEIGHBOUR: 'it returns false'. Refute it at one input. -/
def fnExactSamePieceWrong : ChangeSpec := { name := "fnExactSamePiece", fn := fun _ => fun
  | [d1, d2] => { results := [.lit (.bool false)], args := [d1, d2] }
  | _ => none }
def FnExactSamePieceWrongFalsely : Prop := fnExactSamePieceRow.holds Try.pinned (OpenSpec.ofChange fnExactSamePieceWrong)

/-- 'laws.FnExactPieceFirst': WHATEVER THE INPUT: true; the input reads as it did. -/
def fnExactPieceFirstSpec : ChangeSpec := { name := "fnExactPieceFirst", fn := fun _ => fun
  | [d] => { results := [.lit (.bool true)], args := [d] }
  | _ => none }
def fnExactPieceFirstRow : OpenClaim := { program := "ytcghbpnhdpmilaa", sum := "9c4bdaf293d95e89d4065f400ed3855f020e8b894da835f59586a110b42cc0d5", func := "loop.example/dominotilings/laws.FnExactPieceFirst", spec := "fnExactPieceFirst", unfollowed := true, recurses := true, apart := false }
def FnExactPieceFirstSaid : Prop := fnExactPieceFirstRow.holds Try.pinned (OpenSpec.ofChange fnExactPieceFirstSpec)

/-- ITS FALSE NEIGHBOUR: 'it returns false'. Refute it at one input. -/
def fnExactPieceFirstWrong : ChangeSpec := { name := "fnExactPieceFirst", fn := fun _ => fun
  | [d] => { results := [.lit (.bool false)], args := [d] }
  | _ => none }
def FnExactPieceFirstWrongFalsely : Prop := fnExactPieceFirstRow.holds Try.pinned (OpenSpec.ofChange fnExactPieceFirstWrong)

/-- 'laws.FnExactPieceRegion': WHATEVER THE INPUT: true; the input reads as it did. -/
def fnExactPieceRegionSpec : ChangeSpec := { name := "fnExactPieceRegion", fn := fun _ => fun
  | [d] => { results := [.lit (.bool true)], args := [d] }
  | _ => none }
def fnExactPieceRegionRow : OpenClaim := { program := "ytcghbpnhdpmilaa", sum := "9c4bdaf293d95e89d4065f400ed3855f020e8b894da835f59586a110b42cc0d5", func := "loop.example/dominotilings/laws.FnExactPieceRegion", spec := "fnExactPieceRegion", unfollowed := true, recurses := true, apart := false }
def FnExactPieceRegionSaid : Prop := fnExactPieceRegionRow.holds Try.pinned (OpenSpec.ofChange fnExactPieceRegionSpec)

/-- ITS FALSE NEIGHBOUR: 'it returns false'. Refute it at one input. -/
def fnExactPieceRegionWrong : ChangeSpec := { name := "fnExactPieceRegion", fn := fun _ => fun
  | [d] => { results := [.lit (.bool false)], args := [d] }
  | _ => none }
def FnExactPieceRegionWrongFalsely : Prop := fnExactPieceRegionRow.holds Try.pinned (OpenSpec.ofChange fnExactPieceRegionWrong)

/-- 'laws.FnExactLaidMost': WHATEVER THE INPUT: true; the input reads as it did. -/
def fnExactLaidMostSpec : ChangeSpec := { name := "fnExactLaidMost", fn := fun _ => fun
  | [d] => { results := [.lit (.bool true)], args := [d] }
  | _ => none }
def fnExactLaidMostRow : OpenClaim := { program := "ytcghbpnhdpmilaa", sum := "9c4bdaf293d95e89d4065f400ed3855f020e8b894da835f59586a110b42cc0d5", func := "loop.example/dominotilings/laws.FnExactLaidMost", spec := "fnExactLaidMost", unfollowed := true, recurses := true, apart := false }
def FnExactLaidMostSaid : Prop := fnExactLaidMostRow.holds Try.pinned (OpenSpec.ofChange fnExactLaidMostSpec)

/-- ITS FALSE NEIGHBOUR: 'it returns false'. Refute it at one input. -/
def fnExactLaidMostWrong : ChangeSpec := { name := "fnExactLaidMost", fn := fun _ => fun
  | [d] => { results := [.lit (.bool false)], args := [d] }
  | _ => none }
def FnExactLaidMostWrongFalsely : Prop := fnExactLaidMostRow.holds Try.pinned (OpenSpec.ofChange fnExactLaidMostWrong)

/-- 'laws.FnPieceForms': WHATEVER THE INPUT: true; the input reads as it did. -/
def fnPieceFormsSpec : ChangeSpec := { name := "fnPieceForms", fn := fun _ => fun
  | [d] => { results := [.lit (.bool true)], args := [d] }
  | _ => none }
def fnPieceFormsRow : OpenClaim := { program := "ytcghbpnhdpmilaa", sum := "9c4bdaf293d95e89d4065f400ed3855f020e8b894da835f59586a110b42cc0d5", func := "loop.example/dominotilings/laws.FnPieceForms", spec := "fnPieceForms", unfollowed := true, recurses := true, apart := false }
def FnPieceFormsSaid : Prop := fnPieceFormsRow.holds Try.pinned (OpenSpec.ofChange fnPieceFormsSpec)

/-- ITS FALSE NEIGHBOUR: 'it returns false'. Refute it at one input. -/
def fnPieceFormsWrong : ChangeSpec := { name := "fnPieceForms", fn := fun _ => fun
  | [d] => { results := [.lit (.bool false)], args := [d] }
  | _ => none }
def FnPieceFormsWrongFalsely : Prop := fnPieceFormsRow.holds Try.pinned (OpenSpec.ofChange fnPieceFormsWrong)

/-- 'laws.FnSamePiece': WHATEVER THE INPUT: true; the input reads as it did. -/
def fnSamePieceSpec : ChangeSpec := { name := "fnSamePiece", fn := fun _ => fun
  | [d] => { results := [.lit (.bool true)], args := [d] }
  | _ => none }
def fnSamePieceRow : OpenClaim := { program := "ytcghbpnhdpmilaa", sum := "9c4bdaf293d95e89d4065f400ed3855f020e8b894da835f59586a110b42cc0d5", func := "loop.example/dominotilings/laws.FnSamePiece", spec := "fnSamePiece", unfollowed := true, recurses := true, apart := false }
def FnSamePieceSaid : Prop := fnSamePieceRow.holds Try.pinned (OpenSpec.ofChange fnSamePieceSpec)

/-- ITS FALSE NEIGHBOUR: 'it returns false'. Refute it at one input. -/
def fnSamePieceWrong : ChangeSpec := { name := "fnSamePiece", fn := fun _ => fun
  | [d] => { results := [.lit (.bool false)], args := [d] }
  | _ => none }
def FnSamePieceWrongFalsely : Prop := fnSamePieceRow.holds Try.pinned (OpenSpec.ofChange fnSamePieceWrong)

/-- 'laws.FnCellsBeside': WHATEVER THE INPUT: true; the input reads as it did. -/
def fnCellsBesideSpec : ChangeSpec := { name := "fnCellsBeside", fn := fun _ => fun
  | [d] => { results := [.lit (.bool true)], args := [d] }
  | _ => none }
def fnCellsBesideRow : OpenClaim := { program := "ytcghbpnhdpmilaa", sum := "9c4bdaf293d95e89d4065f400ed3855f020e8b894da835f59586a110b42cc0d5", func := "loop.example/dominotilings/laws.FnCellsBeside", spec := "fnCellsBeside", recurses := true, apart := false }
def FnCellsBesideSaid : Prop := fnCellsBesideRow.holds Try.pinned (OpenSpec.ofChange fnCellsBesideSpec)

/-- ITS FALSE NEIGHBOUR: 'it returns false'. Refute it at one input. -/
def fnCellsBesideWrong : ChangeSpec := { name := "fnCellsBeside", fn := fun _ => fun
  | [d] => { results := [.lit (.bool false)], args := [d] }
  | _ => none }
def FnCellsBesideWrongFalsely : Prop := fnCellsBesideRow.holds Try.pinned (OpenSpec.ofChange fnCellsBesideWrong)

/-- 'laws.FnExactPiecesAll': WHATEVER THE INPUT: true; the input reads as it did. -/
def fnExactPiecesAllSpec : ChangeSpec := { name := "fnExactPiecesAll", fn := fun _ => fun
  | [d] => { results := [.lit (.bool true)], args := [d] }
  | _ => none }
def fnExactPiecesAllRow : OpenClaim := { program := "ytcghbpnhdpmilaa", sum := "9c4bdaf293d95e89d4065f400ed3855f020e8b894da835f59586a110b42cc0d5", func := "loop.example/dominotilings/laws.FnExactPiecesAll", spec := "fnExactPiecesAll", unfollowed := true, recurses := true, apart := false }
def FnExactPiecesAllSaid : Prop := fnExactPiecesAllRow.holds Try.pinned (OpenSpec.ofChange fnExactPiecesAllSpec)

/-- ITS FALSE NEIGHBOUR: 'it returns false'. Refute it at one input. -/
def fnExactPiecesAllWrong : ChangeSpec := { name := "fnExactPiecesAll", fn := fun _ => fun
  | [d] => { results := [.lit (.bool false)], args := [d] }
  | _ => none }
def FnExactPiecesAllWrongFalsely : Prop := fnExactPiecesAllRow.holds Try.pinned (OpenSpec.ofChange fnExactPiecesAllWrong)

/- THE SECOND FORM. 'bulk': how many values and letters a reading holds, each counted each time it is reached (what is shared counts as often as it is met; a slice's spare places count too). A statement '..UptoSaid' is the law's where the arguments, and the package variables that the reading takes, are together of bulk at most 1048576: NARROWER than '..Said'. Prove '..Said' where nothing that the law and all that it calls make is longer than what came in: it says more and counts as full. Else prove '..UptoSaid'. A law counts once. -/
mutual
def uptoBulk {H : Type} : DataW H → Nat
  | .lit (.string bytes) => bytes.length + 1
  | .lit _ => 1
  | .nil => 1
  | .ptr d => uptoBulk d + 1
  | .slice elems spare => uptoBulkAll elems + uptoBulkAll spare + 1
  | .agg parts => uptoBulkAll parts + 1
  | .iface _ d => uptoBulk d + 1
  | .map entries => uptoBulkEntries entries + 1
  | .held _ => 1
def uptoBulkAll {H : Type} : List (DataW H) → Nat
  | [] => 0
  | d :: r => uptoBulk d + uptoBulkAll r
def uptoBulkEntries {H : Type} : List (Lit × DataW H) → Nat
  | [] => 0
  | x :: r => uptoBulkEntry x + uptoBulkEntries r
def uptoBulkEntry {H : Type} : Lit × DataW H → Nat
  | (.string bytes, d) => bytes.length + uptoBulk d + 1
  | (_, d) => uptoBulk d + 1
 end
def uptoSmall : (H : Type) → List (DataW H) → Bool := fun _ ds => decide (uptoBulkAll ds ≤ 1048576)
def OpenSpec.upto (s : _root_.Go.ChangeSpec) : _root_.Go.OpenSpec := { _root_.Go.OpenSpec.ofChange s with cond := some uptoSmall }

/-- 'laws.FnPieceMoved', WHERE WHAT IT READS IS OF BULK AT MOST 1048576: true; the input reads as it did. -/
def fnPieceMovedUptoRow : OpenClaim := { program := "ytcghbpnhdpmilaa", sum := "9c4bdaf293d95e89d4065f400ed3855f020e8b894da835f59586a110b42cc0d5", func := "loop.example/dominotilings/laws.FnPieceMoved", spec := "fnPieceMoved", unfollowed := true, recurses := true, apart := false, narrowed := true }
def FnPieceMovedUptoSaid : Prop := fnPieceMovedUptoRow.holds Try.pinned (OpenSpec.upto fnPieceMovedSpec)

/-- 'laws.FnPieceTurn', WHERE WHAT IT READS IS OF BULK AT MOST 1048576: true; the input reads as it did. -/
def fnPieceTurnUptoRow : OpenClaim := { program := "ytcghbpnhdpmilaa", sum := "9c4bdaf293d95e89d4065f400ed3855f020e8b894da835f59586a110b42cc0d5", func := "loop.example/dominotilings/laws.FnPieceTurn", spec := "fnPieceTurn", unfollowed := true, recurses := true, apart := false, narrowed := true }
def FnPieceTurnUptoSaid : Prop := fnPieceTurnUptoRow.holds Try.pinned (OpenSpec.upto fnPieceTurnSpec)

/-- 'laws.FnPieceFlip', WHERE WHAT IT READS IS OF BULK AT MOST 1048576: true; the input reads as it did. -/
def fnPieceFlipUptoRow : OpenClaim := { program := "ytcghbpnhdpmilaa", sum := "9c4bdaf293d95e89d4065f400ed3855f020e8b894da835f59586a110b42cc0d5", func := "loop.example/dominotilings/laws.FnPieceFlip", spec := "fnPieceFlip", unfollowed := true, recurses := true, apart := false, narrowed := true }
def FnPieceFlipUptoSaid : Prop := fnPieceFlipUptoRow.holds Try.pinned (OpenSpec.upto fnPieceFlipSpec)

/-- 'laws.FnExactPieceForms', WHERE WHAT IT READS IS OF BULK AT MOST 1048576: true; the input reads as it did. -/
def fnExactPieceFormsUptoRow : OpenClaim := { program := "ytcghbpnhdpmilaa", sum := "9c4bdaf293d95e89d4065f400ed3855f020e8b894da835f59586a110b42cc0d5", func := "loop.example/dominotilings/laws.FnExactPieceForms", spec := "fnExactPieceForms", unfollowed := true, recurses := true, apart := false, narrowed := true }
def FnExactPieceFormsUptoSaid : Prop := fnExactPieceFormsUptoRow.holds Try.pinned (OpenSpec.upto fnExactPieceFormsSpec)

/-- 'laws.FnExactSamePiece', WHERE WHAT IT READS IS OF BULK AT MOST 1048576: true; the input reads as it did. -/
def fnExactSamePieceUptoRow : OpenClaim := { program := "ytcghbpnhdpmilaa", sum := "9c4bdaf293d95e89d4065f400ed3855f020e8b894da835f59586a110b42cc0d5", func := "loop.example/dominotilings/laws.FnExactSamePiece", spec := "fnExactSamePiece", unfollowed := true, recurses := true, apart := false, narrowed := true }
def FnExactSamePieceUptoSaid : Prop := fnExactSamePieceUptoRow.holds Try.pinned (OpenSpec.upto fnExactSamePieceSpec)

/-- 'laws.FnExactPieceFirst', WHERE WHAT IT READS IS OF BULK AT MOST 1048576: true; the input reads as it did. -/
def fnExactPieceFirstUptoRow : OpenClaim := { program := "ytcghbpnhdpmilaa", sum := "9c4bdaf293d95e89d4065f400ed3855f020e8b894da835f59586a110b42cc0d5", func := "loop.example/dominotilings/laws.FnExactPieceFirst", spec := "fnExactPieceFirst", unfollowed := true, recurses := true, apart := false, narrowed := true }
def FnExactPieceFirstUptoSaid : Prop := fnExactPieceFirstUptoRow.holds Try.pinned (OpenSpec.upto fnExactPieceFirstSpec)

/-- 'laws.FnExactPieceRegion', WHERE WHAT IT READS IS OF BULK AT MOST 1048576: true; the input reads as it did. -/
def fnExactPieceRegionUptoRow : OpenClaim := { program := "ytcghbpnhdpmilaa", sum := "9c4bdaf293d95e89d4065f400ed3855f020e8b894da835f59586a110b42cc0d5", func := "loop.example/dominotilings/laws.FnExactPieceRegion", spec := "fnExactPieceRegion", unfollowed := true, recurses := true, apart := false, narrowed := true }
def FnExactPieceRegionUptoSaid : Prop := fnExactPieceRegionUptoRow.holds Try.pinned (OpenSpec.upto fnExactPieceRegionSpec)

/-- 'laws.FnExactLaidMost', WHERE WHAT IT READS IS OF BULK AT MOST 1048576: true; the input reads as it did. -/
def fnExactLaidMostUptoRow : OpenClaim := { program := "ytcghbpnhdpmilaa", sum := "9c4bdaf293d95e89d4065f400ed3855f020e8b894da835f59586a110b42cc0d5", func := "loop.example/dominotilings/laws.FnExactLaidMost", spec := "fnExactLaidMost", unfollowed := true, recurses := true, apart := false, narrowed := true }
def FnExactLaidMostUptoSaid : Prop := fnExactLaidMostUptoRow.holds Try.pinned (OpenSpec.upto fnExactLaidMostSpec)

/-- 'laws.FnPieceForms', WHERE WHAT IT READS IS OF BULK AT MOST 1048576: true; the input reads as it did. -/
def fnPieceFormsUptoRow : OpenClaim := { program := "ytcghbpnhdpmilaa", sum := "9c4bdaf293d95e89d4065f400ed3855f020e8b894da835f59586a110b42cc0d5", func := "loop.example/dominotilings/laws.FnPieceForms", spec := "fnPieceForms", unfollowed := true, recurses := true, apart := false, narrowed := true }
def FnPieceFormsUptoSaid : Prop := fnPieceFormsUptoRow.holds Try.pinned (OpenSpec.upto fnPieceFormsSpec)

/-- 'laws.FnSamePiece', WHERE WHAT IT READS IS OF BULK AT MOST 1048576: true; the input reads as it did. -/
def fnSamePieceUptoRow : OpenClaim := { program := "ytcghbpnhdpmilaa", sum := "9c4bdaf293d95e89d4065f400ed3855f020e8b894da835f59586a110b42cc0d5", func := "loop.example/dominotilings/laws.FnSamePiece", spec := "fnSamePiece", unfollowed := true, recurses := true, apart := false, narrowed := true }
def FnSamePieceUptoSaid : Prop := fnSamePieceUptoRow.holds Try.pinned (OpenSpec.upto fnSamePieceSpec)

/-- 'laws.FnCellsBeside', WHERE WHAT IT READS IS OF BULK AT MOST 1048576: true; the input reads as it did. -/
def fnCellsBesideUptoRow : OpenClaim := { program := "ytcghbpnhdpmilaa", sum := "9c4bdaf293d95e89d4065f400ed3855f020e8b894da835f59586a110b42cc0d5", func := "loop.example/dominotilings/laws.FnCellsBeside", spec := "fnCellsBeside", recurses := true, apart := false, narrowed := true }
def FnCellsBesideUptoSaid : Prop := fnCellsBesideUptoRow.holds Try.pinned (OpenSpec.upto fnCellsBesideSpec)

/-- 'laws.FnExactPiecesAll', WHERE WHAT IT READS IS OF BULK AT MOST 1048576: true; the input reads as it did. -/
def fnExactPiecesAllUptoRow : OpenClaim := { program := "ytcghbpnhdpmilaa", sum := "9c4bdaf293d95e89d4065f400ed3855f020e8b894da835f59586a110b42cc0d5", func := "loop.example/dominotilings/laws.FnExactPiecesAll", spec := "fnExactPiecesAll", unfollowed := true, recurses := true, apart := false, narrowed := true }
def FnExactPiecesAllUptoSaid : Prop := fnExactPiecesAllUptoRow.holds Try.pinned (OpenSpec.upto fnExactPiecesAllSpec)

end Rows
end Go.Proofs.Ytcghbpnhdpmilaa
