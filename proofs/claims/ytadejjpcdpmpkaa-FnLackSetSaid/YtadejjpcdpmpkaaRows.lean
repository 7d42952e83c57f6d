/-
  No cell of these rows narrows 'for every input' (looked for: loops, veiled, ifaces, maps, wideKeys, modest, calm, conditions, laid).
  DERIVED. THE GIVEN ROWS OF THIS SEAT. 6 by the template 'for every input the law returns true; each argument reads behind the call as it read before'; 0 by the template 'total and deterministic' (their statements: YtadejjpcdpmpkaaTotals.lean).
  GIVEN WITH THE SEED: the statements are not yours to turn. If you find one false, say at which input.
  Laid BY PROGRAM, IN A SANDBOX (cutbox-rows.mjs): the forced cells as the released guide's own fill.sh prints them over the translation 43946180cbf29fc0… (all of the seat's roots in one cut). By AI agents, Wed Nov 11 2026. No macro, syntax, notation, axiom, sorry.
-/
import Derived.Test.YtadejjpcdpmpkaaChecked
import GoSem.Claim
import GoSem.ClaimJoined
import GoSem.ClaimMapViews
import Derived.JoinedTies
import Derived.KernelRfl
namespace Go.Proofs.Ytadejjpcdpmpkaa
/- THE CELL 'sum', in the pinned program and in every row, IS THE sha256 OF THE DUMP (.gsa) THAT YtadejjpcdpmpkaaProg.lean LOADS. Nothing in Lean hashes anything: it is a label: what it is worth is what the hold of that sum in a sandbox is worth. -/
noncomputable def Try.pinned : Pinned := { name := "ytadejjpcdpmpkaa", sum := "43946180cbf29fc03125d0ade779fb6ff48418a0fed3ffa062098d92a5eeb9aa", checked := Try.checked }
namespace Rows
def none {H : Type} : Left H := { results := [], args := [] }

/-- 'laws.FnLackSet': WHATEVER THE INPUT: true; the input reads as it did. -/
def fnLackSetSpec : ChangeSpec := { name := "fnLackSet", fn := fun _ => fun
  | [d] => { results := [.lit (.bool true)], args := [d] }
  | _ => none }
def fnLackSetRow : OpenClaim := { program := "ytadejjpcdpmpkaa", sum := "43946180cbf29fc03125d0ade779fb6ff48418a0fed3ffa062098d92a5eeb9aa", func := "loop.example/dominotilings/laws.FnLackSet", spec := "fnLackSet", recurses := true, apart := false }
def FnLackSetSaid : Prop := fnLackSetRow.holds Try.pinned (OpenSpec.ofChange fnLackSetSpec)

/-- ITS FALSE NEIGHBOUR: 'it returns false'. Refute it at one input. -/
def fnLackSetWrong : ChangeSpec := { name := "fnLackSet", fn := fun _ => fun
  | [d] => { results := [.lit (.bool false)], args := [d] }
  | _ => none }
def FnLackSetWrongFalsely : Prop := fnLackSetRow.holds Try.pinned (OpenSpec.ofChange fnLackSetWrong)

/-- 'laws.FnPieceMoved': WHATEVER THE INPUT: true; the input reads as it did. -/
def fnPieceMovedSpec : ChangeSpec := { name := "fnPieceMoved", fn := fun _ => fun
  | [d] => { results := [.lit (.bool true)], args := [d] }
  | _ => none }
def fnPieceMovedRow : OpenClaim := { program := "ytadejjpcdpmpkaa", sum := "43946180cbf29fc03125d0ade779fb6ff48418a0fed3ffa062098d92a5eeb9aa", func := "loop.example/dominotilings/laws.FnPieceMoved", spec := "fnPieceMoved", unfollowed := true, recurses := true, apart := false }
def FnPieceMovedSaid : Prop := fnPieceMovedRow.holds Try.pinned (OpenSpec.ofChange fnPieceMovedSpec)

/-- ITS FALSE NEIGHBOUR: 'it returns false'. Refute it at one input. -/
def fnPieceMovedWrong : ChangeSpec := { name := "fnPieceMoved", fn := fun _ => fun
  | [d] => { results := [.lit (.bool false)], args := [d] }
  | _ => none }
def FnPieceMovedWrongFalsely : Prop := fnPieceMovedRow.holds Try.pinned (OpenSpec.ofChange fnPieceMovedWrong)

/-- 'laws.FnPieceTurn': WHATEVER THE INPUT: true; the input reads as it did. -/
def fnPieceTurnSpec : ChangeSpec := { name := "fnPieceTurn", fn := fun _ => fun
  | [d] => { results := [.lit (.bool true)], args := [d] }
  | _ => none }
def fnPieceTurnRow : OpenClaim := { program := "ytadejjpcdpmpkaa", sum := "43946180cbf29fc03125d0ade779fb6ff48418a0fed3ffa062098d92a5eeb9aa", func := "loop.example/dominotilings/laws.FnPieceTurn", spec := "fnPieceTurn", unfollowed := true, recurses := true, apart := false }
def FnPieceTurnSaid : Prop := fnPieceTurnRow.holds Try.pinned (OpenSpec.ofChange fnPieceTurnSpec)

/-- ITS FALSE NEIGHBOUR: 'it returns false'. Refute it at one input. -/
def fnPieceTurnWrong : ChangeSpec := { name := "fnPieceTurn", fn := fun _ => fun
  | [d] => { results := [.lit (.bool false)], args := [d] }
  | _ => none }
def FnPieceTurnWrongFalsely : Prop := fnPieceTurnRow.holds Try.pinned (OpenSpec.ofChange fnPieceTurnWrong)

/-- 'laws.FnPieceFlip': WHATEVER THE INPUT: true; the input reads as it did. -/
def fnPieceFlipSpec : ChangeSpec := { name := "fnPieceFlip", fn := fun _ => fun
  | [d] => { results := [.lit (.bool true)], args := [d] }
  | _ => none }
def fnPieceFlipRow : OpenClaim := { program := "ytadejjpcdpmpkaa", sum := "43946180cbf29fc03125d0ade779fb6ff48418a0fed3ffa062098d92a5eeb9aa", func := "loop.example/dominotilings/laws.FnPieceFlip", spec := "fnPieceFlip", unfollowed := true, recurses := true, apart := false }
def FnPieceFlipSaid : Prop := fnPieceFlipRow.holds Try.pinned (OpenSpec.ofChange fnPieceFlipSpec)

/-- ITS FALSE NEIGHBOUR: 'it returns false'. Refute it at one input. -/
def fnPieceFlipWrong : ChangeSpec := { name := "fnPieceFlip", fn := fun _ => fun
  | [d] => { results := [.lit (.bool false)], args := [d] }
  | _ => none }
def FnPieceFlipWrongFalsely : Prop := fnPieceFlipRow.holds Try.pinned (OpenSpec.ofChange fnPieceFlipWrong)

/-- 'laws.FnPieceForms': WHATEVER THE INPUT: true; the input reads as it did. -/
def fnPieceFormsSpec : ChangeSpec := { name := "fnPieceForms", fn := fun _ => fun
  | [d] => { results := [.lit (.bool true)], args := [d] }
  | _ => none }
def fnPieceFormsRow : OpenClaim := { program := "ytadejjpcdpmpkaa", sum := "43946180cbf29fc03125d0ade779fb6ff48418a0fed3ffa062098d92a5eeb9aa", func := "loop.example/dominotilings/laws.FnPieceForms", spec := "fnPieceForms", unfollowed := true, recurses := true, apart := false }
def FnPieceFormsSaid : Prop := fnPieceFormsRow.holds Try.pinned (OpenSpec.ofChange fnPieceFormsSpec)

/-- ITS FALSE NEIGHBOUR: 'it returns false'. Refute it at one input. -/
def fnPieceFormsWrong : ChangeSpec := { name := "fnPieceForms", fn := fun _ => fun
  | [d] => { results := [.lit (.bool false)], args := [d] }
  | _ => none }
def FnPieceFormsWrongFalsely : Prop := fnPieceFormsRow.holds Try.pinned (OpenSpec.ofChange fnPieceFormsWrong)

/-- 'laws.FnSamePiece': WHATEVER THE INPUT: true; the input reads as it did. -/
def fnSamePieceSpec : ChangeSpec := { name := "fnSamePiece", fn := fun _ => fun
  | [d] => { results := [.lit (.bool true)], args := [d] }
  | _ => none }
def fnSamePieceRow : OpenClaim := { program := "ytadejjpcdpmpkaa", sum := "43946180cbf29fc03125d0ade779fb6ff48418a0fed3ffa062098d92a5eeb9aa", func := "loop.example/dominotilings/laws.FnSamePiece", spec := "fnSamePiece", unfollowed := true, recurses := true, apart := false }
def FnSamePieceSaid : Prop := fnSamePieceRow.holds Try.pinned (OpenSpec.ofChange fnSamePieceSpec)

/-- ITS FALSE NEIGHBOUR: 'it returns false'. Refute it at one input. -/
def fnSamePieceWrong : ChangeSpec := { name := "fnSamePiece", fn := fun _ => fun
  | [d] => { results := [.lit (.bool false)], args := [d] }
  | _ => none }
def FnSamePieceWrongFalsely : Prop := fnSamePieceRow.holds Try.pinned (OpenSpec.ofChange fnSamePieceWrong)

/- THE SECOND FORM. 'bulk': how many values and letters a reading holds, each counted each time it is reached (what is shared counts as often as it is met; a slice's spare places count too). A statement '..UptoSaid' is the law's where the arguments, and the package variables that the reading takes, are together of bulk at most 1048576: NARROWER than '..Said'. Prove '..Said' where nothing that the law and all that it calls make is longer than what came in: it says more and counts as full. Else prove '..UptoSaid'. A law counts once. -/
mutual
def uptoBulk {H : Type} : DataW H → Nat
  | .lit (.string bytes) => bytes.length + 1
  | .lit _ => 1
  | .nil => 1
  | .ptr d => uptoBulk d + 1
  | .slice elems spare => uptoBulkAll elems + uptoBulkAll spare + 1
  | .agg parts => uptoBulkAll parts + 1
  | .iface _ d => uptoBulk d + 1
  | .map entries => uptoBulkEntries entries + 1
  | .held _ => 1
def uptoBulkAll {H : Type} : List (DataW H) → Nat
  | [] => 0
  | d :: r => uptoBulk d + uptoBulkAll r
def uptoBulkEntries {H : Type} : List (Lit × DataW H) → Nat
  | [] => 0
  | x :: r => uptoBulkEntry x + uptoBulkEntries r
def uptoBulkEntry {H : Type} : Lit × DataW H → Nat
  | (.string bytes, d) => bytes.length + uptoBulk d + 1
  | (_, d) => uptoBulk d + 1
 end
def uptoSmall : (H : Type) → List (DataW H) → Bool := fun _ ds => decide (uptoBulkAll ds ≤ 1048576)
def OpenSpec.upto (s : _root_.Go.ChangeSpec) : _root_.Go.OpenSpec := { _root_.Go.OpenSpec.ofChange s with cond := some uptoSmall }

/-- 'laws.FnLackSet', WHERE WHAT IT READS IS OF BULK AT MOST 1048576: true; the input reads as it did. -/
def fnLackSetUptoRow : OpenClaim := { program := "ytadejjpcdpmpkaa", sum := "43946180cbf29fc03125d0ade779fb6ff48418a0fed3ffa062098d92a5eeb9aa", func := "loop.example/dominotilings/laws.FnLackSet", spec := "fnLackSet", recurses := true, apart := false, narrowed := true }
def FnLackSetUptoSaid : Prop := fnLackSetUptoRow.holds Try.pinned (OpenSpec.upto fnLackSetSpec)

/-- 'laws.FnPieceMoved', WHERE WHAT IT READS IS OF BULK AT MOST 1048576: true; the input reads as it did. -/
def fnPieceMovedUptoRow : OpenClaim := { program := "ytadejjpcdpmpkaa", sum := "43946180cbf29fc03125d0ade779fb6ff48418a0fed3ffa062098d92a5eeb9aa", func := "loop.example/dominotilings/laws.FnPieceMoved", spec := "fnPieceMoved", unfollowed := true, recurses := true, apart := false, narrowed := true }
def FnPieceMovedUptoSaid : Prop := fnPieceMovedUptoRow.holds Try.pinned (OpenSpec.upto fnPieceMovedSpec)

/-- 'laws.FnPieceTurn', WHERE WHAT IT READS IS OF BULK AT MOST 1048576: true; the input reads as it did. -/
def fnPieceTurnUptoRow : OpenClaim := { program := "ytadejjpcdpmpkaa", sum := "43946180cbf29fc03125d0ade779fb6ff48418a0fed3ffa062098d92a5eeb9aa", func := "loop.example/dominotilings/laws.FnPieceTurn", spec := "fnPieceTurn", unfollowed := true, recurses := true, apart := false, narrowed := true }
def FnPieceTurnUptoSaid : Prop := fnPieceTurnUptoRow.holds Try.pinned (OpenSpec.upto fnPieceTurnSpec)

/-- 'laws.FnPieceFlip', WHERE WHAT IT READS IS OF BULK AT MOST 1048576: true; the input reads as it did. -/
def fnPieceFlipUptoRow : OpenClaim := { program := "ytadejjpcdpmpkaa", sum := "43946180cbf29fc03125d0ade779fb6ff48418a0fed3ffa062098d92a5eeb9aa", func := "loop.example/dominotilings/laws.FnPieceFlip", spec := "fnPieceFlip", unfollowed := true, recurses := true, apart := false, narrowed := true }
def FnPieceFlipUptoSaid : Prop := fnPieceFlipUptoRow.holds Try.pinned (OpenSpec.upto fnPieceFlipSpec)

/-- 'laws.FnPieceForms', WHERE WHAT IT READS IS OF BULK AT MOST 1048576: true; the input reads as it did. -/
def fnPieceFormsUptoRow : OpenClaim := { program := "ytadejjpcdpmpkaa", sum := "43946180cbf29fc03125d0ade779fb6ff48418a0fed3ffa062098d92a5eeb9aa", func := "loop.example/dominotilings/laws.FnPieceForms", spec := "fnPieceForms", unfollowed := true, recurses := true, apart := false, narrowed := true }
def FnPieceFormsUptoSaid : Prop := fnPieceFormsUptoRow.holds Try.pinned (OpenSpec.upto fnPieceFormsSpec)

/-- 'laws.FnSamePiece', WHERE WHAT IT READS IS OF BULK AT MOST 1048576: true; the input reads as it did. -/
def fnSamePieceUptoRow : OpenClaim := { program := "ytadejjpcdpmpkaa", sum := "43946180cbf29fc03125d0ade779fb6ff48418a0fed3ffa062098d92a5eeb9aa", func := "loop.example/dominotilings/laws.FnSamePiece", spec := "fnSamePiece", unfollowed := true, recurses := true, apart := false, narrowed := true }
def FnSamePieceUptoSaid : Prop := fnSamePieceUptoRow.holds Try.pinned (OpenSpec.upto fnSamePieceSpec)

end Rows
end Go.Proofs.Ytadejjpcdpmpkaa
