/-
  No cell of these rows narrows 'for every input' (looked for: loops, veiled, ifaces, maps, wideKeys, modest, calm, conditions, laid).
  DERIVED. THE GIVEN ROWS OF THIS SEAT. 12 by the template 'for every input the law returns true; each argument reads behind the call as it read before'; 0 by the template 'total and deterministic' (their statements: YtbplnjigoghboaaTotals.lean).
  GIVEN WITH THE SEED: the statements are not yours to turn. If you find one false, say at which input.
  Laid BY PROGRAM, IN A SANDBOX (cutbox-rows.mjs): the forced cells as the released guide's own fill.sh prints them over the translation b7688d5fb0cf0b50… (all of the seat's roots in one cut). By AI agents, Wed Nov 11 2026. No macro, syntax, notation, axiom, sorry.
-/
import Derived.Test.YtbplnjigoghboaaChecked
import GoSem.Claim
import GoSem.ClaimJoined
import GoSem.ClaimMapViews
import Derived.JoinedTies
import Derived.KernelRfl
namespace Go.Proofs.Ytbplnjigoghboaa
/- THE CELL 'sum', in the pinned program and in every row, IS THE sha256 OF THE DUMP (.gsa) THAT YtbplnjigoghboaaProg.lean LOADS. Nothing in Lean hashes anything: it is a label: what it is worth is what the hold of that sum in a sandbox is worth. -/
noncomputable def Try.pinned : Pinned := { name := "ytbplnjigoghboaa", sum := "b7688d5fb0cf0b50a26158afc5dedc3f5ba0e5321211479970183c80e71c9875", checked := Try.checked }
namespace Rows
def none {H : Type} : Left H := { results := [], args := [] }

/-- 'laws.FnExactPiecesAll': WHATEVER THE INPUT: true; the input reads as it did. -/
def fnExactPiecesAllSpec : ChangeSpec := { name := "fnExactPiecesAll", fn := fun _ => fun
  | [d] => { results := [.lit (.bool true)], args := [d] }
  | _ => none }
def fnExactPiecesAllRow : OpenClaim := { program := "ytbplnjigoghboaa", sum := "b7688d5fb0cf0b50a26158afc5dedc3f5ba0e5321211479970183c80e71c9875", func := "loop.example/dominotilings/laws.FnExactPiecesAll", spec := "fnExactPiecesAll", unfollowed := true, recurses := true, apart := false }
def FnExactPiecesAllSaid : Prop := fnExactPiecesAllRow.holds Try.pinned (OpenSpec.ofChange fnExactPiecesAllSpec)

/-- ITS FALSE NEIGHBOUR: 'it returns false'. Refute it at one input. -/
def fnExactPiecesAllWrong : ChangeSpec := { name := "fnExactPiecesAll", fn := fun _ => fun
  | [d] => { results := [.lit (.bool false)], args := [d] }
  | _ => none }
def FnExactPiecesAllWrongFalsely : Prop := fnExactPiecesAllRow.holds Try.pinned (OpenSpec.ofChange fnExactPiecesAllWrong)

/-- 'laws.FnPiecesAll': WHATEVER THE INPUT: true; the input reads as it did. -/
def fnPiecesAllSpec : ChangeSpec := { name := "fnPiecesAll", fn := fun _ => fun
  | [d] => { results := [.lit (.bool true)], args := [d] }
  | _ => none }
def fnPiecesAllRow : OpenClaim := { program := "ytbplnjigoghboaa", sum := "b7688d5fb0cf0b50a26158afc5dedc3f5ba0e5321211479970183c80e71c9875", func := "loop.example/dominotilings/laws.FnPiecesAll", spec := "fnPiecesAll", unfollowed := true, recurses := true, apart := false }
def FnPiecesAllSaid : Prop := fnPiecesAllRow.holds Try.pinned (OpenSpec.ofChange fnPiecesAllSpec)

/-- ITS FALSE NEIGHBOUR: 'it returns false'. Refute it at one input. -/
def fnPiecesAllWrong : ChangeSpec := { name := "fnPiecesAll", fn := fun _ => fun
  | [d] => { results := [.lit (.bool false)], args := [d] }
  | _ => none }
def FnPiecesAllWrongFalsely : Prop := fnPiecesAllRow.holds Try.pinned (OpenSpec.ofChange fnPiecesAllWrong)

/-- 'laws.FnPieceFirst': WHATEVER THE INPUT: true; the input reads as it did. -/
def fnPieceFirstSpec : ChangeSpec := { name := "fnPieceFirst", fn := fun _ => fun
  | [d] => { results := [.lit (.bool true)], args := [d] }
  | _ => none }
def fnPieceFirstRow : OpenClaim := { program := "ytbplnjigoghboaa", sum := "b7688d5fb0cf0b50a26158afc5dedc3f5ba0e5321211479970183c80e71c9875", func := "loop.example/dominotilings/laws.FnPieceFirst", spec := "fnPieceFirst", unfollowed := true, recurses := true, apart := false }
def FnPieceFirstSaid : Prop := fnPieceFirstRow.holds Try.pinned (OpenSpec.ofChange fnPieceFirstSpec)

/-- ITS FALSE NEIGHBOUR: 'it returns false'. Refute it at one input. -/
def fnPieceFirstWrong : ChangeSpec := { name := "fnPieceFirst", fn := fun _ => fun
  | [d] => { results := [.lit (.bool false)], args := [d] }
  | _ => none }
def FnPieceFirstWrongFalsely : Prop := fnPieceFirstRow.holds Try.pinned (OpenSpec.ofChange fnPieceFirstWrong)

/-- 'laws.FnCellsBeside': WHATEVER THE INPUT: true; the input reads as it did. -/
def fnCellsBesideSpec : ChangeSpec := { name := "fnCellsBeside", fn := fun _ => fun
  | [d] => { results := [.lit (.bool true)], args := [d] }
  | _ => none }
def fnCellsBesideRow : OpenClaim := { program := "ytbplnjigoghboaa", sum := "b7688d5fb0cf0b50a26158afc5dedc3f5ba0e5321211479970183c80e71c9875", func := "loop.example/dominotilings/laws.FnCellsBeside", spec := "fnCellsBeside", recurses := true, apart := false }
def FnCellsBesideSaid : Prop := fnCellsBesideRow.holds Try.pinned (OpenSpec.ofChange fnCellsBesideSpec)

/-- ITS FALSE NEIGHBOUR: 'it returns false'. Refute it at one input. -/
def fnCellsBesideWrong : ChangeSpec := { name := "fnCellsBeside", fn := fun _ => fun
  | [d] => { results := [.lit (.bool false)], args := [d] }
  | _ => none }
def FnCellsBesideWrongFalsely : Prop := fnCellsBesideRow.holds Try.pinned (OpenSpec.ofChange fnCellsBesideWrong)

/-- 'laws.FnExactPieceRegion': WHATEVER THE INPUT: true; the input reads as it did. -/
def fnExactPieceRegionSpec : ChangeSpec := { name := "fnExactPieceRegion", fn := fun _ => fun
  | [d] => { results := [.lit (.bool true)], args := [d] }
  | _ => none }
def fnExactPieceRegionRow : OpenClaim := { program := "ytbplnjigoghboaa", sum := "b7688d5fb0cf0b50a26158afc5dedc3f5ba0e5321211479970183c80e71c9875", func := "loop.example/dominotilings/laws.FnExactPieceRegion", spec := "fnExactPieceRegion", unfollowed := true, recurses := true, apart := false }
def FnExactPieceRegionSaid : Prop := fnExactPieceRegionRow.holds Try.pinned (OpenSpec.ofChange fnExactPieceRegionSpec)

/-- ITS FALSE NEIGHBOUR: 'it returns false'. Refute it at one input. -/
def fnExactPieceRegionWrong : ChangeSpec := { name := "fnExactPieceRegion", fn := fun _ => fun
  | [d] => { results := [.lit (.bool false)], args := [d] }
  | _ => none }
def FnExactPieceRegionWrongFalsely : Prop := fnExactPieceRegionRow.holds Try.pinned (OpenSpec.ofChange fnExactPieceRegionWrong)

/-- 'laws.FnPieceRegion': WHATEVER THE INPUT: true; the input reads as it did. -/
def fnPieceRegionSpec : ChangeSpec := { name := "fnPieceRegion", fn := fun _ => fun
  | [d] => { results := [.lit (.bool true)], args := [d] }
  | _ => none }
def fnPieceRegionRow : OpenClaim := { program := "ytbplnjigoghboaa", sum := "b7688d5fb0cf0b50a26158afc5dedc3f5ba0e5321211479970183c80e71c9875", func := "loop.example/dominotilings/laws.FnPieceRegion", spec := "fnPieceRegion", unfollowed := true, recurses := true, apart := false }
def FnPieceRegionSaid : Prop := fnPieceRegionRow.holds Try.pinned (OpenSpec.ofChange fnPieceRegionSpec)

/-- ITS FALSE NEIGHBOUR: 'it returns false'. Refute it at one input. -/
def fnPieceRegionWrong : ChangeSpec := { name := "fnPieceRegion", fn := fun _ => fun
  | [d] => { results := [.lit (.bool false)], args := [d] }
  | _ => none }
def FnPieceRegionWrongFalsely : Prop := fnPieceRegionRow.holds Try.pinned (OpenSpec.ofChange fnPieceRegionWrong)

/-- 'laws.FnExactLaidMost': WHATEVER THE INPUT: true; the input reads as it did. -/
def fnExactLaidMostSpec : ChangeSpec := { name := "fnExactLaidMost", fn := fun _ => fun
  | [d] => { results := [.lit (.bool true)], args := [d] }
  | _ => none }
def fnExactLaidMostRow : OpenClaim := { program := "ytbplnjigoghboaa", sum := "b7688d5fb0cf0b50a26158afc5dedc3f5ba0e5321211479970183c80e71c9875", func := "loop.example/dominotilings/laws.FnExactLaidMost", spec := "fnExactLaidMost", unfollowed := true, recurses := true, apart := false }
def FnExactLaidMostSaid : Prop := fnExactLaidMostRow.holds Try.pinned (OpenSpec.ofChange fnExactLaidMostSpec)

/-- ITS FALSE NEIGHBOUR: 'it returns false'. Refute it at one input. -/
def fnExactLaidMostWrong : ChangeSpec := { name := "fnExactLaidMost", fn := fun _ => fun
  | [d] => { results := [.lit (.bool false)], args := [d] }
  | _ => none }
def FnExactLaidMostWrongFalsely : Prop := fnExactLaidMostRow.holds Try.pinned (OpenSpec.ofChange fnExactLaidMostWrong)

/-- 'laws.FnLaidMost': WHATEVER THE INPUT: true; the input reads as it did. -/
def fnLaidMostSpec : ChangeSpec := { name := "fnLaidMost", fn := fun _ => fun
  | [d] => { results := [.lit (.bool true)], args := [d] }
  | _ => none }
def fnLaidMostRow : OpenClaim := { program := "ytbplnjigoghboaa", sum := "b7688d5fb0cf0b50a26158afc5dedc3f5ba0e5321211479970183c80e71c9875", func := "loop.example/dominotilings/laws.FnLaidMost", spec := "fnLaidMost", unfollowed := true, recurses := true, apart := false }
def FnLaidMostSaid : Prop := fnLaidMostRow.holds Try.pinned (OpenSpec.ofChange fnLaidMostSpec)

/-- ITS FALSE NEIGHBOUR: 'it returns false'. Refute it at one input. -/
def fnLaidMostWrong : ChangeSpec := { name := "fnLaidMost", fn := fun _ => fun
  | [d] => { results := [.lit (.bool false)], args := [d] }
  | _ => none }
def FnLaidMostWrongFalsely : Prop := fnLaidMostRow.holds Try.pinned (OpenSpec.ofChange fnLaidMostWrong)

/-- 'laws.FnLackMost': WHATEVER THE INPUT: true; the input reads as it did. -/
def fnLackMostSpec : ChangeSpec := { name := "fnLackMost", fn := fun _ => fun
  | [d] => { results := [.lit (.bool true)], args := [d] }
  | _ => none }
def fnLackMostRow : OpenClaim := { program := "ytbplnjigoghboaa", sum := "b7688d5fb0cf0b50a26158afc5dedc3f5ba0e5321211479970183c80e71c9875", func := "loop.example/dominotilings/laws.FnLackMost", spec := "fnLackMost", unfollowed := true, recurses := true, apart := false }
def FnLackMostSaid : Prop := fnLackMostRow.holds Try.pinned (OpenSpec.ofChange fnLackMostSpec)

/-- ITS FALSE NEIGHBOUR: 'it returns false'. Refute it at one input. -/
def fnLackMostWrong : ChangeSpec := { name := "fnLackMost", fn := fun _ => fun
  | [d] => { results := [.lit (.bool false)], args := [d] }
  | _ => none }
def FnLackMostWrongFalsely : Prop := fnLackMostRow.holds Try.pinned (OpenSpec.ofChange fnLackMostWrong)

/-- 'laws.FnExactCornerFill': WHATEVER THE INPUT: true; the input reads as it did. -/
def fnExactCornerFillSpec : ChangeSpec := { name := "fnExactCornerFill", fn := fun _ => fun
  | [d1, d2] => { results := [.lit (.bool true)], args := [d1, d2] }
  | _ => none }
def fnExactCornerFillRow : OpenClaim := { program := "ytbplnjigoghboaa", sum := "b7688d5fb0cf0b50a26158afc5dedc3f5ba0e5321211479970183c80e71c9875", func := "loop.example/dominotilings/laws.FnExactCornerFill", spec := "fnExactCornerFill", unfollowed := true, recurses := true, apart := false }
def FnExactCornerFillSaid : Prop := fnExactCornerFillRow.holds Try.pinned (OpenSpec.ofChange fnExactCornerFillSpec)

/-- ITS FALSE NEIGHBOUR: 'it returns false'. Refute it at one input. -/
def fnExactCornerFillWrong : ChangeSpec := { name := "fnExactCornerFill", fn := fun _ => fun
  | [d1, d2] => { results := [.lit (.bool false)], args := [d1, d2] }
  | _ => none }
def FnExactCornerFillWrongFalsely : Prop := fnExactCornerFillRow.holds Try.pinned (OpenSpec.ofChange fnExactCornerFillWrong)

/-- 'laws.FnCornerFill': WHATEVER THE INPUT: true; the input reads as it did. -/
def fnCornerFillSpec : ChangeSpec := { name := "fnCornerFill", fn := fun _ => fun
  | [d] => { results := [.lit (.bool true)], args := [d] }
  | _ => none }
def fnCornerFillRow : OpenClaim := { program := "ytbplnjigoghboaa", sum := "b7688d5fb0cf0b50a26158afc5dedc3f5ba0e5321211479970183c80e71c9875", func := "loop.example/dominotilings/laws.FnCornerFill", spec := "fnCornerFill", unfollowed := true, recurses := true, apart := false }
def FnCornerFillSaid : Prop := fnCornerFillRow.holds Try.pinned (OpenSpec.ofChange fnCornerFillSpec)

/-- ITS FALSE NEIGHBOUR: 'it returns false'. Refute it at one input. -/
def fnCornerFillWrong : ChangeSpec := { name := "fnCornerFill", fn := fun _ => fun
  | [d] => { results := [.lit (.bool false)], args := [d] }
  | _ => none }
def FnCornerFillWrongFalsely : Prop := fnCornerFillRow.holds Try.pinned (OpenSpec.ofChange fnCornerFillWrong)

/-- 'laws.FnExactPuzzleText': WHATEVER THE INPUT: true; the input reads as it did. -/
def fnExactPuzzleTextSpec : ChangeSpec := { name := "fnExactPuzzleText", fn := fun _ => fun
  | [d1, d2] => { results := [.lit (.bool true)], args := [d1, d2] }
  | _ => none }
def fnExactPuzzleTextRow : OpenClaim := { program := "ytbplnjigoghboaa", sum := "b7688d5fb0cf0b50a26158afc5dedc3f5ba0e5321211479970183c80e71c9875", func := "loop.example/dominotilings/laws.FnExactPuzzleText", spec := "fnExactPuzzleText", inPlace := ["internal/abi.NoEscape", "internal/bytealg.MakeNoZero"], unfollowed := true, recurses := true, apart := false }
def FnExactPuzzleTextSaid : Prop := fnExactPuzzleTextRow.holds Try.pinned (OpenSpec.ofChange fnExactPuzzleTextSpec)

/-- ITS FALSE NEIGHBOUR: 'it returns false'. Refute it at one input. -/
def fnExactPuzzleTextWrong : ChangeSpec := { name := "fnExactPuzzleText", fn := fun _ => fun
  | [d1, d2] => { results := [.lit (.bool false)], args := [d1, d2] }
  | _ => none }
def FnExactPuzzleTextWrongFalsely : Prop := fnExactPuzzleTextRow.holds Try.pinned (OpenSpec.ofChange fnExactPuzzleTextWrong)

/- THE SECOND FORM. 'bulk': how many values and letters a reading holds, each counted each time it is reached (what is shared counts as often as it is met; a slice's spare places count too). A statement '..UptoSaid' is the law's where the arguments, and the package variables that the reading takes, are together of bulk at most 1048576: NARROWER than '..Said'. Prove '..Said' where nothing that the law and all that it calls make is longer than what came in: it says more and counts as full. Else prove '..UptoSaid'. A law counts once. -/
mutual
def uptoBulk {H : Type} : DataW H → Nat
  | .lit (.string bytes) => bytes.length + 1
  | .lit _ => 1
  | .nil => 1
  | .ptr d => uptoBulk d + 1
  | .slice elems spare => uptoBulkAll elems + uptoBulkAll spare + 1
  | .agg parts => uptoBulkAll parts + 1
  | .iface _ d => uptoBulk d + 1
  | .map entries => uptoBulkEntries entries + 1
  | .held _ => 1
def uptoBulkAll {H : Type} : List (DataW H) → Nat
  | [] => 0
  | d :: r => uptoBulk d + uptoBulkAll r
def uptoBulkEntries {H : Type} : List (Lit × DataW H) → Nat
  | [] => 0
  | x :: r => uptoBulkEntry x + uptoBulkEntries r
def uptoBulkEntry {H : Type} : Lit × DataW H → Nat
  | (.string bytes, d) => bytes.length + uptoBulk d + 1
  | (_, d) => uptoBulk d + 1
 end
def uptoSmall : (H : Type) → List (DataW H) → Bool := fun _ ds => decide (uptoBulkAll ds ≤ 1048576)
def OpenSpec.upto (s : _root_.Go.ChangeSpec) : _root_.Go.OpenSpec := { _root_.Go.OpenSpec.ofChange s with cond := some uptoSmall }

/-- 'laws.FnExactPiecesAll', WHERE WHAT IT READS IS OF BULK AT MOST 1048576: true; the input reads as it did. -/
def fnExactPiecesAllUptoRow : OpenClaim := { program := "ytbplnjigoghboaa", sum := "b7688d5fb0cf0b50a26158afc5dedc3f5ba0e5321211479970183c80e71c9875", func := "loop.example/dominotilings/laws.FnExactPiecesAll", spec := "fnExactPiecesAll", unfollowed := true, recurses := true, apart := false, narrowed := true }
def FnExactPiecesAllUptoSaid : Prop := fnExactPiecesAllUptoRow.holds Try.pinned (OpenSpec.upto fnExactPiecesAllSpec)

/-- 'laws.FnPiecesAll', WHERE WHAT IT READS IS OF BULK AT MOST 1048576: true; the input reads as it did. -/
def fnPiecesAllUptoRow : OpenClaim := { program := "ytbplnjigoghboaa", sum := "b7688d5fb0cf0b50a26158afc5dedc3f5ba0e5321211479970183c80e71c9875", func := "loop.example/dominotilings/laws.FnPiecesAll", spec := "fnPiecesAll", unfollowed := true, recurses := true, apart := false, narrowed := true }
def FnPiecesAllUptoSaid : Prop := fnPiecesAllUptoRow.holds Try.pinned (OpenSpec.upto fnPiecesAllSpec)

/-- 'laws.FnPieceFirst', WHERE WHAT IT READS IS OF BULK AT MOST 1048576: true; the input reads as it did. -/
def fnPieceFirstUptoRow : OpenClaim := { program := "ytbplnjigoghboaa", sum := "b7688d5fb0cf0b50a26158afc5dedc3f5ba0e5321211479970183c80e71c9875", func := "loop.example/dominotilings/laws.FnPieceFirst", spec := "fnPieceFirst", unfollowed := true, recurses := true, apart := false, narrowed := true }
def FnPieceFirstUptoSaid : Prop := fnPieceFirstUptoRow.holds Try.pinned (OpenSpec.upto fnPieceFirstSpec)

/-- 'laws.FnCellsBeside', WHERE WHAT IT READS IS OF BULK AT MOST 1048576: true; the input reads as it did. -/
def fnCellsBesideUptoRow : OpenClaim := { program := "ytbplnjigoghboaa", sum := "b7688d5fb0cf0b50a26158afc5dedc3f5ba0e5321211479970183c80e71c9875", func := "loop.example/dominotilings/laws.FnCellsBeside", spec := "fnCellsBeside", recurses := true, apart := false, narrowed := true }
def FnCellsBesideUptoSaid : Prop := fnCellsBesideUptoRow.holds Try.pinned (OpenSpec.upto fnCellsBesideSpec)

/-- 'laws.FnExactPieceRegion', WHERE WHAT IT READS IS OF BULK AT MOST 1048576: true; the input reads as it did. -/
def fnExactPieceRegionUptoRow : OpenClaim := { program := "ytbplnjigoghboaa", sum := "b7688d5fb0cf0b50a26158afc5dedc3f5ba0e5321211479970183c80e71c9875", func := "loop.example/dominotilings/laws.FnExactPieceRegion", spec := "fnExactPieceRegion", unfollowed := true, recurses := true, apart := false, narrowed := true }
def FnExactPieceRegionUptoSaid : Prop := fnExactPieceRegionUptoRow.holds Try.pinned (OpenSpec.upto fnExactPieceRegionSpec)

/-- 'laws.FnPieceRegion', WHERE WHAT IT READS IS OF BULK AT MOST 1048576: true; the input reads as it did. -/
def fnPieceRegionUptoRow : OpenClaim := { program := "ytbplnjigoghboaa", sum := "b7688d5fb0cf0b50a26158afc5dedc3f5ba0e5321211479970183c80e71c9875", func := "loop.example/dominotilings/laws.FnPieceRegion", spec := "fnPieceRegion", unfollowed := true, recurses := true, apart := false, narrowed := true }
def FnPieceRegionUptoSaid : Prop := fnPieceRegionUptoRow.holds Try.pinned (OpenSpec.upto fnPieceRegionSpec)

/-- 'laws.FnExactLaidMost', WHERE WHAT IT READS IS OF BULK AT MOST 1048576: true; the input reads as it did. -/
def fnExactLaidMostUptoRow : OpenClaim := { program := "ytbplnjigoghboaa", sum := "b7688d5fb0cf0b50a26158afc5dedc3f5ba0e5321211479970183c80e71c9875", func := "loop.example/dominotilings/laws.FnExactLaidMost", spec := "fnExactLaidMost", unfollowed := true, recurses := true, apart := false, narrowed := true }
def FnExactLaidMostUptoSaid : Prop := fnExactLaidMostUptoRow.holds Try.pinned (OpenSpec.upto fnExactLaidMostSpec)

/-- 'laws.FnLaidMost', WHERE WHAT IT READS IS OF BULK AT MOST 1048576: true; the input reads as it did. -/
def fnLaidMostUptoRow : OpenClaim := { program := "ytbplnjigoghboaa", sum := "b7688d5fb0cf0b50a26158afc5dedc3f5ba0e5321211479970183c80e71c9875", func := "loop.example/dominotilings/laws.FnLaidMost", spec := "fnLaidMost", unfollowed := true, recurses := true, apart := false, narrowed := true }
def FnLaidMostUptoSaid : Prop := fnLaidMostUptoRow.holds Try.pinned (OpenSpec.upto fnLaidMostSpec)

/-- 'laws.FnLackMost', WHERE WHAT IT READS IS OF BULK AT MOST 1048576: true; the input reads as it did. -/
def fnLackMostUptoRow : OpenClaim := { program := "ytbplnjigoghboaa", sum := "b7688d5fb0cf0b50a26158afc5dedc3f5ba0e5321211479970183c80e71c9875", func := "loop.example/dominotilings/laws.FnLackMost", spec := "fnLackMost", unfollowed := true, recurses := true, apart := false, narrowed := true }
def FnLackMostUptoSaid : Prop := fnLackMostUptoRow.holds Try.pinned (OpenSpec.upto fnLackMostSpec)

/-- 'laws.FnExactCornerFill', WHERE WHAT IT READS IS OF BULK AT MOST 1048576: true; the input reads as it did. -/
def fnExactCornerFillUptoRow : OpenClaim := { program := "ytbplnjigoghboaa", sum := "b7688d5fb0cf0b50a26158afc5dedc3f5ba0e5321211479970183c80e71c9875", func := "loop.example/dominotilings/laws.FnExactCornerFill", spec := "fnExactCornerFill", unfollowed := true, recurses := true, apart := false, narrowed := true }
def FnExactCornerFillUptoSaid : Prop := fnExactCornerFillUptoRow.holds Try.pinned (OpenSpec.upto fnExactCornerFillSpec)

/-- 'laws.FnCornerFill', WHERE WHAT IT READS IS OF BULK AT MOST 1048576: true; the input reads as it did. -/
def fnCornerFillUptoRow : OpenClaim := { program := "ytbplnjigoghboaa", sum := "b7688d5fb0cf0b50a26158afc5dedc3f5ba0e5321211479970183c80e71c9875", func := "loop.example/dominotilings/laws.FnCornerFill", spec := "fnCornerFill", unfollowed := true, recurses := true, apart := false, narrowed := true }
def FnCornerFillUptoSaid : Prop := fnCornerFillUptoRow.holds Try.pinned (OpenSpec.upto fnCornerFillSpec)

/-- 'laws.FnExactPuzzleText', WHERE WHAT IT READS IS OF BULK AT MOST 1048576: true; the input reads as it did. -/
def fnExactPuzzleTextUptoRow : OpenClaim := { program := "ytbplnjigoghboaa", sum := "b7688d5fb0cf0b50a26158afc5dedc3f5ba0e5321211479970183c80e71c9875", func := "loop.example/dominotilings/laws.FnExactPuzzleText", spec := "fnExactPuzzleText", inPlace := ["internal/abi.NoEscape", "internal/bytealg.MakeNoZero"], unfollowed := true, recurses := true, apart := false, narrowed := true }
def FnExactPuzzleTextUptoSaid : Prop := fnExactPuzzleTextUptoRow.holds Try.pinned (OpenSpec.upto fnExactPuzzleTextSpec)

end Rows
end Go.Proofs.Ytbplnjigoghboaa
