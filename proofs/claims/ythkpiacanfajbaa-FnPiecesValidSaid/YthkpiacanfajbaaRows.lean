/-
  No cell of these rows narrows 'for every input' (looked for: loops, veiled, ifaces, maps, wideKeys, modest, calm, conditions, laid).
  DERIVED. THE GIVEN ROWS OF THIS SEAT. 8 by the template 'for every input the law returns true; each argument reads behind the call as it read before'; 0 by the template 'total and deterministic' (their statements: YthkpiacanfajbaaTotals.lean).
  GIVEN WITH THE SEED: the statements are not yours to turn. If you find one false, say at which input.
  Laid BY PROGRAM, IN A SANDBOX (cutbox-rows.mjs): the forced cells as the released guide's own fill.sh prints them over the translation fef7b6c0624108fc… (all of the seat's roots in one cut). By AI agents, Wed Nov 11 2026. No macro, syntax, notation, axiom, sorry.
-/
import Derived.Test.YthkpiacanfajbaaChecked
import GoSem.Claim
import GoSem.ClaimJoined
import GoSem.ClaimMapViews
import Derived.JoinedTies
import Derived.KernelRfl
namespace Go.Proofs.Ythkpiacanfajbaa
/- THE CELL 'sum', in the pinned program and in every row, IS THE sha256 OF THE DUMP (.gsa) THAT YthkpiacanfajbaaProg.lean LOADS. Nothing in Lean hashes anything: it is a label: what it is worth is what the hold of that sum in a sandbox is worth. -/
noncomputable def Try.pinned : Pinned := { name := "ythkpiacanfajbaa", sum := "fef7b6c0624108fc50d2759a01fd67f5367dedd60db43fc14fee80aa4bd302e9", checked := Try.checked }
namespace Rows
def none {H : Type} : Left H := { results := [], args := [] }

/-- 'laws.FnRoundOf': WHATEVER THE INPUT: true; the input reads as it did. -/
def fnRoundOfSpec : ChangeSpec := { name := "fnRoundOf", fn := fun _ => fun
  | [d] => { results := [.lit (.bool true)], args := [d] }
  | _ => none }
def fnRoundOfRow : OpenClaim := { program := "ythkpiacanfajbaa", sum := "fef7b6c0624108fc50d2759a01fd67f5367dedd60db43fc14fee80aa4bd302e9", func := "loop.example/dominotilings/laws.FnRoundOf", spec := "fnRoundOf", unfollowed := true, recurses := true, apart := false }
def FnRoundOfSaid : Prop := fnRoundOfRow.holds Try.pinned (OpenSpec.ofChange fnRoundOfSpec)

/-- ITS FALSE NEIGHBOUR: 'it returns false'. Refute it at one input. -/
def fnRoundOfWrong : ChangeSpec := { name := "fnRoundOf", fn := fun _ => fun
  | [d] => { results := [.lit (.bool false)], args := [d] }
  | _ => none }
def FnRoundOfWrongFalsely : Prop := fnRoundOfRow.holds Try.pinned (OpenSpec.ofChange fnRoundOfWrong)

/-- 'laws.FnPieceValid': WHATEVER THE INPUT: true; the input reads as it did. -/
def fnPieceValidSpec : ChangeSpec := { name := "fnPieceValid", fn := fun _ => fun
  | [d] => { results := [.lit (.bool true)], args := [d] }
  | _ => none }
def fnPieceValidRow : OpenClaim := { program := "ythkpiacanfajbaa", sum := "fef7b6c0624108fc50d2759a01fd67f5367dedd60db43fc14fee80aa4bd302e9", func := "loop.example/dominotilings/laws.FnPieceValid", spec := "fnPieceValid", apart := false }
def FnPieceValidSaid : Prop := fnPieceValidRow.holds Try.pinned (OpenSpec.ofChange fnPieceValidSpec)

/-- ITS FALSE NEIGHBOUR: 'it returns false'. Refute it at one input. -/
def fnPieceValidWrong : ChangeSpec := { name := "fnPieceValid", fn := fun _ => fun
  | [d] => { results := [.lit (.bool false)], args := [d] }
  | _ => none }
def FnPieceValidWrongFalsely : Prop := fnPieceValidRow.holds Try.pinned (OpenSpec.ofChange fnPieceValidWrong)

/-- 'laws.FnPiecesValid': WHATEVER THE INPUT: true; the input reads as it did. -/
def fnPiecesValidSpec : ChangeSpec := { name := "fnPiecesValid", fn := fun _ => fun
  | [d] => { results := [.lit (.bool true)], args := [d] }
  | _ => none }
def fnPiecesValidRow : OpenClaim := { program := "ythkpiacanfajbaa", sum := "fef7b6c0624108fc50d2759a01fd67f5367dedd60db43fc14fee80aa4bd302e9", func := "loop.example/dominotilings/laws.FnPiecesValid", spec := "fnPiecesValid", unfollowed := true, recurses := true, apart := false }
def FnPiecesValidSaid : Prop := fnPiecesValidRow.holds Try.pinned (OpenSpec.ofChange fnPiecesValidSpec)

/-- ITS FALSE NEIGHBOUR: 'it returns false'. Refute it at one input. -/
def fnPiecesValidWrong : ChangeSpec := { name := "fnPiecesValid", fn := fun _ => fun
  | [d] => { results := [.lit (.bool false)], args := [d] }
  | _ => none }
def FnPiecesValidWrongFalsely : Prop := fnPiecesValidRow.holds Try.pinned (OpenSpec.ofChange fnPiecesValidWrong)

/-- 'laws.FnExactPuzzleText': WHATEVER THE INPUT: true; the input reads as it did. -/
def fnExactPuzzleTextSpec : ChangeSpec := { name := "fnExactPuzzleText", fn := fun _ => fun
  | [d1, d2] => { results := [.lit (.bool true)], args := [d1, d2] }
  | _ => none }
def fnExactPuzzleTextRow : OpenClaim := { program := "ythkpiacanfajbaa", sum := "fef7b6c0624108fc50d2759a01fd67f5367dedd60db43fc14fee80aa4bd302e9", func := "loop.example/dominotilings/laws.FnExactPuzzleText", spec := "fnExactPuzzleText", inPlace := ["internal/abi.NoEscape", "internal/bytealg.MakeNoZero"], unfollowed := true, recurses := true, apart := false }
def FnExactPuzzleTextSaid : Prop := fnExactPuzzleTextRow.holds Try.pinned (OpenSpec.ofChange fnExactPuzzleTextSpec)

/-- ITS FALSE NEIGHBOUR: 'it returns false'. Refute it at one input. -/
def fnExactPuzzleTextWrong : ChangeSpec := { name := "fnExactPuzzleText", fn := fun _ => fun
  | [d1, d2] => { results := [.lit (.bool false)], args := [d1, d2] }
  | _ => none }
def FnExactPuzzleTextWrongFalsely : Prop := fnExactPuzzleTextRow.holds Try.pinned (OpenSpec.ofChange fnExactPuzzleTextWrong)

/-- 'laws.FnColourMany': WHATEVER THE INPUT: true; the input reads as it did. -/
def fnColourManySpec : ChangeSpec := { name := "fnColourMany", fn := fun _ => fun
  | [d] => { results := [.lit (.bool true)], args := [d] }
  | _ => none }
def fnColourManyRow : OpenClaim := { program := "ythkpiacanfajbaa", sum := "fef7b6c0624108fc50d2759a01fd67f5367dedd60db43fc14fee80aa4bd302e9", func := "loop.example/dominotilings/laws.FnColourMany", spec := "fnColourMany", apart := false }
def FnColourManySaid : Prop := fnColourManyRow.holds Try.pinned (OpenSpec.ofChange fnColourManySpec)

/-- ITS FALSE NEIGHBOUR: 'it returns false'. Refute it at one input. -/
def fnColourManyWrong : ChangeSpec := { name := "fnColourMany", fn := fun _ => fun
  | [d] => { results := [.lit (.bool false)], args := [d] }
  | _ => none }
def FnColourManyWrongFalsely : Prop := fnColourManyRow.holds Try.pinned (OpenSpec.ofChange fnColourManyWrong)

/-- 'laws.FnCutTwo': WHATEVER THE INPUT: true; the input reads as it did. -/
def fnCutTwoSpec : ChangeSpec := { name := "fnCutTwo", fn := fun _ => fun
  | [d] => { results := [.lit (.bool true)], args := [d] }
  | _ => none }
def fnCutTwoRow : OpenClaim := { program := "ythkpiacanfajbaa", sum := "fef7b6c0624108fc50d2759a01fd67f5367dedd60db43fc14fee80aa4bd302e9", func := "loop.example/dominotilings/laws.FnCutTwo", spec := "fnCutTwo", unfollowed := true, recurses := true, apart := false }
def FnCutTwoSaid : Prop := fnCutTwoRow.holds Try.pinned (OpenSpec.ofChange fnCutTwoSpec)

/-- ITS FALSE NEIGHBOUR: 'it returns false'. Refute it at one input. -/
def fnCutTwoWrong : ChangeSpec := { name := "fnCutTwo", fn := fun _ => fun
  | [d] => { results := [.lit (.bool false)], args := [d] }
  | _ => none }
def FnCutTwoWrongFalsely : Prop := fnCutTwoRow.holds Try.pinned (OpenSpec.ofChange fnCutTwoWrong)

/-- 'laws.FnColoursEven': WHATEVER THE INPUT: true; the input reads as it did. -/
def fnColoursEvenSpec : ChangeSpec := { name := "fnColoursEven", fn := fun _ => fun
  | [d] => { results := [.lit (.bool true)], args := [d] }
  | _ => none }
def fnColoursEvenRow : OpenClaim := { program := "ythkpiacanfajbaa", sum := "fef7b6c0624108fc50d2759a01fd67f5367dedd60db43fc14fee80aa4bd302e9", func := "loop.example/dominotilings/laws.FnColoursEven", spec := "fnColoursEven", unfollowed := true, recurses := true, apart := false }
def FnColoursEvenSaid : Prop := fnColoursEvenRow.holds Try.pinned (OpenSpec.ofChange fnColoursEvenSpec)

/-- ITS FALSE NEIGHBOUR: 'it returns false'. Refute it at one input. -/
def fnColoursEvenWrong : ChangeSpec := { name := "fnColoursEven", fn := fun _ => fun
  | [d] => { results := [.lit (.bool false)], args := [d] }
  | _ => none }
def FnColoursEvenWrongFalsely : Prop := fnColoursEvenRow.holds Try.pinned (OpenSpec.ofChange fnColoursEvenWrong)

/-- 'laws.FnBarsMany': WHATEVER THE INPUT: true; the input reads as it did. -/
def fnBarsManySpec : ChangeSpec := { name := "fnBarsMany", fn := fun _ => fun
  | [d] => { results := [.lit (.bool true)], args := [d] }
  | _ => none }
def fnBarsManyRow : OpenClaim := { program := "ythkpiacanfajbaa", sum := "fef7b6c0624108fc50d2759a01fd67f5367dedd60db43fc14fee80aa4bd302e9", func := "loop.example/dominotilings/laws.FnBarsMany", spec := "fnBarsMany", unfollowed := true, recurses := true, apart := false }
def FnBarsManySaid : Prop := fnBarsManyRow.holds Try.pinned (OpenSpec.ofChange fnBarsManySpec)

/-- ITS FALSE NEIGHBOUR: 'it returns false'. Refute it at one input. -/
def fnBarsManyWrong : ChangeSpec := { name := "fnBarsMany", fn := fun _ => fun
  | [d] => { results := [.lit (.bool false)], args := [d] }
  | _ => none }
def FnBarsManyWrongFalsely : Prop := fnBarsManyRow.holds Try.pinned (OpenSpec.ofChange fnBarsManyWrong)

/- THE SECOND FORM. 'bulk': how many values and letters a reading holds, each counted each time it is reached (what is shared counts as often as it is met; a slice's spare places count too). A statement '..UptoSaid' is the law's where the arguments, and the package variables that the reading takes, are together of bulk at most 1048576: NARROWER than '..Said'. Prove '..Said' where nothing that the law and all that it calls make is longer than what came in: it says more and counts as full. Else prove '..UptoSaid'. A law counts once. -/
mutual
def uptoBulk {H : Type} : DataW H → Nat
  | .lit (.string bytes) => bytes.length + 1
  | .lit _ => 1
  | .nil => 1
  | .ptr d => uptoBulk d + 1
  | .slice elems spare => uptoBulkAll elems + uptoBulkAll spare + 1
  | .agg parts => uptoBulkAll parts + 1
  | .iface _ d => uptoBulk d + 1
  | .map entries => uptoBulkEntries entries + 1
  | .held _ => 1
def uptoBulkAll {H : Type} : List (DataW H) → Nat
  | [] => 0
  | d :: r => uptoBulk d + uptoBulkAll r
def uptoBulkEntries {H : Type} : List (Lit × DataW H) → Nat
  | [] => 0
  | x :: r => uptoBulkEntry x + uptoBulkEntries r
def uptoBulkEntry {H : Type} : Lit × DataW H → Nat
  | (.string bytes, d) => bytes.length + uptoBulk d + 1
  | (_, d) => uptoBulk d + 1
 end
def uptoSmall : (H : Type) → List (DataW H) → Bool := fun _ ds => decide (uptoBulkAll ds ≤ 1048576)
def OpenSpec.upto (s : _root_.Go.ChangeSpec) : _root_.Go.OpenSpec := { _root_.Go.OpenSpec.ofChange s with cond := some uptoSmall }

/-- 'laws.FnRoundOf', WHERE WHAT IT READS IS OF BULK AT MOST 1048576: true; the input reads as it did. -/
def fnRoundOfUptoRow : OpenClaim := { program := "ythkpiacanfajbaa", sum := "fef7b6c0624108fc50d2759a01fd67f5367dedd60db43fc14fee80aa4bd302e9", func := "loop.example/dominotilings/laws.FnRoundOf", spec := "fnRoundOf", unfollowed := true, recurses := true, apart := false, narrowed := true }
def FnRoundOfUptoSaid : Prop := fnRoundOfUptoRow.holds Try.pinned (OpenSpec.upto fnRoundOfSpec)

/-- 'laws.FnPieceValid', WHERE WHAT IT READS IS OF BULK AT MOST 1048576: true; the input reads as it did. -/
def fnPieceValidUptoRow : OpenClaim := { program := "ythkpiacanfajbaa", sum := "fef7b6c0624108fc50d2759a01fd67f5367dedd60db43fc14fee80aa4bd302e9", func := "loop.example/dominotilings/laws.FnPieceValid", spec := "fnPieceValid", apart := false, narrowed := true }
def FnPieceValidUptoSaid : Prop := fnPieceValidUptoRow.holds Try.pinned (OpenSpec.upto fnPieceValidSpec)

/-- 'laws.FnPiecesValid', WHERE WHAT IT READS IS OF BULK AT MOST 1048576: true; the input reads as it did. -/
def fnPiecesValidUptoRow : OpenClaim := { program := "ythkpiacanfajbaa", sum := "fef7b6c0624108fc50d2759a01fd67f5367dedd60db43fc14fee80aa4bd302e9", func := "loop.example/dominotilings/laws.FnPiecesValid", spec := "fnPiecesValid", unfollowed := true, recurses := true, apart := false, narrowed := true }
def FnPiecesValidUptoSaid : Prop := fnPiecesValidUptoRow.holds Try.pinned (OpenSpec.upto fnPiecesValidSpec)

/-- 'laws.FnExactPuzzleText', WHERE WHAT IT READS IS OF BULK AT MOST 1048576: true; the input reads as it did. -/
def fnExactPuzzleTextUptoRow : OpenClaim := { program := "ythkpiacanfajbaa", sum := "fef7b6c0624108fc50d2759a01fd67f5367dedd60db43fc14fee80aa4bd302e9", func := "loop.example/dominotilings/laws.FnExactPuzzleText", spec := "fnExactPuzzleText", inPlace := ["internal/abi.NoEscape", "internal/bytealg.MakeNoZero"], unfollowed := true, recurses := true, apart := false, narrowed := true }
def FnExactPuzzleTextUptoSaid : Prop := fnExactPuzzleTextUptoRow.holds Try.pinned (OpenSpec.upto fnExactPuzzleTextSpec)

/-- 'laws.FnColourMany', WHERE WHAT IT READS IS OF BULK AT MOST 1048576: true; the input reads as it did. -/
def fnColourManyUptoRow : OpenClaim := { program := "ythkpiacanfajbaa", sum := "fef7b6c0624108fc50d2759a01fd67f5367dedd60db43fc14fee80aa4bd302e9", func := "loop.example/dominotilings/laws.FnColourMany", spec := "fnColourMany", apart := false, narrowed := true }
def FnColourManyUptoSaid : Prop := fnColourManyUptoRow.holds Try.pinned (OpenSpec.upto fnColourManySpec)

/-- 'laws.FnCutTwo', WHERE WHAT IT READS IS OF BULK AT MOST 1048576: true; the input reads as it did. -/
def fnCutTwoUptoRow : OpenClaim := { program := "ythkpiacanfajbaa", sum := "fef7b6c0624108fc50d2759a01fd67f5367dedd60db43fc14fee80aa4bd302e9", func := "loop.example/dominotilings/laws.FnCutTwo", spec := "fnCutTwo", unfollowed := true, recurses := true, apart := false, narrowed := true }
def FnCutTwoUptoSaid : Prop := fnCutTwoUptoRow.holds Try.pinned (OpenSpec.upto fnCutTwoSpec)

/-- 'laws.FnColoursEven', WHERE WHAT IT READS IS OF BULK AT MOST 1048576: true; the input reads as it did. -/
def fnColoursEvenUptoRow : OpenClaim := { program := "ythkpiacanfajbaa", sum := "fef7b6c0624108fc50d2759a01fd67f5367dedd60db43fc14fee80aa4bd302e9", func := "loop.example/dominotilings/laws.FnColoursEven", spec := "fnColoursEven", unfollowed := true, recurses := true, apart := false, narrowed := true }
def FnColoursEvenUptoSaid : Prop := fnColoursEvenUptoRow.holds Try.pinned (OpenSpec.upto fnColoursEvenSpec)

/-- 'laws.FnBarsMany', WHERE WHAT IT READS IS OF BULK AT MOST 1048576: true; the input reads as it did. -/
def fnBarsManyUptoRow : OpenClaim := { program := "ythkpiacanfajbaa", sum := "fef7b6c0624108fc50d2759a01fd67f5367dedd60db43fc14fee80aa4bd302e9", func := "loop.example/dominotilings/laws.FnBarsMany", spec := "fnBarsMany", unfollowed := true, recurses := true, apart := false, narrowed := true }
def FnBarsManyUptoSaid : Prop := fnBarsManyUptoRow.holds Try.pinned (OpenSpec.upto fnBarsManySpec)

end Rows
end Go.Proofs.Ythkpiacanfajbaa
