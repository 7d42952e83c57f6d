/-
  No cell of these rows narrows 'for every input' (looked for: loops, veiled, ifaces, maps, wideKeys, modest, calm, conditions, laid).
  DERIVED. THE GIVEN ROWS OF THIS SEAT. 7 by the template 'for every input the law returns true; each argument reads behind the call as it read before'; 0 by the template 'total and deterministic' (their statements: YtnciemnlnijhfaaTotals.lean).
  GIVEN WITH THE SEED: the statements are not yours to turn. If you find one false, say at which input.
  Laid BY PROGRAM, IN A SANDBOX (cutbox-rows.mjs): the forced cells as the released guide's own fill.sh prints them over the translation 93062772d6a866b1… (all of the seat's roots in one cut). By AI agents, Wed Nov 11 2026. No macro, syntax, notation, axiom, sorry.
-/
import Derived.Test.YtnciemnlnijhfaaChecked
import GoSem.Claim
import GoSem.ClaimJoined
import GoSem.ClaimMapViews
import Derived.JoinedTies
import Derived.KernelRfl
namespace Go.Proofs.Ytnciemnlnijhfaa
/- THE CELL 'sum', in the pinned program and in every row, IS THE sha256 OF THE DUMP (.gsa) THAT YtnciemnlnijhfaaProg.lean LOADS. Nothing in Lean hashes anything: it is a label: what it is worth is what the hold of that sum in a sandbox is worth. -/
noncomputable def Try.pinned : Pinned := { name := "ytnciemnlnijhfaa", sum := "93062772d6a866b13c9502496206f68ef0cda9acca22fddb3523c6525a0fff80", checked := Try.checked }
namespace Rows
def none {H : Type} : Left H := { results := [], args := [] }

/-- 'laws.FnLaidMost': WHATEVER THE INPUT: true; the input reads as it did. -/
def fnLaidMostSpec : ChangeSpec := { name := "fnLaidMost", fn := fun _ => fun
  | [d] => { results := [.lit (.bool true)], args := [d] }
  | _ => none }
def fnLaidMostRow : OpenClaim := { program := "ytnciemnlnijhfaa", sum := "93062772d6a866b13c9502496206f68ef0cda9acca22fddb3523c6525a0fff80", func := "loop.example/dominotilings/laws.FnLaidMost", spec := "fnLaidMost", unfollowed := true, recurses := true, apart := false }
def FnLaidMostSaid : Prop := fnLaidMostRow.holds Try.pinned (OpenSpec.ofChange fnLaidMostSpec)

/-- ITS FALSE NEIGHBOUR: 'it returns false'. Refute it at one input. -/
def fnLaidMostWrong : ChangeSpec := { name := "fnLaidMost", fn := fun _ => fun
  | [d] => { results := [.lit (.bool false)], args := [d] }
  | _ => none }
def FnLaidMostWrongFalsely : Prop := fnLaidMostRow.holds Try.pinned (OpenSpec.ofChange fnLaidMostWrong)

/-- 'laws.FnPieceRegion': WHATEVER THE INPUT: true; the input reads as it did. -/
def fnPieceRegionSpec : ChangeSpec := { name := "fnPieceRegion", fn := fun _ => fun
  | [d] => { results := [.lit (.bool true)], args := [d] }
  | _ => none }
def fnPieceRegionRow : OpenClaim := { program := "ytnciemnlnijhfaa", sum := "93062772d6a866b13c9502496206f68ef0cda9acca22fddb3523c6525a0fff80", func := "loop.example/dominotilings/laws.FnPieceRegion", spec := "fnPieceRegion", unfollowed := true, recurses := true, apart := false }
def FnPieceRegionSaid : Prop := fnPieceRegionRow.holds Try.pinned (OpenSpec.ofChange fnPieceRegionSpec)

/-- ITS FALSE NEIGHBOUR: 'it returns false'. Refute it at one input. -/
def fnPieceRegionWrong : ChangeSpec := { name := "fnPieceRegion", fn := fun _ => fun
  | [d] => { results := [.lit (.bool false)], args := [d] }
  | _ => none }
def FnPieceRegionWrongFalsely : Prop := fnPieceRegionRow.holds Try.pinned (OpenSpec.ofChange fnPieceRegionWrong)

/-- 'laws.FnExactCornerFill': WHATEVER THE INPUT: true; the input reads as it did. -/
def fnExactCornerFillSpec : ChangeSpec := { name := "fnExactCornerFill", fn := fun _ => fun
  | [d1, d2] => { results := [.lit (.bool true)], args := [d1, d2] }
  | _ => none }
def fnExactCornerFillRow : OpenClaim := { program := "ytnciemnlnijhfaa", sum := "93062772d6a866b13c9502496206f68ef0cda9acca22fddb3523c6525a0fff80", func := "loop.example/dominotilings/laws.FnExactCornerFill", spec := "fnExactCornerFill", unfollowed := true, recurses := true, apart := false }
def FnExactCornerFillSaid : Prop := fnExactCornerFillRow.holds Try.pinned (OpenSpec.ofChange fnExactCornerFillSpec)

/-- ITS FALSE NEIGHBOUR: 'it returns false'. Refute it at one input. -/
def fnExactCornerFillWrong : ChangeSpec := { name := "fnExactCornerFill", fn := fun _ => fun
  | [d1, d2] => { results := [.lit (.bool false)], args := [d1, d2] }
  | _ => none }
def FnExactCornerFillWrongFalsely : Prop := fnExactCornerFillRow.holds Try.pinned (OpenSpec.ofChange fnExactCornerFillWrong)

/-- 'laws.FnCornerFill': WHATEVER THE INPUT: true; the input reads as it did. -/
def fnCornerFillSpec : ChangeSpec := { name := "fnCornerFill", fn := fun _ => fun
  | [d] => { results := [.lit (.bool true)], args := [d] }
  | _ => none }
def fnCornerFillRow : OpenClaim := { program := "ytnciemnlnijhfaa", sum := "93062772d6a866b13c9502496206f68ef0cda9acca22fddb3523c6525a0fff80", func := "loop.example/dominotilings/laws.FnCornerFill", spec := "fnCornerFill", unfollowed := true, recurses := true, apart := false }
def FnCornerFillSaid : Prop := fnCornerFillRow.holds Try.pinned (OpenSpec.ofChange fnCornerFillSpec)

/-- ITS FALSE NEIGHBOUR: 'it returns false'. Refute it at one input. -/
def fnCornerFillWrong : ChangeSpec := { name := "fnCornerFill", fn := fun _ => fun
  | [d] => { results := [.lit (.bool false)], args := [d] }
  | _ => none }
def FnCornerFillWrongFalsely : Prop := fnCornerFillRow.holds Try.pinned (OpenSpec.ofChange fnCornerFillWrong)

/-- 'laws.FnExactPuzzleText': WHATEVER THE INPUT: true; the input reads as it did. -/
def fnExactPuzzleTextSpec : ChangeSpec := { name := "fnExactPuzzleText", fn := fun _ => fun
  | [d1, d2] => { results := [.lit (.bool true)], args := [d1, d2] }
  | _ => none }
def fnExactPuzzleTextRow : OpenClaim := { program := "ytnciemnlnijhfaa", sum := "93062772d6a866b13c9502496206f68ef0cda9acca22fddb3523c6525a0fff80", func := "loop.example/dominotilings/laws.FnExactPuzzleText", spec := "fnExactPuzzleText", inPlace := ["internal/abi.NoEscape", "internal/bytealg.MakeNoZero"], unfollowed := true, recurses := true, apart := false }
def FnExactPuzzleTextSaid : Prop := fnExactPuzzleTextRow.holds Try.pinned (OpenSpec.ofChange fnExactPuzzleTextSpec)

/-- ITS FALSE NEIGHBOUR: 'it returns false'. Refute it at one input. -/
def fnExactPuzzleTextWrong : ChangeSpec := { name := "fnExactPuzzleText", fn := fun _ => fun
  | [d1, d2] => { results := [.lit (.bool false)], args := [d1, d2] }
  | _ => none }
def FnExactPuzzleTextWrongFalsely : Prop := fnExactPuzzleTextRow.holds Try.pinned (OpenSpec.ofChange fnExactPuzzleTextWrong)

/-- 'laws.FnBarsMany': WHATEVER THE INPUT: true; the input reads as it did. -/
def fnBarsManySpec : ChangeSpec := { name := "fnBarsMany", fn := fun _ => fun
  | [d] => { results := [.lit (.bool true)], args := [d] }
  | _ => none }
def fnBarsManyRow : OpenClaim := { program := "ytnciemnlnijhfaa", sum := "93062772d6a866b13c9502496206f68ef0cda9acca22fddb3523c6525a0fff80", func := "loop.example/dominotilings/laws.FnBarsMany", spec := "fnBarsMany", unfollowed := true, recurses := true, apart := false }
def FnBarsManySaid : Prop := fnBarsManyRow.holds Try.pinned (OpenSpec.ofChange fnBarsManySpec)

/-- ITS FALSE NEIGHBOUR: 'it returns false'. Refute it at one input. -/
def fnBarsManyWrong : ChangeSpec := { name := "fnBarsMany", fn := fun _ => fun
  | [d] => { results := [.lit (.bool false)], args := [d] }
  | _ => none }
def FnBarsManyWrongFalsely : Prop := fnBarsManyRow.holds Try.pinned (OpenSpec.ofChange fnBarsManyWrong)

/-- 'laws.FnExactFillOk': WHATEVER THE INPUT: true; the input reads as it did. -/
def fnExactFillOkSpec : ChangeSpec := { name := "fnExactFillOk", fn := fun _ => fun
  | [d1, d2, d3] => { results := [.lit (.bool true)], args := [d1, d2, d3] }
  | _ => none }
def fnExactFillOkRow : OpenClaim := { program := "ytnciemnlnijhfaa", sum := "93062772d6a866b13c9502496206f68ef0cda9acca22fddb3523c6525a0fff80", func := "loop.example/dominotilings/laws.FnExactFillOk", spec := "fnExactFillOk", unfollowed := true, recurses := true, apart := false }
def FnExactFillOkSaid : Prop := fnExactFillOkRow.holds Try.pinned (OpenSpec.ofChange fnExactFillOkSpec)

/-- ITS FALSE NEIGHBOUR: 'it returns false'. Refute it at one input. -/
def fnExactFillOkWrong : ChangeSpec := { name := "fnExactFillOk", fn := fun _ => fun
  | [d1, d2, d3] => { results := [.lit (.bool false)], args := [d1, d2, d3] }
  | _ => none }
def FnExactFillOkWrongFalsely : Prop := fnExactFillOkRow.holds Try.pinned (OpenSpec.ofChange fnExactFillOkWrong)

/- THE SECOND FORM. 'bulk': how many values and letters a reading holds, each counted each time it is reached (what is shared counts as often as it is met; a slice's spare places count too). A statement '..UptoSaid' is the law's where the arguments, and the package variables that the reading takes, are together of bulk at most 1048576: NARROWER than '..Said'. Prove '..Said' where nothing that the law and all that it calls make is longer than what came in: it says more and counts as full. Else prove '..UptoSaid'. A law counts once. -/
mutual
def uptoBulk {H : Type} : DataW H → Nat
  | .lit (.string bytes) => bytes.length + 1
  | .lit _ => 1
  | .nil => 1
  | .ptr d => uptoBulk d + 1
  | .slice elems spare => uptoBulkAll elems + uptoBulkAll spare + 1
  | .agg parts => uptoBulkAll parts + 1
  | .iface _ d => uptoBulk d + 1
  | .map entries => uptoBulkEntries entries + 1
  | .held _ => 1
def uptoBulkAll {H : Type} : List (DataW H) → Nat
  | [] => 0
  | d :: r => uptoBulk d + uptoBulkAll r
def uptoBulkEntries {H : Type} : List (Lit × DataW H) → Nat
  | [] => 0
  | x :: r => uptoBulkEntry x + uptoBulkEntries r
def uptoBulkEntry {H : Type} : Lit × DataW H → Nat
  | (.string bytes, d) => bytes.length + uptoBulk d + 1
  | (_, d) => uptoBulk d + 1
 end
def uptoSmall : (H : Type) → List (DataW H) → Bool := fun _ ds => decide (uptoBulkAll ds ≤ 1048576)
def OpenSpec.upto (s : _root_.Go.ChangeSpec) : _root_.Go.OpenSpec := { _root_.Go.OpenSpec.ofChange s with cond := some uptoSmall }

/-- 'laws.FnLaidMost', WHERE WHAT IT READS IS OF BULK AT MOST 1048576: true; the input reads as it did. -/
def fnLaidMostUptoRow : OpenClaim := { program := "ytnciemnlnijhfaa", sum := "93062772d6a866b13c9502496206f68ef0cda9acca22fddb3523c6525a0fff80", func := "loop.example/dominotilings/laws.FnLaidMost", spec := "fnLaidMost", unfollowed := true, recurses := true, apart := false, narrowed := true }
def FnLaidMostUptoSaid : Prop := fnLaidMostUptoRow.holds Try.pinned (OpenSpec.upto fnLaidMostSpec)

/-- 'laws.FnPieceRegion', WHERE WHAT IT READS IS OF BULK AT MOST 1048576: true; the input reads as it did. -/
def fnPieceRegionUptoRow : OpenClaim := { program := "ytnciemnlnijhfaa", sum := "93062772d6a866b13c9502496206f68ef0cda9acca22fddb3523c6525a0fff80", func := "loop.example/dominotilings/laws.FnPieceRegion", spec := "fnPieceRegion", unfollowed := true, recurses := true, apart := false, narrowed := true }
def FnPieceRegionUptoSaid : Prop := fnPieceRegionUptoRow.holds Try.pinned (OpenSpec.upto fnPieceRegionSpec)

/-- 'laws.FnExactCornerFill', WHERE WHAT IT READS IS OF BULK AT MOST 1048576: true; the input reads as it did. -/
def fnExactCornerFillUptoRow : OpenClaim := { program := "ytnciemnlnijhfaa", sum := "93062772d6a866b13c9502496206f68ef0cda9acca22fddb3523c6525a0fff80", func := "loop.example/dominotilings/laws.FnExactCornerFill", spec := "fnExactCornerFill", unfollowed := true, recurses := true, apart := false, narrowed := true }
def FnExactCornerFillUptoSaid : Prop := fnExactCornerFillUptoRow.holds Try.pinned (OpenSpec.upto fnExactCornerFillSpec)

/-- 'laws.FnCornerFill', WHERE WHAT IT READS IS OF BULK AT MOST 1048576: true; the input reads as it did. -/
def fnCornerFillUptoRow : OpenClaim := { program := "ytnciemnlnijhfaa", sum := "93062772d6a866b13c9502496206f68ef0cda9acca22fddb3523c6525a0fff80", func := "loop.example/dominotilings/laws.FnCornerFill", spec := "fnCornerFill", unfollowed := true, recurses := true, apart := false, narrowed := true }
def FnCornerFillUptoSaid : Prop := fnCornerFillUptoRow.holds Try.pinned (OpenSpec.upto fnCornerFillSpec)

/-- 'laws.FnExactPuzzleText', WHERE WHAT IT READS IS OF BULK AT MOST 1048576: true; the input reads as it did. -/
def fnExactPuzzleTextUptoRow : OpenClaim := { program := "ytnciemnlnijhfaa", sum := "93062772d6a866b13c9502496206f68ef0cda9acca22fddb3523c6525a0fff80", func := "loop.example/dominotilings/laws.FnExactPuzzleText", spec := "fnExactPuzzleText", inPlace := ["internal/abi.NoEscape", "internal/bytealg.MakeNoZero"], unfollowed := true, recurses := true, apart := false, narrowed := true }
def FnExactPuzzleTextUptoSaid : Prop := fnExactPuzzleTextUptoRow.holds Try.pinned (OpenSpec.upto fnExactPuzzleTextSpec)

/-- 'laws.FnBarsMany', WHERE WHAT IT READS IS OF BULK AT MOST 1048576: true; the input reads as it did. -/
def fnBarsManyUptoRow : OpenClaim := { program := "ytnciemnlnijhfaa", sum := "93062772d6a866b13c9502496206f68ef0cda9acca22fddb3523c6525a0fff80", func := "loop.example/dominotilings/laws.FnBarsMany", spec := "fnBarsMany", unfollowed := true, recurses := true, apart := false, narrowed := true }
def FnBarsManyUptoSaid : Prop := fnBarsManyUptoRow.holds Try.pinned (OpenSpec.upto fnBarsManySpec)

/-- 'laws.FnExactFillOk', WHERE WHAT IT READS IS OF BULK AT MOST 1048576: true; the input reads as it did. -/
def fnExactFillOkUptoRow : OpenClaim := { program := "ytnciemnlnijhfaa", sum := "93062772d6a866b13c9502496206f68ef0cda9acca22fddb3523c6525a0fff80", func := "loop.example/dominotilings/laws.FnExactFillOk", spec := "fnExactFillOk", unfollowed := true, recurses := true, apart := false, narrowed := true }
def FnExactFillOkUptoSaid : Prop := fnExactFillOkUptoRow.holds Try.pinned (OpenSpec.upto fnExactFillOkSpec)

end Rows
end Go.Proofs.Ytnciemnlnijhfaa
