/-
  No cell of these rows narrows 'for every input' (looked for: loops, veiled, ifaces, maps, wideKeys, modest, calm, conditions, laid).
  DERIVED. THE GIVEN ROWS OF THIS SEAT. 8 by the template 'for every input the law returns true; each argument reads behind the call as it read before'; 0 by the template 'total and deterministic' (their statements: YtejkbjcmndnfeaaGreatTotals.lean).
  GIVEN WITH THE SEED: the statements are not yours to turn. If you find one false, say at which input.
  Laid BY PROGRAM, IN A SANDBOX (cutbox-rows.mjs): the forced cells as the released guide's own fill.sh prints them over the translation 59772c2fdfc5eb1c… (all of the seat's roots in one cut). By AI agents, Wed Nov 11 2026. No macro, syntax, notation, axiom, sorry.
-/
import Derived.Test.YtejkbjcmndnfeaaGreatChecked
import GoSem.Claim
import GoSem.ClaimJoined
import GoSem.ClaimMapViews
import Derived.JoinedTies
import Derived.KernelRfl
namespace Go.Proofs.YtejkbjcmndnfeaaGreat
/- THE CELL 'sum', in the pinned program and in every row, IS THE sha256 OF THE DUMP (.gsa) THAT YtejkbjcmndnfeaaGreatProg.lean LOADS. Nothing in Lean hashes anything: it is a label: what it is worth is what the hold of that sum in a sandbox is worth. -/
noncomputable def Tryz.pinned : Pinned := { name := "ytejkbjcmndnfeaagreat", sum := "59772c2fdfc5eb1cc9a5438cbb0eb4a7862df6d66074c59c47fb22356cafe5f5", checked := Tryz.checked }
namespace Rows
def none {H : Type} : Left H := { results := [], args := [] }

/-- 'laws.FnFillOk': WHATEVER THE INPUT: true; the input reads as it did. -/
def fnFillOkSpec : ChangeSpec := { name := "fnFillOk", fn := fun _ => fun
  | [d] => { results := [.lit (.bool true)], args := [d] }
  | _ => none }
def fnFillOkRow : OpenClaim := { program := "ytejkbjcmndnfeaagreat", sum := "59772c2fdfc5eb1cc9a5438cbb0eb4a7862df6d66074c59c47fb22356cafe5f5", func := "loop.example/dominotilings/laws.FnFillOk", spec := "fnFillOk", unfollowed := true, recurses := true, apart := false }
def FnFillOkSaid : Prop := fnFillOkRow.holds Tryz.pinned (OpenSpec.ofChange fnFillOkSpec)

/-- ITS FALSE NEIGHBOUR: 'it returns false'. Refute it at one input. -/
def fnFillOkWrong : ChangeSpec := { name := "fnFillOk", fn := fun _ => fun
  | [d] => { results := [.lit (.bool false)], args := [d] }
  | _ => none }
def FnFillOkWrongFalsely : Prop := fnFillOkRow.holds Tryz.pinned (OpenSpec.ofChange fnFillOkWrong)

/-- 'laws.FnExactFillsAll': WHATEVER THE INPUT: true; the input reads as it did. -/
def fnExactFillsAllSpec : ChangeSpec := { name := "fnExactFillsAll", fn := fun _ => fun
  | [d1, d2] => { results := [.lit (.bool true)], args := [d1, d2] }
  | _ => none }
def fnExactFillsAllRow : OpenClaim := { program := "ytejkbjcmndnfeaagreat", sum := "59772c2fdfc5eb1cc9a5438cbb0eb4a7862df6d66074c59c47fb22356cafe5f5", func := "loop.example/dominotilings/laws.FnExactFillsAll", spec := "fnExactFillsAll", unfollowed := true, recurses := true, apart := false }
def FnExactFillsAllSaid : Prop := fnExactFillsAllRow.holds Tryz.pinned (OpenSpec.ofChange fnExactFillsAllSpec)

/-- ITS FALSE NEIGHBOUR: 'it returns false'. Refute it at one input. -/
def fnExactFillsAllWrong : ChangeSpec := { name := "fnExactFillsAll", fn := fun _ => fun
  | [d1, d2] => { results := [.lit (.bool false)], args := [d1, d2] }
  | _ => none }
def FnExactFillsAllWrongFalsely : Prop := fnExactFillsAllRow.holds Tryz.pinned (OpenSpec.ofChange fnExactFillsAllWrong)

/-- 'laws.FnFillsAll': WHATEVER THE INPUT: true; the input reads as it did. -/
def fnFillsAllSpec : ChangeSpec := { name := "fnFillsAll", fn := fun _ => fun
  | [d] => { results := [.lit (.bool true)], args := [d] }
  | _ => none }
def fnFillsAllRow : OpenClaim := { program := "ytejkbjcmndnfeaagreat", sum := "59772c2fdfc5eb1cc9a5438cbb0eb4a7862df6d66074c59c47fb22356cafe5f5", func := "loop.example/dominotilings/laws.FnFillsAll", spec := "fnFillsAll", unfollowed := true, recurses := true, apart := false }
def FnFillsAllSaid : Prop := fnFillsAllRow.holds Tryz.pinned (OpenSpec.ofChange fnFillsAllSpec)

/-- ITS FALSE NEIGHBOUR: 'it returns false'. Refute it at one input. -/
def fnFillsAllWrong : ChangeSpec := { name := "fnFillsAll", fn := fun _ => fun
  | [d] => { results := [.lit (.bool false)], args := [d] }
  | _ => none }
def FnFillsAllWrongFalsely : Prop := fnFillsAllRow.holds Tryz.pinned (OpenSpec.ofChange fnFillsAllWrong)

/-- 'laws.FnCoupled': WHATEVER THE INPUT: true; the input reads as it did. -/
def fnCoupledSpec : ChangeSpec := { name := "fnCoupled", fn := fun _ => fun
  | [d] => { results := [.lit (.bool true)], args := [d] }
  | _ => none }
def fnCoupledRow : OpenClaim := { program := "ytejkbjcmndnfeaagreat", sum := "59772c2fdfc5eb1cc9a5438cbb0eb4a7862df6d66074c59c47fb22356cafe5f5", func := "loop.example/dominotilings/laws.FnCoupled", spec := "fnCoupled", unfollowed := true, recurses := true, apart := false }
def FnCoupledSaid : Prop := fnCoupledRow.holds Tryz.pinned (OpenSpec.ofChange fnCoupledSpec)

/-- ITS FALSE NEIGHBOUR: 'it returns false'. Refute it at one input. -/
def fnCoupledWrong : ChangeSpec := { name := "fnCoupled", fn := fun _ => fun
  | [d] => { results := [.lit (.bool false)], args := [d] }
  | _ => none }
def FnCoupledWrongFalsely : Prop := fnCoupledRow.holds Tryz.pinned (OpenSpec.ofChange fnCoupledWrong)

/-- 'laws.FnCoupledAt': WHATEVER THE INPUT: true; the input reads as it did. -/
def fnCoupledAtSpec : ChangeSpec := { name := "fnCoupledAt", fn := fun _ => fun
  | [d] => { results := [.lit (.bool true)], args := [d] }
  | _ => none }
def fnCoupledAtRow : OpenClaim := { program := "ytejkbjcmndnfeaagreat", sum := "59772c2fdfc5eb1cc9a5438cbb0eb4a7862df6d66074c59c47fb22356cafe5f5", func := "loop.example/dominotilings/laws.FnCoupledAt", spec := "fnCoupledAt", unfollowed := true, recurses := true, apart := false }
def FnCoupledAtSaid : Prop := fnCoupledAtRow.holds Tryz.pinned (OpenSpec.ofChange fnCoupledAtSpec)

/-- ITS FALSE NEIGHBOUR: 'it returns false'. Refute it at one input. -/
def fnCoupledAtWrong : ChangeSpec := { name := "fnCoupledAt", fn := fun _ => fun
  | [d] => { results := [.lit (.bool false)], args := [d] }
  | _ => none }
def FnCoupledAtWrongFalsely : Prop := fnCoupledAtRow.holds Tryz.pinned (OpenSpec.ofChange fnCoupledAtWrong)

/-- 'laws.FnFromPast': WHATEVER THE INPUT: true; the input reads as it did. -/
def fnFromPastSpec : ChangeSpec := { name := "fnFromPast", fn := fun _ => fun
  | [d] => { results := [.lit (.bool true)], args := [d] }
  | _ => none }
def fnFromPastRow : OpenClaim := { program := "ytejkbjcmndnfeaagreat", sum := "59772c2fdfc5eb1cc9a5438cbb0eb4a7862df6d66074c59c47fb22356cafe5f5", func := "loop.example/dominotilings/laws.FnFromPast", spec := "fnFromPast", unfollowed := true, recurses := true, apart := false }
def FnFromPastSaid : Prop := fnFromPastRow.holds Tryz.pinned (OpenSpec.ofChange fnFromPastSpec)

/-- ITS FALSE NEIGHBOUR: 'it returns false'. Refute it at one input. -/
def fnFromPastWrong : ChangeSpec := { name := "fnFromPast", fn := fun _ => fun
  | [d] => { results := [.lit (.bool false)], args := [d] }
  | _ => none }
def FnFromPastWrongFalsely : Prop := fnFromPastRow.holds Tryz.pinned (OpenSpec.ofChange fnFromPastWrong)

/-- 'laws.FnExactFromPast': WHATEVER THE INPUT: true; the input reads as it did. -/
def fnExactFromPastSpec : ChangeSpec := { name := "fnExactFromPast", fn := fun _ => fun
  | [d1, d2] => { results := [.lit (.bool true)], args := [d1, d2] }
  | _ => none }
def fnExactFromPastRow : OpenClaim := { program := "ytejkbjcmndnfeaagreat", sum := "59772c2fdfc5eb1cc9a5438cbb0eb4a7862df6d66074c59c47fb22356cafe5f5", func := "loop.example/dominotilings/laws.FnExactFromPast", spec := "fnExactFromPast", unfollowed := true, recurses := true, apart := false }
def FnExactFromPastSaid : Prop := fnExactFromPastRow.holds Tryz.pinned (OpenSpec.ofChange fnExactFromPastSpec)

/-- ITS FALSE NEIGHBOUR: 'it returns false'. Refute it at one input. -/
def fnExactFromPastWrong : ChangeSpec := { name := "fnExactFromPast", fn := fun _ => fun
  | [d1, d2] => { results := [.lit (.bool false)], args := [d1, d2] }
  | _ => none }
def FnExactFromPastWrongFalsely : Prop := fnExactFromPastRow.holds Tryz.pinned (OpenSpec.ofChange fnExactFromPastWrong)

/-- 'laws.FnPushOne': WHATEVER THE INPUT: true; the input reads as it did. -/
def fnPushOneSpec : ChangeSpec := { name := "fnPushOne", fn := fun _ => fun
  | [d1, d2] => { results := [.lit (.bool true)], args := [d1, d2] }
  | _ => none }
def fnPushOneRow : OpenClaim := { program := "ytejkbjcmndnfeaagreat", sum := "59772c2fdfc5eb1cc9a5438cbb0eb4a7862df6d66074c59c47fb22356cafe5f5", func := "loop.example/dominotilings/laws.FnPushOne", spec := "fnPushOne", unfollowed := true, recurses := true, apart := false }
def FnPushOneSaid : Prop := fnPushOneRow.holds Tryz.pinned (OpenSpec.ofChange fnPushOneSpec)

/-- ITS FALSE NEIGHBOUR: 'it returns false'. Refute it at one input. -/
def fnPushOneWrong : ChangeSpec := { name := "fnPushOne", fn := fun _ => fun
  | [d1, d2] => { results := [.lit (.bool false)], args := [d1, d2] }
  | _ => none }
def FnPushOneWrongFalsely : Prop := fnPushOneRow.holds Tryz.pinned (OpenSpec.ofChange fnPushOneWrong)

/- THE SECOND FORM. 'bulk': how many values and letters a reading holds, each counted each time it is reached (what is shared counts as often as it is met; a slice's spare places count too). A statement '..UptoSaid' is the law's where the arguments, and the package variables that the reading takes, are together of bulk at most 1048576: NARROWER than '..Said'. Prove '..Said' where nothing that the law and all that it calls make is longer than what came in: it says more and counts as full. Else prove '..UptoSaid'. A law counts once. -/
mutual
def uptoBulk {H : Type} : DataW H → Nat
  | .lit (.string bytes) => bytes.length + 1
  | .lit _ => 1
  | .nil => 1
  | .ptr d => uptoBulk d + 1
  | .slice elems spare => uptoBulkAll elems + uptoBulkAll spare + 1
  | .agg parts => uptoBulkAll parts + 1
  | .iface _ d => uptoBulk d + 1
  | .map entries => uptoBulkEntries entries + 1
  | .held _ => 1
def uptoBulkAll {H : Type} : List (DataW H) → Nat
  | [] => 0
  | d :: r => uptoBulk d + uptoBulkAll r
def uptoBulkEntries {H : Type} : List (Lit × DataW H) → Nat
  | [] => 0
  | x :: r => uptoBulkEntry x + uptoBulkEntries r
def uptoBulkEntry {H : Type} : Lit × DataW H → Nat
  | (.string bytes, d) => bytes.length + uptoBulk d + 1
  | (_, d) => uptoBulk d + 1
 end
def uptoSmall : (H : Type) → List (DataW H) → Bool := fun _ ds => decide (uptoBulkAll ds ≤ 1048576)
def OpenSpec.upto (s : _root_.Go.ChangeSpec) : _root_.Go.OpenSpec := { _root_.Go.OpenSpec.ofChange s with cond := some uptoSmall }

/-- 'laws.FnFillOk', WHERE WHAT IT READS IS OF BULK AT MOST 1048576: true; the input reads as it did. -/
def fnFillOkUptoRow : OpenClaim := { program := "ytejkbjcmndnfeaagreat", sum := "59772c2fdfc5eb1cc9a5438cbb0eb4a7862df6d66074c59c47fb22356cafe5f5", func := "loop.example/dominotilings/laws.FnFillOk", spec := "fnFillOk", unfollowed := true, recurses := true, apart := false, narrowed := true }
def FnFillOkUptoSaid : Prop := fnFillOkUptoRow.holds Tryz.pinned (OpenSpec.upto fnFillOkSpec)

/-- 'laws.FnExactFillsAll', WHERE WHAT IT READS IS OF BULK AT MOST 1048576: true; the input reads as it did. -/
def fnExactFillsAllUptoRow : OpenClaim := { program := "ytejkbjcmndnfeaagreat", sum := "59772c2fdfc5eb1cc9a5438cbb0eb4a7862df6d66074c59c47fb22356cafe5f5", func := "loop.example/dominotilings/laws.FnExactFillsAll", spec := "fnExactFillsAll", unfollowed := true, recurses := true, apart := false, narrowed := true }
def FnExactFillsAllUptoSaid : Prop := fnExactFillsAllUptoRow.holds Tryz.pinned (OpenSpec.upto fnExactFillsAllSpec)

/-- 'laws.FnFillsAll', WHERE WHAT IT READS IS OF BULK AT MOST 1048576: true; the input reads as it did. -/
def fnFillsAllUptoRow : OpenClaim := { program := "ytejkbjcmndnfeaagreat", sum := "59772c2fdfc5eb1cc9a5438cbb0eb4a7862df6d66074c59c47fb22356cafe5f5", func := "loop.example/dominotilings/laws.FnFillsAll", spec := "fnFillsAll", unfollowed := true, recurses := true, apart := false, narrowed := true }
def FnFillsAllUptoSaid : Prop := fnFillsAllUptoRow.holds Tryz.pinned (OpenSpec.upto fnFillsAllSpec)

/-- 'laws.FnCoupled', WHERE WHAT IT READS IS OF BULK AT MOST 1048576: true; the input reads as it did. -/
def fnCoupledUptoRow : OpenClaim := { program := "ytejkbjcmndnfeaagreat", sum := "59772c2fdfc5eb1cc9a5438cbb0eb4a7862df6d66074c59c47fb22356cafe5f5", func := "loop.example/dominotilings/laws.FnCoupled", spec := "fnCoupled", unfollowed := true, recurses := true, apart := false, narrowed := true }
def FnCoupledUptoSaid : Prop := fnCoupledUptoRow.holds Tryz.pinned (OpenSpec.upto fnCoupledSpec)

/-- 'laws.FnCoupledAt', WHERE WHAT IT READS IS OF BULK AT MOST 1048576: true; the input reads as it did. -/
def fnCoupledAtUptoRow : OpenClaim := { program := "ytejkbjcmndnfeaagreat", sum := "59772c2fdfc5eb1cc9a5438cbb0eb4a7862df6d66074c59c47fb22356cafe5f5", func := "loop.example/dominotilings/laws.FnCoupledAt", spec := "fnCoupledAt", unfollowed := true, recurses := true, apart := false, narrowed := true }
def FnCoupledAtUptoSaid : Prop := fnCoupledAtUptoRow.holds Tryz.pinned (OpenSpec.upto fnCoupledAtSpec)

/-- 'laws.FnFromPast', WHERE WHAT IT READS IS OF BULK AT MOST 1048576: true; the input reads as it did. -/
def fnFromPastUptoRow : OpenClaim := { program := "ytejkbjcmndnfeaagreat", sum := "59772c2fdfc5eb1cc9a5438cbb0eb4a7862df6d66074c59c47fb22356cafe5f5", func := "loop.example/dominotilings/laws.FnFromPast", spec := "fnFromPast", unfollowed := true, recurses := true, apart := false, narrowed := true }
def FnFromPastUptoSaid : Prop := fnFromPastUptoRow.holds Tryz.pinned (OpenSpec.upto fnFromPastSpec)

/-- 'laws.FnExactFromPast', WHERE WHAT IT READS IS OF BULK AT MOST 1048576: true; the input reads as it did. -/
def fnExactFromPastUptoRow : OpenClaim := { program := "ytejkbjcmndnfeaagreat", sum := "59772c2fdfc5eb1cc9a5438cbb0eb4a7862df6d66074c59c47fb22356cafe5f5", func := "loop.example/dominotilings/laws.FnExactFromPast", spec := "fnExactFromPast", unfollowed := true, recurses := true, apart := false, narrowed := true }
def FnExactFromPastUptoSaid : Prop := fnExactFromPastUptoRow.holds Tryz.pinned (OpenSpec.upto fnExactFromPastSpec)

/-- 'laws.FnPushOne', WHERE WHAT IT READS IS OF BULK AT MOST 1048576: true; the input reads as it did. -/
def fnPushOneUptoRow : OpenClaim := { program := "ytejkbjcmndnfeaagreat", sum := "59772c2fdfc5eb1cc9a5438cbb0eb4a7862df6d66074c59c47fb22356cafe5f5", func := "loop.example/dominotilings/laws.FnPushOne", spec := "fnPushOne", unfollowed := true, recurses := true, apart := false, narrowed := true }
def FnPushOneUptoSaid : Prop := fnPushOneUptoRow.holds Tryz.pinned (OpenSpec.upto fnPushOneSpec)

end Rows
end Go.Proofs.YtejkbjcmndnfeaaGreat
