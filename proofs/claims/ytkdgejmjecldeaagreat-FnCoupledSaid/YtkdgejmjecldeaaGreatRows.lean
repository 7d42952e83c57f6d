/-
  No cell of these rows narrows 'for every input' (looked for: loops, veiled, ifaces, maps, wideKeys, modest, calm, conditions, laid).
  DERIVED. THE GIVEN ROWS OF THIS SEAT. 4 by the template 'for every input the law returns true; each argument reads behind the call as it read before'; 0 by the template 'total and deterministic' (their statements: YtkdgejmjecldeaaGreatTotals.lean).
  GIVEN WITH THE SEED: the statements are not yours to turn. If you find one false, say at which input.
  Laid BY PROGRAM, IN A SANDBOX (cutbox-rows.mjs): the forced cells as the released guide's own fill.sh prints them over the translation 1ec9024463153607… (all of the seat's roots in one cut). By AI agents, Wed Nov 11 2026. No macro, syntax, notation, axiom, sorry.
-/
import Derived.Test.YtkdgejmjecldeaaGreatChecked
import GoSem.Claim
import GoSem.ClaimJoined
import GoSem.ClaimMapViews
import Derived.JoinedTies
import Derived.KernelRfl
namespace Go.Proofs.YtkdgejmjecldeaaGreat
/- THE CELL 'sum', in the pinned program and in every row, IS THE sha256 OF THE DUMP (.gsa) THAT YtkdgejmjecldeaaGreatProg.lean LOADS. Nothing in Lean hashes anything: it is a label: what it is worth is what the hold of that sum in a sandbox is worth. -/
noncomputable def Tryz.pinned : Pinned := { name := "ytkdgejmjecldeaagreat", sum := "1ec9024463153607a01b4eaf985cf5b771a5bfc659baa4e6b0ad6096b93bcfa4", checked := Tryz.checked }
namespace Rows
def none {H : Type} : Left H := { results := [], args := [] }

/-- 'laws.FnCoupled': WHATEVER THE INPUT: true; the input reads as it did. -/
def fnCoupledSpec : ChangeSpec := { name := "fnCoupled", fn := fun _ => fun
  | [d] => { results := [.lit (.bool true)], args := [d] }
  | _ => none }
def fnCoupledRow : OpenClaim := { program := "ytkdgejmjecldeaagreat", sum := "1ec9024463153607a01b4eaf985cf5b771a5bfc659baa4e6b0ad6096b93bcfa4", func := "loop.example/dominotilings/laws.FnCoupled", spec := "fnCoupled", unfollowed := true, recurses := true, apart := false }
def FnCoupledSaid : Prop := fnCoupledRow.holds Tryz.pinned (OpenSpec.ofChange fnCoupledSpec)

/-- ITS FALSE NEIGHBOUR: 'it returns false'. Refute it at one input. -/
def fnCoupledWrong : ChangeSpec := { name := "fnCoupled", fn := fun _ => fun
  | [d] => { results := [.lit (.bool false)], args := [d] }
  | _ => none }
def FnCoupledWrongFalsely : Prop := fnCoupledRow.holds Tryz.pinned (OpenSpec.ofChange fnCoupledWrong)

/-- 'laws.FnCoupledAt': WHATEVER THE INPUT: true; the input reads as it did. -/
def fnCoupledAtSpec : ChangeSpec := { name := "fnCoupledAt", fn := fun _ => fun
  | [d] => { results := [.lit (.bool true)], args := [d] }
  | _ => none }
def fnCoupledAtRow : OpenClaim := { program := "ytkdgejmjecldeaagreat", sum := "1ec9024463153607a01b4eaf985cf5b771a5bfc659baa4e6b0ad6096b93bcfa4", func := "loop.example/dominotilings/laws.FnCoupledAt", spec := "fnCoupledAt", unfollowed := true, recurses := true, apart := false }
def FnCoupledAtSaid : Prop := fnCoupledAtRow.holds Tryz.pinned (OpenSpec.ofChange fnCoupledAtSpec)

/-- ITS FALSE NEIGHBOUR: 'it returns false'. Refute it at one input. -/
def fnCoupledAtWrong : ChangeSpec := { name := "fnCoupledAt", fn := fun _ => fun
  | [d] => { results := [.lit (.bool false)], args := [d] }
  | _ => none }
def FnCoupledAtWrongFalsely : Prop := fnCoupledAtRow.holds Tryz.pinned (OpenSpec.ofChange fnCoupledAtWrong)

/-- 'laws.FnExactFromPast': WHATEVER THE INPUT: true; the input reads as it did. -/
def fnExactFromPastSpec : ChangeSpec := { name := "fnExactFromPast", fn := fun _ => fun
  | [d1, d2] => { results := [.lit (.bool true)], args := [d1, d2] }
  | _ => none }
def fnExactFromPastRow : OpenClaim := { program := "ytkdgejmjecldeaagreat", sum := "1ec9024463153607a01b4eaf985cf5b771a5bfc659baa4e6b0ad6096b93bcfa4", func := "loop.example/dominotilings/laws.FnExactFromPast", spec := "fnExactFromPast", unfollowed := true, recurses := true, apart := false }
def FnExactFromPastSaid : Prop := fnExactFromPastRow.holds Tryz.pinned (OpenSpec.ofChange fnExactFromPastSpec)

/-- ITS FALSE NEIGHBOUR: 'it returns false'. Refute it at one input. -/
def fnExactFromPastWrong : ChangeSpec := { name := "fnExactFromPast", fn := fun _ => fun
  | [d1, d2] => { results := [.lit (.bool false)], args := [d1, d2] }
  | _ => none }
def FnExactFromPastWrongFalsely : Prop := fnExactFromPastRow.holds Tryz.pinned (OpenSpec.ofChange fnExactFromPastWrong)

/-- 'laws.FnPushOne': WHATEVER THE INPUT: true; the input reads as it did. -/
def fnPushOneSpec : ChangeSpec := { name := "fnPushOne", fn := fun _ => fun
  | [d1, d2] => { results := [.lit (.bool true)], args := [d1, d2] }
  | _ => none }
def fnPushOneRow : OpenClaim := { program := "ytkdgejmjecldeaagreat", sum := "1ec9024463153607a01b4eaf985cf5b771a5bfc659baa4e6b0ad6096b93bcfa4", func := "loop.example/dominotilings/laws.FnPushOne", spec := "fnPushOne", unfollowed := true, recurses := true, apart := false }
def FnPushOneSaid : Prop := fnPushOneRow.holds Tryz.pinned (OpenSpec.ofChange fnPushOneSpec)

/-- ITS FALSE NEIGHBOUR: 'it returns false'. Refute it at one input. -/
def fnPushOneWrong : ChangeSpec := { name := "fnPushOne", fn := fun _ => fun
  | [d1, d2] => { results := [.lit (.bool false)], args := [d1, d2] }
  | _ => none }
def FnPushOneWrongFalsely : Prop := fnPushOneRow.holds Tryz.pinned (OpenSpec.ofChange fnPushOneWrong)

/- THE SECOND FORM. 'bulk': how many values and letters a reading holds, each counted each time it is reached (what is shared counts as often as it is met; a slice's spare places count too). A statement '..UptoSaid' is the law's where the arguments, and the package variables that the reading takes, are together of bulk at most 1048576: NARROWER than '..Said'. Prove '..Said' where nothing that the law and all that it calls make is longer than what came in: it says more and counts as full. Else prove '..UptoSaid'. A law counts once. -/
mutual
def uptoBulk {H : Type} : DataW H → Nat
  | .lit (.string bytes) => bytes.length + 1
  | .lit _ => 1
  | .nil => 1
  | .ptr d => uptoBulk d + 1
  | .slice elems spare => uptoBulkAll elems + uptoBulkAll spare + 1
  | .agg parts => uptoBulkAll parts + 1
  | .iface _ d => uptoBulk d + 1
  | .map entries => uptoBulkEntries entries + 1
  | .held _ => 1
def uptoBulkAll {H : Type} : List (DataW H) → Nat
  | [] => 0
  | d :: r => uptoBulk d + uptoBulkAll r
def uptoBulkEntries {H : Type} : List (Lit × DataW H) → Nat
  | [] => 0
  | x :: r => uptoBulkEntry x + uptoBulkEntries r
def uptoBulkEntry {H : Type} : Lit × DataW H → Nat
  | (.string bytes, d) => bytes.length + uptoBulk d + 1
  | (_, d) => uptoBulk d + 1
 end
def uptoSmall : (H : Type) → List (DataW H) → Bool := fun _ ds => decide (uptoBulkAll ds ≤ 1048576)
def OpenSpec.upto (s : _root_.Go.ChangeSpec) : _root_.Go.OpenSpec := { _root_.Go.OpenSpec.ofChange s with cond := some uptoSmall }

/-- 'laws.FnCoupled', WHERE WHAT IT READS IS OF BULK AT MOST 1048576: true; the input reads as it did. -/
def fnCoupledUptoRow : OpenClaim := { program := "ytkdgejmjecldeaagreat", sum := "1ec9024463153607a01b4eaf985cf5b771a5bfc659baa4e6b0ad6096b93bcfa4", func := "loop.example/dominotilings/laws.FnCoupled", spec := "fnCoupled", unfollowed := true, recurses := true, apart := false, narrowed := true }
def FnCoupledUptoSaid : Prop := fnCoupledUptoRow.holds Tryz.pinned (OpenSpec.upto fnCoupledSpec)

/-- 'laws.FnCoupledAt', WHERE WHAT IT READS IS OF BULK AT MOST 1048576: true; the input reads as it did. -/
def fnCoupledAtUptoRow : OpenClaim := { program := "ytkdgejmjecldeaagreat", sum := "1ec9024463153607a01b4eaf985cf5b771a5bfc659baa4e6b0ad6096b93bcfa4", func := "loop.example/dominotilings/laws.FnCoupledAt", spec := "fnCoupledAt", unfollowed := true, recurses := true, apart := false, narrowed := true }
def FnCoupledAtUptoSaid : Prop := fnCoupledAtUptoRow.holds Tryz.pinned (OpenSpec.upto fnCoupledAtSpec)

/-- 'laws.FnExactFromPast', WHERE WHAT IT READS IS OF BULK AT MOST 1048576: true; the input reads as it did. -/
def fnExactFromPastUptoRow : OpenClaim := { program := "ytkdgejmjecldeaagreat", sum := "1ec9024463153607a01b4eaf985cf5b771a5bfc659baa4e6b0ad6096b93bcfa4", func := "loop.example/dominotilings/laws.FnExactFromPast", spec := "fnExactFromPast", unfollowed := true, recurses := true, apart := false, narrowed := true }
def FnExactFromPastUptoSaid : Prop := fnExactFromPastUptoRow.holds Tryz.pinned (OpenSpec.upto fnExactFromPastSpec)

/-- 'laws.FnPushOne', WHERE WHAT IT READS IS OF BULK AT MOST 1048576: true; the input reads as it did. -/
def fnPushOneUptoRow : OpenClaim := { program := "ytkdgejmjecldeaagreat", sum := "1ec9024463153607a01b4eaf985cf5b771a5bfc659baa4e6b0ad6096b93bcfa4", func := "loop.example/dominotilings/laws.FnPushOne", spec := "fnPushOne", unfollowed := true, recurses := true, apart := false, narrowed := true }
def FnPushOneUptoSaid : Prop := fnPushOneUptoRow.holds Tryz.pinned (OpenSpec.upto fnPushOneSpec)

end Rows
end Go.Proofs.YtkdgejmjecldeaaGreat
