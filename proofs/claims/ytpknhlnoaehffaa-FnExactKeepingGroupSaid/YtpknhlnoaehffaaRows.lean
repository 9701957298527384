/-
  No cell of these rows narrows 'for every input' (looked for: loops, veiled, ifaces, maps, wideKeys, modest, calm, conditions, laid).
  DERIVED. THE GIVEN ROWS OF THIS SEAT. 8 by the template 'for every input the law returns true; each argument reads behind the call as it read before'; 0 by the template 'total and deterministic' (their statements: YtpknhlnoaehffaaTotals.lean).
  GIVEN WITH THE SEED: the statements are not yours to turn. If you find one false, say at which input.
  Laid BY PROGRAM, IN A SANDBOX (cutbox-rows.mjs): the forced cells as the released guide's own fill.sh prints them over the translation 58b8c2d7695c1a76… (all of the seat's roots in one cut). By AI agents, Wed Nov 11 2026. No macro, syntax, notation, axiom, sorry.
-/
import Derived.Test.YtpknhlnoaehffaaChecked
import GoSem.Claim
import GoSem.ClaimJoined
import GoSem.ClaimMapViews
import Derived.JoinedTies
import Derived.KernelRfl
namespace Go.Proofs.Ytpknhlnoaehffaa
/- THE CELL 'sum', in the pinned program and in every row, IS THE sha256 OF THE DUMP (.gsa) THAT YtpknhlnoaehffaaProg.lean LOADS. Nothing in Lean hashes anything: it is a label: what it is worth is what the hold of that sum in a sandbox is worth. -/
noncomputable def Try.pinned : Pinned := { name := "ytpknhlnoaehffaa", sum := "58b8c2d7695c1a76b3359c3b48d13f9df6877255680e9eec3e3c0326182d5e3e", checked := Try.checked }
namespace Rows
def none {H : Type} : Left H := { results := [], args := [] }

/-- 'laws.FnExactOtherHand': WHATEVER THE INPUT: true; the input reads as it did. -/
def fnExactOtherHandSpec : ChangeSpec := { name := "fnExactOtherHand", fn := fun _ => fun
  | [d] => { results := [.lit (.bool true)], args := [d] }
  | _ => none }
def fnExactOtherHandRow : OpenClaim := { program := "ytpknhlnoaehffaa", sum := "58b8c2d7695c1a76b3359c3b48d13f9df6877255680e9eec3e3c0326182d5e3e", func := "loop.example/g00943/laws.FnExactOtherHand", spec := "fnExactOtherHand", unfollowed := true, recurses := true, apart := false }
def FnExactOtherHandSaid : Prop := fnExactOtherHandRow.holds Try.pinned (OpenSpec.ofChange fnExactOtherHandSpec)

/-- ITS FALSE NEIGHBOUR: 'it returns false'. Refute it at one input. -/
def fnExactOtherHandWrong : ChangeSpec := { name := "fnExactOtherHand", fn := fun _ => fun
  | [d] => { results := [.lit (.bool false)], args := [d] }
  | _ => none }
def FnExactOtherHandWrongFalsely : Prop := fnExactOtherHandRow.holds Try.pinned (OpenSpec.ofChange fnExactOtherHandWrong)

/-- 'laws.FnExactMovePattern': WHATEVER THE INPUT: true; the input reads as it did. -/
def fnExactMovePatternSpec : ChangeSpec := { name := "fnExactMovePattern", fn := fun _ => fun
  | [d1, d2] => { results := [.lit (.bool true)], args := [d1, d2] }
  | _ => none }
def fnExactMovePatternRow : OpenClaim := { program := "ytpknhlnoaehffaa", sum := "58b8c2d7695c1a76b3359c3b48d13f9df6877255680e9eec3e3c0326182d5e3e", func := "loop.example/g00943/laws.FnExactMovePattern", spec := "fnExactMovePattern", unfollowed := true, recurses := true, apart := false }
def FnExactMovePatternSaid : Prop := fnExactMovePatternRow.holds Try.pinned (OpenSpec.ofChange fnExactMovePatternSpec)

/-- ITS FALSE NEIGHBOUR: 'it returns false'. Refute it at one input. -/
def fnExactMovePatternWrong : ChangeSpec := { name := "fnExactMovePattern", fn := fun _ => fun
  | [d1, d2] => { results := [.lit (.bool false)], args := [d1, d2] }
  | _ => none }
def FnExactMovePatternWrongFalsely : Prop := fnExactMovePatternRow.holds Try.pinned (OpenSpec.ofChange fnExactMovePatternWrong)

/-- 'laws.FnExactCountSymmetries': WHATEVER THE INPUT: true; the input reads as it did. -/
def fnExactCountSymmetriesSpec : ChangeSpec := { name := "fnExactCountSymmetries", fn := fun _ => fun
  | [d] => { results := [.lit (.bool true)], args := [d] }
  | _ => none }
def fnExactCountSymmetriesRow : OpenClaim := { program := "ytpknhlnoaehffaa", sum := "58b8c2d7695c1a76b3359c3b48d13f9df6877255680e9eec3e3c0326182d5e3e", func := "loop.example/g00943/laws.FnExactCountSymmetries", spec := "fnExactCountSymmetries", unfollowed := true, recurses := true, apart := false }
def FnExactCountSymmetriesSaid : Prop := fnExactCountSymmetriesRow.holds Try.pinned (OpenSpec.ofChange fnExactCountSymmetriesSpec)

/-- ITS FALSE NEIGHBOUR: 'it returns false'. Refute it at one input. -/
def fnExactCountSymmetriesWrong : ChangeSpec := { name := "fnExactCountSymmetries", fn := fun _ => fun
  | [d] => { results := [.lit (.bool false)], args := [d] }
  | _ => none }
def FnExactCountSymmetriesWrongFalsely : Prop := fnExactCountSymmetriesRow.holds Try.pinned (OpenSpec.ofChange fnExactCountSymmetriesWrong)

/-- 'laws.FnExactUnitOf': WHATEVER THE INPUT: true; the input reads as it did. -/
def fnExactUnitOfSpec : ChangeSpec := { name := "fnExactUnitOf", fn := fun _ => fun
  | [d] => { results := [.lit (.bool true)], args := [d] }
  | _ => none }
def fnExactUnitOfRow : OpenClaim := { program := "ytpknhlnoaehffaa", sum := "58b8c2d7695c1a76b3359c3b48d13f9df6877255680e9eec3e3c0326182d5e3e", func := "loop.example/g00943/laws.FnExactUnitOf", spec := "fnExactUnitOf", unfollowed := true, recurses := true, apart := false }
def FnExactUnitOfSaid : Prop := fnExactUnitOfRow.holds Try.pinned (OpenSpec.ofChange fnExactUnitOfSpec)

/-- ITS FALSE NEIGHBOUR: 'it returns false'. Refute it at one input. -/
def fnExactUnitOfWrong : ChangeSpec := { name := "fnExactUnitOf", fn := fun _ => fun
  | [d] => { results := [.lit (.bool false)], args := [d] }
  | _ => none }
def FnExactUnitOfWrongFalsely : Prop := fnExactUnitOfRow.holds Try.pinned (OpenSpec.ofChange fnExactUnitOfWrong)

/-- 'laws.FnExactIsSymmetry': WHATEVER THE INPUT: true; the input reads as it did. -/
def fnExactIsSymmetrySpec : ChangeSpec := { name := "fnExactIsSymmetry", fn := fun _ => fun
  | [d1, d2] => { results := [.lit (.bool true)], args := [d1, d2] }
  | _ => none }
def fnExactIsSymmetryRow : OpenClaim := { program := "ytpknhlnoaehffaa", sum := "58b8c2d7695c1a76b3359c3b48d13f9df6877255680e9eec3e3c0326182d5e3e", func := "loop.example/g00943/laws.FnExactIsSymmetry", spec := "fnExactIsSymmetry", unfollowed := true, recurses := true, apart := false }
def FnExactIsSymmetrySaid : Prop := fnExactIsSymmetryRow.holds Try.pinned (OpenSpec.ofChange fnExactIsSymmetrySpec)

/-- ITS FALSE NEIGHBOUR: 'it returns false'. Refute it at one input. -/
def fnExactIsSymmetryWrong : ChangeSpec := { name := "fnExactIsSymmetry", fn := fun _ => fun
  | [d1, d2] => { results := [.lit (.bool false)], args := [d1, d2] }
  | _ => none }
def FnExactIsSymmetryWrongFalsely : Prop := fnExactIsSymmetryRow.holds Try.pinned (OpenSpec.ofChange fnExactIsSymmetryWrong)

/-- 'laws.FnExactKeepingGroup': WHATEVER THE INPUT: true; the input reads as it did. -/
def fnExactKeepingGroupSpec : ChangeSpec := { name := "fnExactKeepingGroup", fn := fun _ => fun
  | [d] => { results := [.lit (.bool true)], args := [d] }
  | _ => none }
def fnExactKeepingGroupRow : OpenClaim := { program := "ytpknhlnoaehffaa", sum := "58b8c2d7695c1a76b3359c3b48d13f9df6877255680e9eec3e3c0326182d5e3e", func := "loop.example/g00943/laws.FnExactKeepingGroup", spec := "fnExactKeepingGroup", unfollowed := true, recurses := true, apart := false }
def FnExactKeepingGroupSaid : Prop := fnExactKeepingGroupRow.holds Try.pinned (OpenSpec.ofChange fnExactKeepingGroupSpec)

/-- ITS FALSE NEIGHBOUR: 'it returns false'. Refute it at one input. -/
def fnExactKeepingGroupWrong : ChangeSpec := { name := "fnExactKeepingGroup", fn := fun _ => fun
  | [d] => { results := [.lit (.bool false)], args := [d] }
  | _ => none }
def FnExactKeepingGroupWrongFalsely : Prop := fnExactKeepingGroupRow.holds Try.pinned (OpenSpec.ofChange fnExactKeepingGroupWrong)

/-- 'laws.FnExactWitnessAgainst': WHATEVER THE INPUT: true; the input reads as it did. -/
def fnExactWitnessAgainstSpec : ChangeSpec := { name := "fnExactWitnessAgainst", fn := fun _ => fun
  | [d1, d2] => { results := [.lit (.bool true)], args := [d1, d2] }
  | _ => none }
def fnExactWitnessAgainstRow : OpenClaim := { program := "ytpknhlnoaehffaa", sum := "58b8c2d7695c1a76b3359c3b48d13f9df6877255680e9eec3e3c0326182d5e3e", func := "loop.example/g00943/laws.FnExactWitnessAgainst", spec := "fnExactWitnessAgainst", unfollowed := true, recurses := true, apart := false }
def FnExactWitnessAgainstSaid : Prop := fnExactWitnessAgainstRow.holds Try.pinned (OpenSpec.ofChange fnExactWitnessAgainstSpec)

/-- ITS FALSE NEIGHBOUR: 'it returns false'. Refute it at one input. -/
def fnExactWitnessAgainstWrong : ChangeSpec := { name := "fnExactWitnessAgainst", fn := fun _ => fun
  | [d1, d2] => { results := [.lit (.bool false)], args := [d1, d2] }
  | _ => none }
def FnExactWitnessAgainstWrongFalsely : Prop := fnExactWitnessAgainstRow.holds Try.pinned (OpenSpec.ofChange fnExactWitnessAgainstWrong)

/-- 'laws.FnExactGroupOfPattern': WHATEVER THE INPUT: true; the input reads as it did. -/
def fnExactGroupOfPatternSpec : ChangeSpec := { name := "fnExactGroupOfPattern", fn := fun _ => fun
  | [d] => { results := [.lit (.bool true)], args := [d] }
  | _ => none }
def fnExactGroupOfPatternRow : OpenClaim := { program := "ytpknhlnoaehffaa", sum := "58b8c2d7695c1a76b3359c3b48d13f9df6877255680e9eec3e3c0326182d5e3e", func := "loop.example/g00943/laws.FnExactGroupOfPattern", spec := "fnExactGroupOfPattern", unfollowed := true, recurses := true, apart := false }
def FnExactGroupOfPatternSaid : Prop := fnExactGroupOfPatternRow.holds Try.pinned (OpenSpec.ofChange fnExactGroupOfPatternSpec)

/-- ITS FALSE NEIGHBOUR: 'it returns false'. Refute it at one input. -/
def fnExactGroupOfPatternWrong : ChangeSpec := { name := "fnExactGroupOfPattern", fn := fun _ => fun
  | [d] => { results := [.lit (.bool false)], args := [d] }
  | _ => none }
def FnExactGroupOfPatternWrongFalsely : Prop := fnExactGroupOfPatternRow.holds Try.pinned (OpenSpec.ofChange fnExactGroupOfPatternWrong)

/- THE SECOND FORM. 'bulk': how many values and letters a reading holds, each counted each time it is reached (what is shared counts as often as it is met; a slice's spare places count too). A statement '..UptoSaid' is the law's where the arguments, and the package variables that the reading takes, are together of bulk at most 1048576: NARROWER than '..Said'. Prove '..Said' where nothing that the law and all that it calls make is longer than what came in: it says more and counts as full. Else prove '..UptoSaid'. A law counts once. -/
mutual
def uptoBulk {H : Type} : DataW H → Nat
  | .lit (.string bytes) => bytes.length + 1
  | .lit _ => 1
  | .nil => 1
  | .ptr d => uptoBulk d + 1
  | .slice elems spare => uptoBulkAll elems + uptoBulkAll spare + 1
  | .agg parts => uptoBulkAll parts + 1
  | .iface _ d => uptoBulk d + 1
  | .map entries => uptoBulkEntries entries + 1
  | .held _ => 1
def uptoBulkAll {H : Type} : List (DataW H) → Nat
  | [] => 0
  | d :: r => uptoBulk d + uptoBulkAll r
def uptoBulkEntries {H : Type} : List (Lit × DataW H) → Nat
  | [] => 0
  | x :: r => uptoBulkEntry x + uptoBulkEntries r
def uptoBulkEntry {H : Type} : Lit × DataW H → Nat
  | (.string bytes, d) => bytes.length + uptoBulk d + 1
  | (_, d) => uptoBulk d + 1
 end
def uptoSmall : (H : Type) → List (DataW H) → Bool := fun _ ds => decide (uptoBulkAll ds ≤ 1048576)
def OpenSpec.upto (s : _root_.Go.ChangeSpec) : _root_.Go.OpenSpec := { _root_.Go.OpenSpec.ofChange s with cond := some uptoSmall }

/-- 'laws.FnExactOtherHand', WHERE WHAT IT READS IS OF BULK AT MOST 1048576: true; the input reads as it did. -/
def fnExactOtherHandUptoRow : OpenClaim := { program := "ytpknhlnoaehffaa", sum := "58b8c2d7695c1a76b3359c3b48d13f9df6877255680e9eec3e3c0326182d5e3e", func := "loop.example/g00943/laws.FnExactOtherHand", spec := "fnExactOtherHand", unfollowed := true, recurses := true, apart := false, narrowed := true }
def FnExactOtherHandUptoSaid : Prop := fnExactOtherHandUptoRow.holds Try.pinned (OpenSpec.upto fnExactOtherHandSpec)

/-- 'laws.FnExactMovePattern', WHERE WHAT IT READS IS OF BULK AT MOST 1048576: true; the input reads as it did. -/
def fnExactMovePatternUptoRow : OpenClaim := { program := "ytpknhlnoaehffaa", sum := "58b8c2d7695c1a76b3359c3b48d13f9df6877255680e9eec3e3c0326182d5e3e", func := "loop.example/g00943/laws.FnExactMovePattern", spec := "fnExactMovePattern", unfollowed := true, recurses := true, apart := false, narrowed := true }
def FnExactMovePatternUptoSaid : Prop := fnExactMovePatternUptoRow.holds Try.pinned (OpenSpec.upto fnExactMovePatternSpec)

/-- 'laws.FnExactCountSymmetries', WHERE WHAT IT READS IS OF BULK AT MOST 1048576: true; the input reads as it did. -/
def fnExactCountSymmetriesUptoRow : OpenClaim := { program := "ytpknhlnoaehffaa", sum := "58b8c2d7695c1a76b3359c3b48d13f9df6877255680e9eec3e3c0326182d5e3e", func := "loop.example/g00943/laws.FnExactCountSymmetries", spec := "fnExactCountSymmetries", unfollowed := true, recurses := true, apart := false, narrowed := true }
def FnExactCountSymmetriesUptoSaid : Prop := fnExactCountSymmetriesUptoRow.holds Try.pinned (OpenSpec.upto fnExactCountSymmetriesSpec)

/-- 'laws.FnExactUnitOf', WHERE WHAT IT READS IS OF BULK AT MOST 1048576: true; the input reads as it did. -/
def fnExactUnitOfUptoRow : OpenClaim := { program := "ytpknhlnoaehffaa", sum := "58b8c2d7695c1a76b3359c3b48d13f9df6877255680e9eec3e3c0326182d5e3e", func := "loop.example/g00943/laws.FnExactUnitOf", spec := "fnExactUnitOf", unfollowed := true, recurses := true, apart := false, narrowed := true }
def FnExactUnitOfUptoSaid : Prop := fnExactUnitOfUptoRow.holds Try.pinned (OpenSpec.upto fnExactUnitOfSpec)

/-- 'laws.FnExactIsSymmetry', WHERE WHAT IT READS IS OF BULK AT MOST 1048576: true; the input reads as it did. -/
def fnExactIsSymmetryUptoRow : OpenClaim := { program := "ytpknhlnoaehffaa", sum := "58b8c2d7695c1a76b3359c3b48d13f9df6877255680e9eec3e3c0326182d5e3e", func := "loop.example/g00943/laws.FnExactIsSymmetry", spec := "fnExactIsSymmetry", unfollowed := true, recurses := true, apart := false, narrowed := true }
def FnExactIsSymmetryUptoSaid : Prop := fnExactIsSymmetryUptoRow.holds Try.pinned (OpenSpec.upto fnExactIsSymmetrySpec)

/-- 'laws.FnExactKeepingGroup', WHERE WHAT IT READS IS OF BULK AT MOST 1048576: true; the input reads as it did. -/
def fnExactKeepingGroupUptoRow : OpenClaim := { program := "ytpknhlnoaehffaa", sum := "58b8c2d7695c1a76b3359c3b48d13f9df6877255680e9eec3e3c0326182d5e3e", func := "loop.example/g00943/laws.FnExactKeepingGroup", spec := "fnExactKeepingGroup", unfollowed := true, recurses := true, apart := false, narrowed := true }
def FnExactKeepingGroupUptoSaid : Prop := fnExactKeepingGroupUptoRow.holds Try.pinned (OpenSpec.upto fnExactKeepingGroupSpec)

/-- 'laws.FnExactWitnessAgainst', WHERE WHAT IT READS IS OF BULK AT MOST 1048576: true; the input reads as it did. -/
def fnExactWitnessAgainstUptoRow : OpenClaim := { program := "ytpknhlnoaehffaa", sum := "58b8c2d7695c1a76b3359c3b48d13f9df6877255680e9eec3e3c0326182d5e3e", func := "loop.example/g00943/laws.FnExactWitnessAgainst", spec := "fnExactWitnessAgainst", unfollowed := true, recurses := true, apart := false, narrowed := true }
def FnExactWitnessAgainstUptoSaid : Prop := fnExactWitnessAgainstUptoRow.holds Try.pinned (OpenSpec.upto fnExactWitnessAgainstSpec)

/-- 'laws.FnExactGroupOfPattern', WHERE WHAT IT READS IS OF BULK AT MOST 1048576: true; the input reads as it did. -/
def fnExactGroupOfPatternUptoRow : OpenClaim := { program := "ytpknhlnoaehffaa", sum := "58b8c2d7695c1a76b3359c3b48d13f9df6877255680e9eec3e3c0326182d5e3e", func := "loop.example/g00943/laws.FnExactGroupOfPattern", spec := "fnExactGroupOfPattern", unfollowed := true, recurses := true, apart := false, narrowed := true }
def FnExactGroupOfPatternUptoSaid : Prop := fnExactGroupOfPatternUptoRow.holds Try.pinned (OpenSpec.upto fnExactGroupOfPatternSpec)

end Rows
end Go.Proofs.Ytpknhlnoaehffaa
