/-
  No cell of these rows narrows 'for every input' (looked for: loops, veiled, ifaces, maps, wideKeys, modest, calm, conditions, laid).
  DERIVED. THE GIVEN ROWS OF THIS SEAT. 8 by the template 'for every input the law returns true; each argument reads behind the call as it read before'; 0 by the template 'total and deterministic' (their statements: YtahlhacmikdimaaGreatTotals.lean).
  GIVEN WITH THE SEED: the statements are not yours to turn. If you find one false, say at which input.
  Laid BY PROGRAM, IN A SANDBOX (cutbox-rows.mjs): the forced cells as the released guide's own fill.sh prints them over the translation 4454a3061681fdde… (all of the seat's roots in one cut). By AI agents, Wed Nov 11 2026. No macro, syntax, notation, axiom, sorry.
-/
import Derived.Test.YtahlhacmikdimaaGreatChecked
import GoSem.Claim
import GoSem.ClaimJoined
import GoSem.ClaimMapViews
import Derived.JoinedTies
import Derived.KernelRfl
namespace Go.Proofs.YtahlhacmikdimaaGreat
/- THE CELL 'sum', in the pinned program and in every row, IS THE sha256 OF THE DUMP (.gsa) THAT YtahlhacmikdimaaGreatProg.lean LOADS. Nothing in Lean hashes anything: it is a label: what it is worth is what the hold of that sum in a sandbox is worth. -/
noncomputable def Tryz.pinned : Pinned := { name := "ytahlhacmikdimaagreat", sum := "4454a3061681fdde20a01ecf5cc49a75fdc204e2539b0d4c9d7ced576da5aef1", checked := Tryz.checked }
namespace Rows
def none {H : Type} : Left H := { results := [], args := [] }

/-- 'laws.FnPatterns': WHATEVER THE INPUT: true; the input reads as it did. -/
def fnPatternsSpec : ChangeSpec := { name := "fnPatterns", fn := fun _ => fun
  | [d] => { results := [.lit (.bool true)], args := [d] }
  | _ => none }
def fnPatternsRow : OpenClaim := { program := "ytahlhacmikdimaagreat", sum := "4454a3061681fdde20a01ecf5cc49a75fdc204e2539b0d4c9d7ced576da5aef1", func := "loop.example/g00943/laws.FnPatterns", spec := "fnPatterns", unfollowed := true, recurses := true, plainKeys := false, apart := false }
def FnPatternsSaid : Prop := fnPatternsRow.holds Tryz.pinned (OpenSpec.ofChange fnPatternsSpec)

/-- ITS FALSE NEIGHBOUR: 'it returns false'. Refute it at one input. -/
def fnPatternsWrong : ChangeSpec := { name := "fnPatterns", fn := fun _ => fun
  | [d] => { results := [.lit (.bool false)], args := [d] }
  | _ => none }
def FnPatternsWrongFalsely : Prop := fnPatternsRow.holds Tryz.pinned (OpenSpec.ofChange fnPatternsWrong)

/-- 'laws.FnMoved': WHATEVER THE INPUT: true; the input reads as it did. -/
def fnMovedSpec : ChangeSpec := { name := "fnMoved", fn := fun _ => fun
  | [d] => { results := [.lit (.bool true)], args := [d] }
  | _ => none }
def fnMovedRow : OpenClaim := { program := "ytahlhacmikdimaagreat", sum := "4454a3061681fdde20a01ecf5cc49a75fdc204e2539b0d4c9d7ced576da5aef1", func := "loop.example/g00943/laws.FnMoved", spec := "fnMoved", unfollowed := true, recurses := true, plainKeys := false, apart := false }
def FnMovedSaid : Prop := fnMovedRow.holds Tryz.pinned (OpenSpec.ofChange fnMovedSpec)

/-- ITS FALSE NEIGHBOUR: 'it returns false'. Refute it at one input. -/
def fnMovedWrong : ChangeSpec := { name := "fnMoved", fn := fun _ => fun
  | [d] => { results := [.lit (.bool false)], args := [d] }
  | _ => none }
def FnMovedWrongFalsely : Prop := fnMovedRow.holds Tryz.pinned (OpenSpec.ofChange fnMovedWrong)

/-- 'laws.FnBetween': WHATEVER THE INPUT: true; the input reads as it did. -/
def fnBetweenSpec : ChangeSpec := { name := "fnBetween", fn := fun _ => fun
  | [d] => { results := [.lit (.bool true)], args := [d] }
  | _ => none }
def fnBetweenRow : OpenClaim := { program := "ytahlhacmikdimaagreat", sum := "4454a3061681fdde20a01ecf5cc49a75fdc204e2539b0d4c9d7ced576da5aef1", func := "loop.example/g00943/laws.FnBetween", spec := "fnBetween", unfollowed := true, recurses := true, plainKeys := false, apart := false }
def FnBetweenSaid : Prop := fnBetweenRow.holds Tryz.pinned (OpenSpec.ofChange fnBetweenSpec)

/-- ITS FALSE NEIGHBOUR: 'it returns false'. Refute it at one input. -/
def fnBetweenWrong : ChangeSpec := { name := "fnBetween", fn := fun _ => fun
  | [d] => { results := [.lit (.bool false)], args := [d] }
  | _ => none }
def FnBetweenWrongFalsely : Prop := fnBetweenRow.holds Tryz.pinned (OpenSpec.ofChange fnBetweenWrong)

/-- 'laws.FnSettled': WHATEVER THE INPUT: true; the input reads as it did. -/
def fnSettledSpec : ChangeSpec := { name := "fnSettled", fn := fun _ => fun
  | [d] => { results := [.lit (.bool true)], args := [d] }
  | _ => none }
def fnSettledRow : OpenClaim := { program := "ytahlhacmikdimaagreat", sum := "4454a3061681fdde20a01ecf5cc49a75fdc204e2539b0d4c9d7ced576da5aef1", func := "loop.example/g00943/laws.FnSettled", spec := "fnSettled", unfollowed := true, recurses := true, plainKeys := false, apart := false }
def FnSettledSaid : Prop := fnSettledRow.holds Tryz.pinned (OpenSpec.ofChange fnSettledSpec)

/-- ITS FALSE NEIGHBOUR: 'it returns false'. Refute it at one input. -/
def fnSettledWrong : ChangeSpec := { name := "fnSettled", fn := fun _ => fun
  | [d] => { results := [.lit (.bool false)], args := [d] }
  | _ => none }
def FnSettledWrongFalsely : Prop := fnSettledRow.holds Tryz.pinned (OpenSpec.ofChange fnSettledWrong)

/-- 'laws.FnFirstCome': WHATEVER THE INPUT: true; the input reads as it did. -/
def fnFirstComeSpec : ChangeSpec := { name := "fnFirstCome", fn := fun _ => fun
  | [d] => { results := [.lit (.bool true)], args := [d] }
  | _ => none }
def fnFirstComeRow : OpenClaim := { program := "ytahlhacmikdimaagreat", sum := "4454a3061681fdde20a01ecf5cc49a75fdc204e2539b0d4c9d7ced576da5aef1", func := "loop.example/g00943/laws.FnFirstCome", spec := "fnFirstCome", unfollowed := true, recurses := true, plainKeys := false, apart := false }
def FnFirstComeSaid : Prop := fnFirstComeRow.holds Tryz.pinned (OpenSpec.ofChange fnFirstComeSpec)

/-- ITS FALSE NEIGHBOUR: 'it returns false'. Refute it at one input. -/
def fnFirstComeWrong : ChangeSpec := { name := "fnFirstCome", fn := fun _ => fun
  | [d] => { results := [.lit (.bool false)], args := [d] }
  | _ => none }
def FnFirstComeWrongFalsely : Prop := fnFirstComeRow.holds Tryz.pinned (OpenSpec.ofChange fnFirstComeWrong)

/-- 'laws.FnWitnesses': WHATEVER THE INPUT: true; the input reads as it did. -/
def fnWitnessesSpec : ChangeSpec := { name := "fnWitnesses", fn := fun _ => fun
  | [d] => { results := [.lit (.bool true)], args := [d] }
  | _ => none }
def fnWitnessesRow : OpenClaim := { program := "ytahlhacmikdimaagreat", sum := "4454a3061681fdde20a01ecf5cc49a75fdc204e2539b0d4c9d7ced576da5aef1", func := "loop.example/g00943/laws.FnWitnesses", spec := "fnWitnesses", unfollowed := true, recurses := true, plainKeys := false, apart := false }
def FnWitnessesSaid : Prop := fnWitnessesRow.holds Tryz.pinned (OpenSpec.ofChange fnWitnessesSpec)

/-- ITS FALSE NEIGHBOUR: 'it returns false'. Refute it at one input. -/
def fnWitnessesWrong : ChangeSpec := { name := "fnWitnesses", fn := fun _ => fun
  | [d] => { results := [.lit (.bool false)], args := [d] }
  | _ => none }
def FnWitnessesWrongFalsely : Prop := fnWitnessesRow.holds Tryz.pinned (OpenSpec.ofChange fnWitnessesWrong)

/-- 'laws.FnColourGroups': WHATEVER THE INPUT: true; the input reads as it did. -/
def fnColourGroupsSpec : ChangeSpec := { name := "fnColourGroups", fn := fun _ => fun
  | [d] => { results := [.lit (.bool true)], args := [d] }
  | _ => none }
def fnColourGroupsRow : OpenClaim := { program := "ytahlhacmikdimaagreat", sum := "4454a3061681fdde20a01ecf5cc49a75fdc204e2539b0d4c9d7ced576da5aef1", func := "loop.example/g00943/laws.FnColourGroups", spec := "fnColourGroups", unfollowed := true, recurses := true, plainKeys := false, apart := false }
def FnColourGroupsSaid : Prop := fnColourGroupsRow.holds Tryz.pinned (OpenSpec.ofChange fnColourGroupsSpec)

/-- ITS FALSE NEIGHBOUR: 'it returns false'. Refute it at one input. -/
def fnColourGroupsWrong : ChangeSpec := { name := "fnColourGroups", fn := fun _ => fun
  | [d] => { results := [.lit (.bool false)], args := [d] }
  | _ => none }
def FnColourGroupsWrongFalsely : Prop := fnColourGroupsRow.holds Tryz.pinned (OpenSpec.ofChange fnColourGroupsWrong)

/-- 'laws.FnCanonical': WHATEVER THE INPUT: true; the input reads as it did. -/
def fnCanonicalSpec : ChangeSpec := { name := "fnCanonical", fn := fun _ => fun
  | [d] => { results := [.lit (.bool true)], args := [d] }
  | _ => none }
def fnCanonicalRow : OpenClaim := { program := "ytahlhacmikdimaagreat", sum := "4454a3061681fdde20a01ecf5cc49a75fdc204e2539b0d4c9d7ced576da5aef1", func := "loop.example/g00943/laws.FnCanonical", spec := "fnCanonical", unfollowed := true, recurses := true, plainKeys := false, apart := false }
def FnCanonicalSaid : Prop := fnCanonicalRow.holds Tryz.pinned (OpenSpec.ofChange fnCanonicalSpec)

/-- ITS FALSE NEIGHBOUR: 'it returns false'. Refute it at one input. -/
def fnCanonicalWrong : ChangeSpec := { name := "fnCanonical", fn := fun _ => fun
  | [d] => { results := [.lit (.bool false)], args := [d] }
  | _ => none }
def FnCanonicalWrongFalsely : Prop := fnCanonicalRow.holds Tryz.pinned (OpenSpec.ofChange fnCanonicalWrong)

/- THE SECOND FORM. 'bulk': how many values and letters a reading holds, each counted each time it is reached (what is shared counts as often as it is met; a slice's spare places count too). A statement '..UptoSaid' is the law's where the arguments, and the package variables that the reading takes, are together of bulk at most 1048576: NARROWER than '..Said'. Prove '..Said' where nothing that the law and all that it calls make is longer than what came in: it says more and counts as full. Else prove '..UptoSaid'. A law counts once. -/
mutual
def uptoBulk {H : Type} : DataW H → Nat
  | .lit (.string bytes) => bytes.length + 1
  | .lit _ => 1
  | .nil => 1
  | .ptr d => uptoBulk d + 1
  | .slice elems spare => uptoBulkAll elems + uptoBulkAll spare + 1
  | .agg parts => uptoBulkAll parts + 1
  | .iface _ d => uptoBulk d + 1
  | .map entries => uptoBulkEntries entries + 1
  | .held _ => 1
def uptoBulkAll {H : Type} : List (DataW H) → Nat
  | [] => 0
  | d :: r => uptoBulk d + uptoBulkAll r
def uptoBulkEntries {H : Type} : List (Lit × DataW H) → Nat
  | [] => 0
  | x :: r => uptoBulkEntry x + uptoBulkEntries r
def uptoBulkEntry {H : Type} : Lit × DataW H → Nat
  | (.string bytes, d) => bytes.length + uptoBulk d + 1
  | (_, d) => uptoBulk d + 1
 end
def uptoSmall : (H : Type) → List (DataW H) → Bool := fun _ ds => decide (uptoBulkAll ds ≤ 1048576)
def OpenSpec.upto (s : _root_.Go.ChangeSpec) : _root_.Go.OpenSpec := { _root_.Go.OpenSpec.ofChange s with cond := some uptoSmall }

/-- 'laws.FnPatterns', WHERE WHAT IT READS IS OF BULK AT MOST 1048576: true; the input reads as it did. -/
def fnPatternsUptoRow : OpenClaim := { program := "ytahlhacmikdimaagreat", sum := "4454a3061681fdde20a01ecf5cc49a75fdc204e2539b0d4c9d7ced576da5aef1", func := "loop.example/g00943/laws.FnPatterns", spec := "fnPatterns", unfollowed := true, recurses := true, plainKeys := false, apart := false, narrowed := true }
def FnPatternsUptoSaid : Prop := fnPatternsUptoRow.holds Tryz.pinned (OpenSpec.upto fnPatternsSpec)

/-- 'laws.FnMoved', WHERE WHAT IT READS IS OF BULK AT MOST 1048576: true; the input reads as it did. -/
def fnMovedUptoRow : OpenClaim := { program := "ytahlhacmikdimaagreat", sum := "4454a3061681fdde20a01ecf5cc49a75fdc204e2539b0d4c9d7ced576da5aef1", func := "loop.example/g00943/laws.FnMoved", spec := "fnMoved", unfollowed := true, recurses := true, plainKeys := false, apart := false, narrowed := true }
def FnMovedUptoSaid : Prop := fnMovedUptoRow.holds Tryz.pinned (OpenSpec.upto fnMovedSpec)

/-- 'laws.FnBetween', WHERE WHAT IT READS IS OF BULK AT MOST 1048576: true; the input reads as it did. -/
def fnBetweenUptoRow : OpenClaim := { program := "ytahlhacmikdimaagreat", sum := "4454a3061681fdde20a01ecf5cc49a75fdc204e2539b0d4c9d7ced576da5aef1", func := "loop.example/g00943/laws.FnBetween", spec := "fnBetween", unfollowed := true, recurses := true, plainKeys := false, apart := false, narrowed := true }
def FnBetweenUptoSaid : Prop := fnBetweenUptoRow.holds Tryz.pinned (OpenSpec.upto fnBetweenSpec)

/-- 'laws.FnSettled', WHERE WHAT IT READS IS OF BULK AT MOST 1048576: true; the input reads as it did. -/
def fnSettledUptoRow : OpenClaim := { program := "ytahlhacmikdimaagreat", sum := "4454a3061681fdde20a01ecf5cc49a75fdc204e2539b0d4c9d7ced576da5aef1", func := "loop.example/g00943/laws.FnSettled", spec := "fnSettled", unfollowed := true, recurses := true, plainKeys := false, apart := false, narrowed := true }
def FnSettledUptoSaid : Prop := fnSettledUptoRow.holds Tryz.pinned (OpenSpec.upto fnSettledSpec)

/-- 'laws.FnFirstCome', WHERE WHAT IT READS IS OF BULK AT MOST 1048576: true; the input reads as it did. -/
def fnFirstComeUptoRow : OpenClaim := { program := "ytahlhacmikdimaagreat", sum := "4454a3061681fdde20a01ecf5cc49a75fdc204e2539b0d4c9d7ced576da5aef1", func := "loop.example/g00943/laws.FnFirstCome", spec := "fnFirstCome", unfollowed := true, recurses := true, plainKeys := false, apart := false, narrowed := true }
def FnFirstComeUptoSaid : Prop := fnFirstComeUptoRow.holds Tryz.pinned (OpenSpec.upto fnFirstComeSpec)

/-- 'laws.FnWitnesses', WHERE WHAT IT READS IS OF BULK AT MOST 1048576: true; the input reads as it did. -/
def fnWitnessesUptoRow : OpenClaim := { program := "ytahlhacmikdimaagreat", sum := "4454a3061681fdde20a01ecf5cc49a75fdc204e2539b0d4c9d7ced576da5aef1", func := "loop.example/g00943/laws.FnWitnesses", spec := "fnWitnesses", unfollowed := true, recurses := true, plainKeys := false, apart := false, narrowed := true }
def FnWitnessesUptoSaid : Prop := fnWitnessesUptoRow.holds Tryz.pinned (OpenSpec.upto fnWitnessesSpec)

/-- 'laws.FnColourGroups', WHERE WHAT IT READS IS OF BULK AT MOST 1048576: true; the input reads as it did. -/
def fnColourGroupsUptoRow : OpenClaim := { program := "ytahlhacmikdimaagreat", sum := "4454a3061681fdde20a01ecf5cc49a75fdc204e2539b0d4c9d7ced576da5aef1", func := "loop.example/g00943/laws.FnColourGroups", spec := "fnColourGroups", unfollowed := true, recurses := true, plainKeys := false, apart := false, narrowed := true }
def FnColourGroupsUptoSaid : Prop := fnColourGroupsUptoRow.holds Tryz.pinned (OpenSpec.upto fnColourGroupsSpec)

/-- 'laws.FnCanonical', WHERE WHAT IT READS IS OF BULK AT MOST 1048576: true; the input reads as it did. -/
def fnCanonicalUptoRow : OpenClaim := { program := "ytahlhacmikdimaagreat", sum := "4454a3061681fdde20a01ecf5cc49a75fdc204e2539b0d4c9d7ced576da5aef1", func := "loop.example/g00943/laws.FnCanonical", spec := "fnCanonical", unfollowed := true, recurses := true, plainKeys := false, apart := false, narrowed := true }
def FnCanonicalUptoSaid : Prop := fnCanonicalUptoRow.holds Tryz.pinned (OpenSpec.upto fnCanonicalSpec)

end Rows
end Go.Proofs.YtahlhacmikdimaaGreat
