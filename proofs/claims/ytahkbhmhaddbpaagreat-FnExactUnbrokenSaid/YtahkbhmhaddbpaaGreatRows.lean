/-
  No cell of these rows narrows 'for every input' (looked for: loops, veiled, ifaces, maps, wideKeys, modest, calm, conditions, laid).
  DERIVED. THE GIVEN ROWS OF THIS SEAT. 7 by the template 'for every input the law returns true; each argument reads behind the call as it read before'; 0 by the template 'total and deterministic' (their statements: YtahkbhmhaddbpaaGreatTotals.lean).
  GIVEN WITH THE SEED: the statements are not yours to turn. If you find one false, say at which input.
  Laid BY PROGRAM, IN A SANDBOX (cutbox-rows.mjs): the forced cells as the released guide's own fill.sh prints them over the translation 2794d01f323640ff… (all of the seat's roots in one cut). By AI agents, Wed Nov 11 2026. No macro, syntax, notation, axiom, sorry.
-/
import Derived.Test.YtahkbhmhaddbpaaGreatChecked
import GoSem.Claim
import GoSem.ClaimJoined
import GoSem.ClaimMapViews
import Derived.JoinedTies
import Derived.KernelRfl
namespace Go.Proofs.YtahkbhmhaddbpaaGreat
/- THE CELL 'sum', in the pinned program and in every row, IS THE sha256 OF THE DUMP (.gsa) THAT YtahkbhmhaddbpaaGreatProg.lean LOADS. Nothing in Lean hashes anything: it is a label: what it is worth is what the hold of that sum in a sandbox is worth. -/
noncomputable def Tryz.pinned : Pinned := { name := "ytahkbhmhaddbpaagreat", sum := "2794d01f323640ff68c27fca441c74ba2201b70b6ab001ce1458d684c95dd899", checked := Tryz.checked }
namespace Rows
def none {H : Type} : Left H := { results := [], args := [] }

/-- 'laws.FnExactIsKept': WHATEVER THE INPUT: true; the input reads as it did. -/
def fnExactIsKeptSpec : ChangeSpec := { name := "fnExactIsKept", fn := fun _ => fun
  | [d1, d2] => { results := [.lit (.bool true)], args := [d1, d2] }
  | _ => none }
def fnExactIsKeptRow : OpenClaim := { program := "ytahkbhmhaddbpaagreat", sum := "2794d01f323640ff68c27fca441c74ba2201b70b6ab001ce1458d684c95dd899", func := "loop.example/g00943/laws.FnExactIsKept", spec := "fnExactIsKept", unfollowed := true, recurses := true, plainKeys := false, apart := false }
def FnExactIsKeptSaid : Prop := fnExactIsKeptRow.holds Tryz.pinned (OpenSpec.ofChange fnExactIsKeptSpec)

/-- ITS FALSE NEIGHBOUR: 'it returns false'. Refute it at one input. -/
def fnExactIsKeptWrong : ChangeSpec := { name := "fnExactIsKept", fn := fun _ => fun
  | [d1, d2] => { results := [.lit (.bool false)], args := [d1, d2] }
  | _ => none }
def FnExactIsKeptWrongFalsely : Prop := fnExactIsKeptRow.holds Tryz.pinned (OpenSpec.ofChange fnExactIsKeptWrong)

/-- 'laws.FnExactUnbroken': WHATEVER THE INPUT: true; the input reads as it did. -/
def fnExactUnbrokenSpec : ChangeSpec := { name := "fnExactUnbroken", fn := fun _ => fun
  | [d1, d2] => { results := [.lit (.bool true)], args := [d1, d2] }
  | _ => none }
def fnExactUnbrokenRow : OpenClaim := { program := "ytahkbhmhaddbpaagreat", sum := "2794d01f323640ff68c27fca441c74ba2201b70b6ab001ce1458d684c95dd899", func := "loop.example/g00943/laws.FnExactUnbroken", spec := "fnExactUnbroken", unfollowed := true, recurses := true, plainKeys := false, apart := false }
def FnExactUnbrokenSaid : Prop := fnExactUnbrokenRow.holds Tryz.pinned (OpenSpec.ofChange fnExactUnbrokenSpec)

/-- ITS FALSE NEIGHBOUR: 'it returns false'. Refute it at one input. -/
def fnExactUnbrokenWrong : ChangeSpec := { name := "fnExactUnbroken", fn := fun _ => fun
  | [d1, d2] => { results := [.lit (.bool false)], args := [d1, d2] }
  | _ => none }
def FnExactUnbrokenWrongFalsely : Prop := fnExactUnbrokenRow.holds Tryz.pinned (OpenSpec.ofChange fnExactUnbrokenWrong)

/-- 'laws.FnExactCountImages': WHATEVER THE INPUT: true; the input reads as it did. -/
def fnExactCountImagesSpec : ChangeSpec := { name := "fnExactCountImages", fn := fun _ => fun
  | [d] => { results := [.lit (.bool true)], args := [d] }
  | _ => none }
def fnExactCountImagesRow : OpenClaim := { program := "ytahkbhmhaddbpaagreat", sum := "2794d01f323640ff68c27fca441c74ba2201b70b6ab001ce1458d684c95dd899", func := "loop.example/g00943/laws.FnExactCountImages", spec := "fnExactCountImages", unfollowed := true, recurses := true, plainKeys := false, apart := false }
def FnExactCountImagesSaid : Prop := fnExactCountImagesRow.holds Tryz.pinned (OpenSpec.ofChange fnExactCountImagesSpec)

/-- ITS FALSE NEIGHBOUR: 'it returns false'. Refute it at one input. -/
def fnExactCountImagesWrong : ChangeSpec := { name := "fnExactCountImages", fn := fun _ => fun
  | [d] => { results := [.lit (.bool false)], args := [d] }
  | _ => none }
def FnExactCountImagesWrongFalsely : Prop := fnExactCountImagesRow.holds Tryz.pinned (OpenSpec.ofChange fnExactCountImagesWrong)

/-- 'laws.FnExactListUpTo': WHATEVER THE INPUT: true; the input reads as it did. -/
def fnExactListUpToSpec : ChangeSpec := { name := "fnExactListUpTo", fn := fun _ => fun
  | [d1, d2, d3, d4] => { results := [.lit (.bool true)], args := [d1, d2, d3, d4] }
  | _ => none }
def fnExactListUpToRow : OpenClaim := { program := "ytahkbhmhaddbpaagreat", sum := "2794d01f323640ff68c27fca441c74ba2201b70b6ab001ce1458d684c95dd899", func := "loop.example/g00943/laws.FnExactListUpTo", spec := "fnExactListUpTo", unfollowed := true, recurses := true, plainKeys := false, apart := false }
def FnExactListUpToSaid : Prop := fnExactListUpToRow.holds Tryz.pinned (OpenSpec.ofChange fnExactListUpToSpec)

/-- ITS FALSE NEIGHBOUR: 'it returns false'. Refute it at one input. -/
def fnExactListUpToWrong : ChangeSpec := { name := "fnExactListUpTo", fn := fun _ => fun
  | [d1, d2, d3, d4] => { results := [.lit (.bool false)], args := [d1, d2, d3, d4] }
  | _ => none }
def FnExactListUpToWrongFalsely : Prop := fnExactListUpToRow.holds Tryz.pinned (OpenSpec.ofChange fnExactListUpToWrong)

/-- 'laws.FnBetween': WHATEVER THE INPUT: true; the input reads as it did. -/
def fnBetweenSpec : ChangeSpec := { name := "fnBetween", fn := fun _ => fun
  | [d] => { results := [.lit (.bool true)], args := [d] }
  | _ => none }
def fnBetweenRow : OpenClaim := { program := "ytahkbhmhaddbpaagreat", sum := "2794d01f323640ff68c27fca441c74ba2201b70b6ab001ce1458d684c95dd899", func := "loop.example/g00943/laws.FnBetween", spec := "fnBetween", unfollowed := true, recurses := true, plainKeys := false, apart := false }
def FnBetweenSaid : Prop := fnBetweenRow.holds Tryz.pinned (OpenSpec.ofChange fnBetweenSpec)

/-- ITS FALSE NEIGHBOUR: 'it returns false'. Refute it at one input. -/
def fnBetweenWrong : ChangeSpec := { name := "fnBetween", fn := fun _ => fun
  | [d] => { results := [.lit (.bool false)], args := [d] }
  | _ => none }
def FnBetweenWrongFalsely : Prop := fnBetweenRow.holds Tryz.pinned (OpenSpec.ofChange fnBetweenWrong)

/-- 'laws.FnMoved': WHATEVER THE INPUT: true; the input reads as it did. -/
def fnMovedSpec : ChangeSpec := { name := "fnMoved", fn := fun _ => fun
  | [d] => { results := [.lit (.bool true)], args := [d] }
  | _ => none }
def fnMovedRow : OpenClaim := { program := "ytahkbhmhaddbpaagreat", sum := "2794d01f323640ff68c27fca441c74ba2201b70b6ab001ce1458d684c95dd899", func := "loop.example/g00943/laws.FnMoved", spec := "fnMoved", unfollowed := true, recurses := true, plainKeys := false, apart := false }
def FnMovedSaid : Prop := fnMovedRow.holds Tryz.pinned (OpenSpec.ofChange fnMovedSpec)

/-- ITS FALSE NEIGHBOUR: 'it returns false'. Refute it at one input. -/
def fnMovedWrong : ChangeSpec := { name := "fnMoved", fn := fun _ => fun
  | [d] => { results := [.lit (.bool false)], args := [d] }
  | _ => none }
def FnMovedWrongFalsely : Prop := fnMovedRow.holds Tryz.pinned (OpenSpec.ofChange fnMovedWrong)

/-- 'laws.FnSettled': WHATEVER THE INPUT: true; the input reads as it did. -/
def fnSettledSpec : ChangeSpec := { name := "fnSettled", fn := fun _ => fun
  | [d] => { results := [.lit (.bool true)], args := [d] }
  | _ => none }
def fnSettledRow : OpenClaim := { program := "ytahkbhmhaddbpaagreat", sum := "2794d01f323640ff68c27fca441c74ba2201b70b6ab001ce1458d684c95dd899", func := "loop.example/g00943/laws.FnSettled", spec := "fnSettled", unfollowed := true, recurses := true, plainKeys := false, apart := false }
def FnSettledSaid : Prop := fnSettledRow.holds Tryz.pinned (OpenSpec.ofChange fnSettledSpec)

/-- ITS FALSE NEIGHBOUR: 'it returns false'. Refute it at one input. -/
def fnSettledWrong : ChangeSpec := { name := "fnSettled", fn := fun _ => fun
  | [d] => { results := [.lit (.bool false)], args := [d] }
  | _ => none }
def FnSettledWrongFalsely : Prop := fnSettledRow.holds Tryz.pinned (OpenSpec.ofChange fnSettledWrong)

/- THE SECOND FORM. 'bulk': how many values and letters a reading holds, each counted each time it is reached (what is shared counts as often as it is met; a slice's spare places count too). A statement '..UptoSaid' is the law's where the arguments, and the package variables that the reading takes, are together of bulk at most 1048576: NARROWER than '..Said'. Prove '..Said' where nothing that the law and all that it calls make is longer than what came in: it says more and counts as full. Else prove '..UptoSaid'. A law counts once. -/
mutual
def uptoBulk {H : Type} : DataW H → Nat
  | .lit (.string bytes) => bytes.length + 1
  | .lit _ => 1
  | .nil => 1
  | .ptr d => uptoBulk d + 1
  | .slice elems spare => uptoBulkAll elems + uptoBulkAll spare + 1
  | .agg parts => uptoBulkAll parts + 1
  | .iface _ d => uptoBulk d + 1
  | .map entries => uptoBulkEntries entries + 1
  | .held _ => 1
def uptoBulkAll {H : Type} : List (DataW H) → Nat
  | [] => 0
  | d :: r => uptoBulk d + uptoBulkAll r
def uptoBulkEntries {H : Type} : List (Lit × DataW H) → Nat
  | [] => 0
  | x :: r => uptoBulkEntry x + uptoBulkEntries r
def uptoBulkEntry {H : Type} : Lit × DataW H → Nat
  | (.string bytes, d) => bytes.length + uptoBulk d + 1
  | (_, d) => uptoBulk d + 1
 end
def uptoSmall : (H : Type) → List (DataW H) → Bool := fun _ ds => decide (uptoBulkAll ds ≤ 1048576)
def OpenSpec.upto (s : _root_.Go.ChangeSpec) : _root_.Go.OpenSpec := { _root_.Go.OpenSpec.ofChange s with cond := some uptoSmall }

/-- 'laws.FnExactIsKept', WHERE WHAT IT READS IS OF BULK AT MOST 1048576: true; the input reads as it did. -/
def fnExactIsKeptUptoRow : OpenClaim := { program := "ytahkbhmhaddbpaagreat", sum := "2794d01f323640ff68c27fca441c74ba2201b70b6ab001ce1458d684c95dd899", func := "loop.example/g00943/laws.FnExactIsKept", spec := "fnExactIsKept", unfollowed := true, recurses := true, plainKeys := false, apart := false, narrowed := true }
def FnExactIsKeptUptoSaid : Prop := fnExactIsKeptUptoRow.holds Tryz.pinned (OpenSpec.upto fnExactIsKeptSpec)

/-- 'laws.FnExactUnbroken', WHERE WHAT IT READS IS OF BULK AT MOST 1048576: true; the input reads as it did. -/
def fnExactUnbrokenUptoRow : OpenClaim := { program := "ytahkbhmhaddbpaagreat", sum := "2794d01f323640ff68c27fca441c74ba2201b70b6ab001ce1458d684c95dd899", func := "loop.example/g00943/laws.FnExactUnbroken", spec := "fnExactUnbroken", unfollowed := true, recurses := true, plainKeys := false, apart := false, narrowed := true }
def FnExactUnbrokenUptoSaid : Prop := fnExactUnbrokenUptoRow.holds Tryz.pinned (OpenSpec.upto fnExactUnbrokenSpec)

/-- 'laws.FnExactCountImages', WHERE WHAT IT READS IS OF BULK AT MOST 1048576: true; the input reads as it did. -/
def fnExactCountImagesUptoRow : OpenClaim := { program := "ytahkbhmhaddbpaagreat", sum := "2794d01f323640ff68c27fca441c74ba2201b70b6ab001ce1458d684c95dd899", func := "loop.example/g00943/laws.FnExactCountImages", spec := "fnExactCountImages", unfollowed := true, recurses := true, plainKeys := false, apart := false, narrowed := true }
def FnExactCountImagesUptoSaid : Prop := fnExactCountImagesUptoRow.holds Tryz.pinned (OpenSpec.upto fnExactCountImagesSpec)

/-- 'laws.FnExactListUpTo', WHERE WHAT IT READS IS OF BULK AT MOST 1048576: true; the input reads as it did. -/
def fnExactListUpToUptoRow : OpenClaim := { program := "ytahkbhmhaddbpaagreat", sum := "2794d01f323640ff68c27fca441c74ba2201b70b6ab001ce1458d684c95dd899", func := "loop.example/g00943/laws.FnExactListUpTo", spec := "fnExactListUpTo", unfollowed := true, recurses := true, plainKeys := false, apart := false, narrowed := true }
def FnExactListUpToUptoSaid : Prop := fnExactListUpToUptoRow.holds Tryz.pinned (OpenSpec.upto fnExactListUpToSpec)

/-- 'laws.FnBetween', WHERE WHAT IT READS IS OF BULK AT MOST 1048576: true; the input reads as it did. -/
def fnBetweenUptoRow : OpenClaim := { program := "ytahkbhmhaddbpaagreat", sum := "2794d01f323640ff68c27fca441c74ba2201b70b6ab001ce1458d684c95dd899", func := "loop.example/g00943/laws.FnBetween", spec := "fnBetween", unfollowed := true, recurses := true, plainKeys := false, apart := false, narrowed := true }
def FnBetweenUptoSaid : Prop := fnBetweenUptoRow.holds Tryz.pinned (OpenSpec.upto fnBetweenSpec)

/-- 'laws.FnMoved', WHERE WHAT IT READS IS OF BULK AT MOST 1048576: true; the input reads as it did. -/
def fnMovedUptoRow : OpenClaim := { program := "ytahkbhmhaddbpaagreat", sum := "2794d01f323640ff68c27fca441c74ba2201b70b6ab001ce1458d684c95dd899", func := "loop.example/g00943/laws.FnMoved", spec := "fnMoved", unfollowed := true, recurses := true, plainKeys := false, apart := false, narrowed := true }
def FnMovedUptoSaid : Prop := fnMovedUptoRow.holds Tryz.pinned (OpenSpec.upto fnMovedSpec)

/-- 'laws.FnSettled', WHERE WHAT IT READS IS OF BULK AT MOST 1048576: true; the input reads as it did. -/
def fnSettledUptoRow : OpenClaim := { program := "ytahkbhmhaddbpaagreat", sum := "2794d01f323640ff68c27fca441c74ba2201b70b6ab001ce1458d684c95dd899", func := "loop.example/g00943/laws.FnSettled", spec := "fnSettled", unfollowed := true, recurses := true, plainKeys := false, apart := false, narrowed := true }
def FnSettledUptoSaid : Prop := fnSettledUptoRow.holds Tryz.pinned (OpenSpec.upto fnSettledSpec)

end Rows
end Go.Proofs.YtahkbhmhaddbpaaGreat
