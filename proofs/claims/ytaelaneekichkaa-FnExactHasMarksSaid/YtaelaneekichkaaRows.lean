/-
  No cell of these rows narrows 'for every input' (looked for: loops, veiled, ifaces, maps, wideKeys, modest, calm, conditions, laid).
  DERIVED. THE GIVEN ROWS OF THIS SEAT. 12 by the template 'for every input the law returns true; each argument reads behind the call as it read before'; 0 by the template 'total and deterministic' (their statements: YtaelaneekichkaaTotals.lean).
  GIVEN WITH THE SEED: the statements are not yours to turn. If you find one false, say at which input.
  Laid BY PROGRAM, IN A SANDBOX (cutbox-rows.mjs): the forced cells as the released guide's own fill.sh prints them over the translation e5ff66dcbdb44c1c… (all of the seat's roots in one cut). By AI agents, Wed Nov 11 2026. No macro, syntax, notation, axiom, sorry.
-/
import Derived.Test.YtaelaneekichkaaChecked
import GoSem.Claim
import GoSem.ClaimJoined
import GoSem.ClaimMapViews
import Derived.JoinedTies
import Derived.KernelRfl
namespace Go.Proofs.Ytaelaneekichkaa
/- THE CELL 'sum', in the pinned program and in every row, IS THE sha256 OF THE DUMP (.gsa) THAT YtaelaneekichkaaProg.lean LOADS. Nothing in Lean hashes anything: it is a label: what it is worth is what the hold of that sum in a sandbox is worth. -/
noncomputable def Try.pinned : Pinned := { name := "ytaelaneekichkaa", sum := "e5ff66dcbdb44c1ceef109c5f072662e634802975460bbdef188faaae48b4394", checked := Try.checked }
namespace Rows
def none {H : Type} : Left H := { results := [], args := [] }

/-- 'laws.FnExactHomeTile': WHATEVER THE INPUT: true; the input reads as it did. -/
def fnExactHomeTileSpec : ChangeSpec := { name := "fnExactHomeTile", fn := fun _ => fun
  | [d] => { results := [.lit (.bool true)], args := [d] }
  | _ => none }
def fnExactHomeTileRow : OpenClaim := { program := "ytaelaneekichkaa", sum := "e5ff66dcbdb44c1ceef109c5f072662e634802975460bbdef188faaae48b4394", func := "loop.example/g00943/laws.FnExactHomeTile", spec := "fnExactHomeTile", plainKeys := false, apart := false }
def FnExactHomeTileSaid : Prop := fnExactHomeTileRow.holds Try.pinned (OpenSpec.ofChange fnExactHomeTileSpec)

/-- ITS FALSE NEIGHBOUR: 'it returns false'. Refute it at one input. -/
def fnExactHomeTileWrong : ChangeSpec := { name := "fnExactHomeTile", fn := fun _ => fun
  | [d] => { results := [.lit (.bool false)], args := [d] }
  | _ => none }
def FnExactHomeTileWrongFalsely : Prop := fnExactHomeTileRow.holds Try.pinned (OpenSpec.ofChange fnExactHomeTileWrong)

/-- 'laws.FnExactColourAt': WHATEVER THE INPUT: true; the input reads as it did. -/
def fnExactColourAtSpec : ChangeSpec := { name := "fnExactColourAt", fn := fun _ => fun
  | [d1, d2] => { results := [.lit (.bool true)], args := [d1, d2] }
  | _ => none }
def fnExactColourAtRow : OpenClaim := { program := "ytaelaneekichkaa", sum := "e5ff66dcbdb44c1ceef109c5f072662e634802975460bbdef188faaae48b4394", func := "loop.example/g00943/laws.FnExactColourAt", spec := "fnExactColourAt", unfollowed := true, recurses := true, plainKeys := false, apart := false }
def FnExactColourAtSaid : Prop := fnExactColourAtRow.holds Try.pinned (OpenSpec.ofChange fnExactColourAtSpec)

/-- ITS FALSE NEIGHBOUR: 'it returns false'. Refute it at one input. -/
def fnExactColourAtWrong : ChangeSpec := { name := "fnExactColourAt", fn := fun _ => fun
  | [d1, d2] => { results := [.lit (.bool false)], args := [d1, d2] }
  | _ => none }
def FnExactColourAtWrongFalsely : Prop := fnExactColourAtRow.holds Try.pinned (OpenSpec.ofChange fnExactColourAtWrong)

/-- 'laws.FnExactFitsPatch': WHATEVER THE INPUT: true; the input reads as it did. -/
def fnExactFitsPatchSpec : ChangeSpec := { name := "fnExactFitsPatch", fn := fun _ => fun
  | [d1, d2] => { results := [.lit (.bool true)], args := [d1, d2] }
  | _ => none }
def fnExactFitsPatchRow : OpenClaim := { program := "ytaelaneekichkaa", sum := "e5ff66dcbdb44c1ceef109c5f072662e634802975460bbdef188faaae48b4394", func := "loop.example/g00943/laws.FnExactFitsPatch", spec := "fnExactFitsPatch", unfollowed := true, recurses := true, plainKeys := false, apart := false }
def FnExactFitsPatchSaid : Prop := fnExactFitsPatchRow.holds Try.pinned (OpenSpec.ofChange fnExactFitsPatchSpec)

/-- ITS FALSE NEIGHBOUR: 'it returns false'. Refute it at one input. -/
def fnExactFitsPatchWrong : ChangeSpec := { name := "fnExactFitsPatch", fn := fun _ => fun
  | [d1, d2] => { results := [.lit (.bool false)], args := [d1, d2] }
  | _ => none }
def FnExactFitsPatchWrongFalsely : Prop := fnExactFitsPatchRow.holds Try.pinned (OpenSpec.ofChange fnExactFitsPatchWrong)

/-- 'laws.FnExactCutPatch': WHATEVER THE INPUT: true; the input reads as it did. -/
def fnExactCutPatchSpec : ChangeSpec := { name := "fnExactCutPatch", fn := fun _ => fun
  | [d1, d2, d3, d4] => { results := [.lit (.bool true)], args := [d1, d2, d3, d4] }
  | _ => none }
def fnExactCutPatchRow : OpenClaim := { program := "ytaelaneekichkaa", sum := "e5ff66dcbdb44c1ceef109c5f072662e634802975460bbdef188faaae48b4394", func := "loop.example/g00943/laws.FnExactCutPatch", spec := "fnExactCutPatch", unfollowed := true, recurses := true, plainKeys := false, apart := false }
def FnExactCutPatchSaid : Prop := fnExactCutPatchRow.holds Try.pinned (OpenSpec.ofChange fnExactCutPatchSpec)

/-- ITS FALSE NEIGHBOUR: 'it returns false'. Refute it at one input. -/
def fnExactCutPatchWrong : ChangeSpec := { name := "fnExactCutPatch", fn := fun _ => fun
  | [d1, d2, d3, d4] => { results := [.lit (.bool false)], args := [d1, d2, d3, d4] }
  | _ => none }
def FnExactCutPatchWrongFalsely : Prop := fnExactCutPatchRow.holds Try.pinned (OpenSpec.ofChange fnExactCutPatchWrong)

/-- 'laws.FnExactHasMarks': WHATEVER THE INPUT: true; the input reads as it did. -/
def fnExactHasMarksSpec : ChangeSpec := { name := "fnExactHasMarks", fn := fun _ => fun
  | [d1, d2] => { results := [.lit (.bool true)], args := [d1, d2] }
  | _ => none }
def fnExactHasMarksRow : OpenClaim := { program := "ytaelaneekichkaa", sum := "e5ff66dcbdb44c1ceef109c5f072662e634802975460bbdef188faaae48b4394", func := "loop.example/g00943/laws.FnExactHasMarks", spec := "fnExactHasMarks", unfollowed := true, recurses := true, plainKeys := false, apart := false }
def FnExactHasMarksSaid : Prop := fnExactHasMarksRow.holds Try.pinned (OpenSpec.ofChange fnExactHasMarksSpec)

/-- ITS FALSE NEIGHBOUR: 'it returns false'. Refute it at one input. -/
def fnExactHasMarksWrong : ChangeSpec := { name := "fnExactHasMarks", fn := fun _ => fun
  | [d1, d2] => { results := [.lit (.bool false)], args := [d1, d2] }
  | _ => none }
def FnExactHasMarksWrongFalsely : Prop := fnExactHasMarksRow.holds Try.pinned (OpenSpec.ofChange fnExactHasMarksWrong)

/-- 'laws.FnExactTilingLattices': WHATEVER THE INPUT: true; the input reads as it did. -/
def fnExactTilingLatticesSpec : ChangeSpec := { name := "fnExactTilingLattices", fn := fun _ => fun
  | [d] => { results := [.lit (.bool true)], args := [d] }
  | _ => none }
def fnExactTilingLatticesRow : OpenClaim := { program := "ytaelaneekichkaa", sum := "e5ff66dcbdb44c1ceef109c5f072662e634802975460bbdef188faaae48b4394", func := "loop.example/g00943/laws.FnExactTilingLattices", spec := "fnExactTilingLattices", unfollowed := true, recurses := true, plainKeys := false, apart := false }
def FnExactTilingLatticesSaid : Prop := fnExactTilingLatticesRow.holds Try.pinned (OpenSpec.ofChange fnExactTilingLatticesSpec)

/-- ITS FALSE NEIGHBOUR: 'it returns false'. Refute it at one input. -/
def fnExactTilingLatticesWrong : ChangeSpec := { name := "fnExactTilingLattices", fn := fun _ => fun
  | [d] => { results := [.lit (.bool false)], args := [d] }
  | _ => none }
def FnExactTilingLatticesWrongFalsely : Prop := fnExactTilingLatticesRow.holds Try.pinned (OpenSpec.ofChange fnExactTilingLatticesWrong)

/-- 'laws.FnExactFindPatch': WHATEVER THE INPUT: true; the input reads as it did. -/
def fnExactFindPatchSpec : ChangeSpec := { name := "fnExactFindPatch", fn := fun _ => fun
  | [d1, d2] => { results := [.lit (.bool true)], args := [d1, d2] }
  | _ => none }
def fnExactFindPatchRow : OpenClaim := { program := "ytaelaneekichkaa", sum := "e5ff66dcbdb44c1ceef109c5f072662e634802975460bbdef188faaae48b4394", func := "loop.example/g00943/laws.FnExactFindPatch", spec := "fnExactFindPatch", unfollowed := true, recurses := true, plainKeys := false, apart := false }
def FnExactFindPatchSaid : Prop := fnExactFindPatchRow.holds Try.pinned (OpenSpec.ofChange fnExactFindPatchSpec)

/-- ITS FALSE NEIGHBOUR: 'it returns false'. Refute it at one input. -/
def fnExactFindPatchWrong : ChangeSpec := { name := "fnExactFindPatch", fn := fun _ => fun
  | [d1, d2] => { results := [.lit (.bool false)], args := [d1, d2] }
  | _ => none }
def FnExactFindPatchWrongFalsely : Prop := fnExactFindPatchRow.holds Try.pinned (OpenSpec.ofChange fnExactFindPatchWrong)

/-- 'laws.FnExactFullLattice': WHATEVER THE INPUT: true; the input reads as it did. -/
def fnExactFullLatticeSpec : ChangeSpec := { name := "fnExactFullLattice", fn := fun _ => fun
  | [d] => { results := [.lit (.bool true)], args := [d] }
  | _ => none }
def fnExactFullLatticeRow : OpenClaim := { program := "ytaelaneekichkaa", sum := "e5ff66dcbdb44c1ceef109c5f072662e634802975460bbdef188faaae48b4394", func := "loop.example/g00943/laws.FnExactFullLattice", spec := "fnExactFullLattice", unfollowed := true, recurses := true, plainKeys := false, apart := false }
def FnExactFullLatticeSaid : Prop := fnExactFullLatticeRow.holds Try.pinned (OpenSpec.ofChange fnExactFullLatticeSpec)

/-- ITS FALSE NEIGHBOUR: 'it returns false'. Refute it at one input. -/
def fnExactFullLatticeWrong : ChangeSpec := { name := "fnExactFullLattice", fn := fun _ => fun
  | [d] => { results := [.lit (.bool false)], args := [d] }
  | _ => none }
def FnExactFullLatticeWrongFalsely : Prop := fnExactFullLatticeRow.holds Try.pinned (OpenSpec.ofChange fnExactFullLatticeWrong)

/-- 'laws.FnExactReadPatch': WHATEVER THE INPUT: true; the input reads as it did. -/
def fnExactReadPatchSpec : ChangeSpec := { name := "fnExactReadPatch", fn := fun _ => fun
  | [d1, d2, d3] => { results := [.lit (.bool true)], args := [d1, d2, d3] }
  | _ => none }
def fnExactReadPatchRow : OpenClaim := { program := "ytaelaneekichkaa", sum := "e5ff66dcbdb44c1ceef109c5f072662e634802975460bbdef188faaae48b4394", func := "loop.example/g00943/laws.FnExactReadPatch", spec := "fnExactReadPatch", unfollowed := true, recurses := true, plainKeys := false, apart := false }
def FnExactReadPatchSaid : Prop := fnExactReadPatchRow.holds Try.pinned (OpenSpec.ofChange fnExactReadPatchSpec)

/-- ITS FALSE NEIGHBOUR: 'it returns false'. Refute it at one input. -/
def fnExactReadPatchWrong : ChangeSpec := { name := "fnExactReadPatch", fn := fun _ => fun
  | [d1, d2, d3] => { results := [.lit (.bool false)], args := [d1, d2, d3] }
  | _ => none }
def FnExactReadPatchWrongFalsely : Prop := fnExactReadPatchRow.holds Try.pinned (OpenSpec.ofChange fnExactReadPatchWrong)

/-- 'laws.FnExactLeanPattern': WHATEVER THE INPUT: true; the input reads as it did. -/
def fnExactLeanPatternSpec : ChangeSpec := { name := "fnExactLeanPattern", fn := fun _ => fun
  | [d] => { results := [.lit (.bool true)], args := [d] }
  | _ => none }
def fnExactLeanPatternRow : OpenClaim := { program := "ytaelaneekichkaa", sum := "e5ff66dcbdb44c1ceef109c5f072662e634802975460bbdef188faaae48b4394", func := "loop.example/g00943/laws.FnExactLeanPattern", spec := "fnExactLeanPattern", unfollowed := true, recurses := true, plainKeys := false, apart := false }
def FnExactLeanPatternSaid : Prop := fnExactLeanPatternRow.holds Try.pinned (OpenSpec.ofChange fnExactLeanPatternSpec)

/-- ITS FALSE NEIGHBOUR: 'it returns false'. Refute it at one input. -/
def fnExactLeanPatternWrong : ChangeSpec := { name := "fnExactLeanPattern", fn := fun _ => fun
  | [d] => { results := [.lit (.bool false)], args := [d] }
  | _ => none }
def FnExactLeanPatternWrongFalsely : Prop := fnExactLeanPatternRow.holds Try.pinned (OpenSpec.ofChange fnExactLeanPatternWrong)

/-- 'laws.FnExactArePatternsSame': WHATEVER THE INPUT: true; the input reads as it did. -/
def fnExactArePatternsSameSpec : ChangeSpec := { name := "fnExactArePatternsSame", fn := fun _ => fun
  | [d1, d2] => { results := [.lit (.bool true)], args := [d1, d2] }
  | _ => none }
def fnExactArePatternsSameRow : OpenClaim := { program := "ytaelaneekichkaa", sum := "e5ff66dcbdb44c1ceef109c5f072662e634802975460bbdef188faaae48b4394", func := "loop.example/g00943/laws.FnExactArePatternsSame", spec := "fnExactArePatternsSame", unfollowed := true, recurses := true, plainKeys := false, apart := false }
def FnExactArePatternsSameSaid : Prop := fnExactArePatternsSameRow.holds Try.pinned (OpenSpec.ofChange fnExactArePatternsSameSpec)

/-- ITS FALSE NEIGHBOUR: 'it returns false'. Refute it at one input. -/
def fnExactArePatternsSameWrong : ChangeSpec := { name := "fnExactArePatternsSame", fn := fun _ => fun
  | [d1, d2] => { results := [.lit (.bool false)], args := [d1, d2] }
  | _ => none }
def FnExactArePatternsSameWrongFalsely : Prop := fnExactArePatternsSameRow.holds Try.pinned (OpenSpec.ofChange fnExactArePatternsSameWrong)

/-- 'laws.FnExactSpreadPattern': WHATEVER THE INPUT: true; the input reads as it did. -/
def fnExactSpreadPatternSpec : ChangeSpec := { name := "fnExactSpreadPattern", fn := fun _ => fun
  | [d1, d2] => { results := [.lit (.bool true)], args := [d1, d2] }
  | _ => none }
def fnExactSpreadPatternRow : OpenClaim := { program := "ytaelaneekichkaa", sum := "e5ff66dcbdb44c1ceef109c5f072662e634802975460bbdef188faaae48b4394", func := "loop.example/g00943/laws.FnExactSpreadPattern", spec := "fnExactSpreadPattern", unfollowed := true, recurses := true, plainKeys := false, apart := false }
def FnExactSpreadPatternSaid : Prop := fnExactSpreadPatternRow.holds Try.pinned (OpenSpec.ofChange fnExactSpreadPatternSpec)

/-- ITS FALSE NEIGHBOUR: 'it returns false'. Refute it at one input. -/
def fnExactSpreadPatternWrong : ChangeSpec := { name := "fnExactSpreadPattern", fn := fun _ => fun
  | [d1, d2] => { results := [.lit (.bool false)], args := [d1, d2] }
  | _ => none }
def FnExactSpreadPatternWrongFalsely : Prop := fnExactSpreadPatternRow.holds Try.pinned (OpenSpec.ofChange fnExactSpreadPatternWrong)

/- THE SECOND FORM. 'bulk': how many values and letters a reading holds, each counted each time it is reached (what is shared counts as often as it is met; a slice's spare places count too). A statement '..UptoSaid' is the law's where the arguments, and the package variables that the reading takes, are together of bulk at most 1048576: NARROWER than '..Said'. Prove '..Said' where nothing that the law and all that it calls make is longer than what came in: it says more and counts as full. Else prove '..UptoSaid'. A law counts once. -/
mutual
def uptoBulk {H : Type} : DataW H → Nat
  | .lit (.string bytes) => bytes.length + 1
  | .lit _ => 1
  | .nil => 1
  | .ptr d => uptoBulk d + 1
  | .slice elems spare => uptoBulkAll elems + uptoBulkAll spare + 1
  | .agg parts => uptoBulkAll parts + 1
  | .iface _ d => uptoBulk d + 1
  | .map entries => uptoBulkEntries entries + 1
  | .held _ => 1
def uptoBulkAll {H : Type} : List (DataW H) → Nat
  | [] => 0
  | d :: r => uptoBulk d + uptoBulkAll r
def uptoBulkEntries {H : Type} : List (Lit × DataW H) → Nat
  | [] => 0
  | x :: r => uptoBulkEntry x + uptoBulkEntries r
def uptoBulkEntry {H : Type} : Lit × DataW H → Nat
  | (.string bytes, d) => bytes.length + uptoBulk d + 1
  | (_, d) => uptoBulk d + 1
 end
def uptoSmall : (H : Type) → List (DataW H) → Bool := fun _ ds => decide (uptoBulkAll ds ≤ 1048576)
def OpenSpec.upto (s : _root_.Go.ChangeSpec) : _root_.Go.OpenSpec := { _root_.Go.OpenSpec.ofChange s with cond := some uptoSmall }

/-- 'laws.FnExactHomeTile', WHERE WHAT IT READS IS OF BULK AT MOST 1048576: true; the input reads as it did. -/
def fnExactHomeTileUptoRow : OpenClaim := { program := "ytaelaneekichkaa", sum := "e5ff66dcbdb44c1ceef109c5f072662e634802975460bbdef188faaae48b4394", func := "loop.example/g00943/laws.FnExactHomeTile", spec := "fnExactHomeTile", plainKeys := false, apart := false, narrowed := true }
def FnExactHomeTileUptoSaid : Prop := fnExactHomeTileUptoRow.holds Try.pinned (OpenSpec.upto fnExactHomeTileSpec)

/-- 'laws.FnExactColourAt', WHERE WHAT IT READS IS OF BULK AT MOST 1048576: true; the input reads as it did. -/
def fnExactColourAtUptoRow : OpenClaim := { program := "ytaelaneekichkaa", sum := "e5ff66dcbdb44c1ceef109c5f072662e634802975460bbdef188faaae48b4394", func := "loop.example/g00943/laws.FnExactColourAt", spec := "fnExactColourAt", unfollowed := true, recurses := true, plainKeys := false, apart := false, narrowed := true }
def FnExactColourAtUptoSaid : Prop := fnExactColourAtUptoRow.holds Try.pinned (OpenSpec.upto fnExactColourAtSpec)

/-- 'laws.FnExactFitsPatch', WHERE WHAT IT READS IS OF BULK AT MOST 1048576: true; the input reads as it did. -/
def fnExactFitsPatchUptoRow : OpenClaim := { program := "ytaelaneekichkaa", sum := "e5ff66dcbdb44c1ceef109c5f072662e634802975460bbdef188faaae48b4394", func := "loop.example/g00943/laws.FnExactFitsPatch", spec := "fnExactFitsPatch", unfollowed := true, recurses := true, plainKeys := false, apart := false, narrowed := true }
def FnExactFitsPatchUptoSaid : Prop := fnExactFitsPatchUptoRow.holds Try.pinned (OpenSpec.upto fnExactFitsPatchSpec)

/-- 'laws.FnExactCutPatch', WHERE WHAT IT READS IS OF BULK AT MOST 1048576: true; the input reads as it did. -/
def fnExactCutPatchUptoRow : OpenClaim := { program := "ytaelaneekichkaa", sum := "e5ff66dcbdb44c1ceef109c5f072662e634802975460bbdef188faaae48b4394", func := "loop.example/g00943/laws.FnExactCutPatch", spec := "fnExactCutPatch", unfollowed := true, recurses := true, plainKeys := false, apart := false, narrowed := true }
def FnExactCutPatchUptoSaid : Prop := fnExactCutPatchUptoRow.holds Try.pinned (OpenSpec.upto fnExactCutPatchSpec)

/-- 'laws.FnExactHasMarks', WHERE WHAT IT READS IS OF BULK AT MOST 1048576: true; the input reads as it did. -/
def fnExactHasMarksUptoRow : OpenClaim := { program := "ytaelaneekichkaa", sum := "e5ff66dcbdb44c1ceef109c5f072662e634802975460bbdef188faaae48b4394", func := "loop.example/g00943/laws.FnExactHasMarks", spec := "fnExactHasMarks", unfollowed := true, recurses := true, plainKeys := false, apart := false, narrowed := true }
def FnExactHasMarksUptoSaid : Prop := fnExactHasMarksUptoRow.holds Try.pinned (OpenSpec.upto fnExactHasMarksSpec)

/-- 'laws.FnExactTilingLattices', WHERE WHAT IT READS IS OF BULK AT MOST 1048576: true; the input reads as it did. -/
def fnExactTilingLatticesUptoRow : OpenClaim := { program := "ytaelaneekichkaa", sum := "e5ff66dcbdb44c1ceef109c5f072662e634802975460bbdef188faaae48b4394", func := "loop.example/g00943/laws.FnExactTilingLattices", spec := "fnExactTilingLattices", unfollowed := true, recurses := true, plainKeys := false, apart := false, narrowed := true }
def FnExactTilingLatticesUptoSaid : Prop := fnExactTilingLatticesUptoRow.holds Try.pinned (OpenSpec.upto fnExactTilingLatticesSpec)

/-- 'laws.FnExactFindPatch', WHERE WHAT IT READS IS OF BULK AT MOST 1048576: true; the input reads as it did. -/
def fnExactFindPatchUptoRow : OpenClaim := { program := "ytaelaneekichkaa", sum := "e5ff66dcbdb44c1ceef109c5f072662e634802975460bbdef188faaae48b4394", func := "loop.example/g00943/laws.FnExactFindPatch", spec := "fnExactFindPatch", unfollowed := true, recurses := true, plainKeys := false, apart := false, narrowed := true }
def FnExactFindPatchUptoSaid : Prop := fnExactFindPatchUptoRow.holds Try.pinned (OpenSpec.upto fnExactFindPatchSpec)

/-- 'laws.FnExactFullLattice', WHERE WHAT IT READS IS OF BULK AT MOST 1048576: true; the input reads as it did. -/
def fnExactFullLatticeUptoRow : OpenClaim := { program := "ytaelaneekichkaa", sum := "e5ff66dcbdb44c1ceef109c5f072662e634802975460bbdef188faaae48b4394", func := "loop.example/g00943/laws.FnExactFullLattice", spec := "fnExactFullLattice", unfollowed := true, recurses := true, plainKeys := false, apart := false, narrowed := true }
def FnExactFullLatticeUptoSaid : Prop := fnExactFullLatticeUptoRow.holds Try.pinned (OpenSpec.upto fnExactFullLatticeSpec)

/-- 'laws.FnExactReadPatch', WHERE WHAT IT READS IS OF BULK AT MOST 1048576: true; the input reads as it did. -/
def fnExactReadPatchUptoRow : OpenClaim := { program := "ytaelaneekichkaa", sum := "e5ff66dcbdb44c1ceef109c5f072662e634802975460bbdef188faaae48b4394", func := "loop.example/g00943/laws.FnExactReadPatch", spec := "fnExactReadPatch", unfollowed := true, recurses := true, plainKeys := false, apart := false, narrowed := true }
def FnExactReadPatchUptoSaid : Prop := fnExactReadPatchUptoRow.holds Try.pinned (OpenSpec.upto fnExactReadPatchSpec)

/-- 'laws.FnExactLeanPattern', WHERE WHAT IT READS IS OF BULK AT MOST 1048576: true; the input reads as it did. -/
def fnExactLeanPatternUptoRow : OpenClaim := { program := "ytaelaneekichkaa", sum := "e5ff66dcbdb44c1ceef109c5f072662e634802975460bbdef188faaae48b4394", func := "loop.example/g00943/laws.FnExactLeanPattern", spec := "fnExactLeanPattern", unfollowed := true, recurses := true, plainKeys := false, apart := false, narrowed := true }
def FnExactLeanPatternUptoSaid : Prop := fnExactLeanPatternUptoRow.holds Try.pinned (OpenSpec.upto fnExactLeanPatternSpec)

/-- 'laws.FnExactArePatternsSame', WHERE WHAT IT READS IS OF BULK AT MOST 1048576: true; the input reads as it did. -/
def fnExactArePatternsSameUptoRow : OpenClaim := { program := "ytaelaneekichkaa", sum := "e5ff66dcbdb44c1ceef109c5f072662e634802975460bbdef188faaae48b4394", func := "loop.example/g00943/laws.FnExactArePatternsSame", spec := "fnExactArePatternsSame", unfollowed := true, recurses := true, plainKeys := false, apart := false, narrowed := true }
def FnExactArePatternsSameUptoSaid : Prop := fnExactArePatternsSameUptoRow.holds Try.pinned (OpenSpec.upto fnExactArePatternsSameSpec)

/-- 'laws.FnExactSpreadPattern', WHERE WHAT IT READS IS OF BULK AT MOST 1048576: true; the input reads as it did. -/
def fnExactSpreadPatternUptoRow : OpenClaim := { program := "ytaelaneekichkaa", sum := "e5ff66dcbdb44c1ceef109c5f072662e634802975460bbdef188faaae48b4394", func := "loop.example/g00943/laws.FnExactSpreadPattern", spec := "fnExactSpreadPattern", unfollowed := true, recurses := true, plainKeys := false, apart := false, narrowed := true }
def FnExactSpreadPatternUptoSaid : Prop := fnExactSpreadPatternUptoRow.holds Try.pinned (OpenSpec.upto fnExactSpreadPatternSpec)

end Rows
end Go.Proofs.Ytaelaneekichkaa
