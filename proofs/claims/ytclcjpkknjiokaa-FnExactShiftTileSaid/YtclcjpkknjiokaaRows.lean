/-
  No cell of these rows narrows 'for every input' (looked for: loops, veiled, ifaces, maps, wideKeys, modest, calm, conditions, laid).
  DERIVED. THE GIVEN ROWS OF THIS SEAT. 7 by the template 'for every input the law returns true; each argument reads behind the call as it read before'; 0 by the template 'total and deterministic' (their statements: YtclcjpkknjiokaaTotals.lean).
  GIVEN WITH THE SEED: the statements are not yours to turn. If you find one false, say at which input.
  Laid BY PROGRAM, IN A SANDBOX (cutbox-rows.mjs): the forced cells as the released guide's own fill.sh prints them over the translation 0de6f78c2072aa7e… (all of the seat's roots in one cut). By AI agents, Wed Nov 11 2026. No macro, syntax, notation, axiom, sorry.
-/
import Derived.Test.YtclcjpkknjiokaaChecked
import GoSem.Claim
import GoSem.ClaimJoined
import GoSem.ClaimMapViews
import Derived.JoinedTies
import Derived.KernelRfl
namespace Go.Proofs.Ytclcjpkknjiokaa
/- THE CELL 'sum', in the pinned program and in every row, IS THE sha256 OF THE DUMP (.gsa) THAT YtclcjpkknjiokaaProg.lean LOADS. Nothing in Lean hashes anything: it is a label: what it is worth is what the hold of that sum in a sandbox is worth. -/
noncomputable def Try.pinned : Pinned := { name := "ytclcjpkknjiokaa", sum := "0de6f78c2072aa7e40716ae0a9d6261a76ab054ec64f633ee481a329c4ead347", checked := Try.checked }
namespace Rows
def none {H : Type} : Left H := { results := [], args := [] }

/-- 'laws.FnExactIsTile': WHATEVER THE INPUT: true; the input reads as it did. -/
def fnExactIsTileSpec : ChangeSpec := { name := "fnExactIsTile", fn := fun _ => fun
  | [d] => { results := [.lit (.bool true)], args := [d] }
  | _ => none }
def fnExactIsTileRow : OpenClaim := { program := "ytclcjpkknjiokaa", sum := "0de6f78c2072aa7e40716ae0a9d6261a76ab054ec64f633ee481a329c4ead347", func := "loop.example/g00943/laws.FnExactIsTile", spec := "fnExactIsTile", plainKeys := false, apart := false }
def FnExactIsTileSaid : Prop := fnExactIsTileRow.holds Try.pinned (OpenSpec.ofChange fnExactIsTileSpec)

/-- ITS FALSE NEIGHBOUR: 'it returns false'. Refute it at one input. -/
def fnExactIsTileWrong : ChangeSpec := { name := "fnExactIsTile", fn := fun _ => fun
  | [d] => { results := [.lit (.bool false)], args := [d] }
  | _ => none }
def FnExactIsTileWrongFalsely : Prop := fnExactIsTileRow.holds Try.pinned (OpenSpec.ofChange fnExactIsTileWrong)

/-- 'laws.FnExactIsPatch': WHATEVER THE INPUT: true; the input reads as it did. -/
def fnExactIsPatchSpec : ChangeSpec := { name := "fnExactIsPatch", fn := fun _ => fun
  | [d] => { results := [.lit (.bool true)], args := [d] }
  | _ => none }
def fnExactIsPatchRow : OpenClaim := { program := "ytclcjpkknjiokaa", sum := "0de6f78c2072aa7e40716ae0a9d6261a76ab054ec64f633ee481a329c4ead347", func := "loop.example/g00943/laws.FnExactIsPatch", spec := "fnExactIsPatch", unfollowed := true, recurses := true, plainKeys := false, apart := false }
def FnExactIsPatchSaid : Prop := fnExactIsPatchRow.holds Try.pinned (OpenSpec.ofChange fnExactIsPatchSpec)

/-- ITS FALSE NEIGHBOUR: 'it returns false'. Refute it at one input. -/
def fnExactIsPatchWrong : ChangeSpec := { name := "fnExactIsPatch", fn := fun _ => fun
  | [d] => { results := [.lit (.bool false)], args := [d] }
  | _ => none }
def FnExactIsPatchWrongFalsely : Prop := fnExactIsPatchRow.holds Try.pinned (OpenSpec.ofChange fnExactIsPatchWrong)

/-- 'laws.FnExactAreMarks': WHATEVER THE INPUT: true; the input reads as it did. -/
def fnExactAreMarksSpec : ChangeSpec := { name := "fnExactAreMarks", fn := fun _ => fun
  | [d] => { results := [.lit (.bool true)], args := [d] }
  | _ => none }
def fnExactAreMarksRow : OpenClaim := { program := "ytclcjpkknjiokaa", sum := "0de6f78c2072aa7e40716ae0a9d6261a76ab054ec64f633ee481a329c4ead347", func := "loop.example/g00943/laws.FnExactAreMarks", spec := "fnExactAreMarks", unfollowed := true, recurses := true, plainKeys := false, apart := false }
def FnExactAreMarksSaid : Prop := fnExactAreMarksRow.holds Try.pinned (OpenSpec.ofChange fnExactAreMarksSpec)

/-- ITS FALSE NEIGHBOUR: 'it returns false'. Refute it at one input. -/
def fnExactAreMarksWrong : ChangeSpec := { name := "fnExactAreMarks", fn := fun _ => fun
  | [d] => { results := [.lit (.bool false)], args := [d] }
  | _ => none }
def FnExactAreMarksWrongFalsely : Prop := fnExactAreMarksRow.holds Try.pinned (OpenSpec.ofChange fnExactAreMarksWrong)

/-- 'laws.FnExactFriezeAt': WHATEVER THE INPUT: true; the input reads as it did. -/
def fnExactFriezeAtSpec : ChangeSpec := { name := "fnExactFriezeAt", fn := fun _ => fun
  | [d1, d2, d3] => { results := [.lit (.bool true)], args := [d1, d2, d3] }
  | _ => none }
def fnExactFriezeAtRow : OpenClaim := { program := "ytclcjpkknjiokaa", sum := "0de6f78c2072aa7e40716ae0a9d6261a76ab054ec64f633ee481a329c4ead347", func := "loop.example/g00943/laws.FnExactFriezeAt", spec := "fnExactFriezeAt", unfollowed := true, recurses := true, plainKeys := false, apart := false }
def FnExactFriezeAtSaid : Prop := fnExactFriezeAtRow.holds Try.pinned (OpenSpec.ofChange fnExactFriezeAtSpec)

/-- ITS FALSE NEIGHBOUR: 'it returns false'. Refute it at one input. -/
def fnExactFriezeAtWrong : ChangeSpec := { name := "fnExactFriezeAt", fn := fun _ => fun
  | [d1, d2, d3] => { results := [.lit (.bool false)], args := [d1, d2, d3] }
  | _ => none }
def FnExactFriezeAtWrongFalsely : Prop := fnExactFriezeAtRow.holds Try.pinned (OpenSpec.ofChange fnExactFriezeAtWrong)

/-- 'laws.FnExactIsConnected': WHATEVER THE INPUT: true; the input reads as it did. -/
def fnExactIsConnectedSpec : ChangeSpec := { name := "fnExactIsConnected", fn := fun _ => fun
  | [d] => { results := [.lit (.bool true)], args := [d] }
  | _ => none }
def fnExactIsConnectedRow : OpenClaim := { program := "ytclcjpkknjiokaa", sum := "0de6f78c2072aa7e40716ae0a9d6261a76ab054ec64f633ee481a329c4ead347", func := "loop.example/g00943/laws.FnExactIsConnected", spec := "fnExactIsConnected", plainKeys := false, apart := false }
def FnExactIsConnectedSaid : Prop := fnExactIsConnectedRow.holds Try.pinned (OpenSpec.ofChange fnExactIsConnectedSpec)

/-- ITS FALSE NEIGHBOUR: 'it returns false'. Refute it at one input. -/
def fnExactIsConnectedWrong : ChangeSpec := { name := "fnExactIsConnected", fn := fun _ => fun
  | [d] => { results := [.lit (.bool false)], args := [d] }
  | _ => none }
def FnExactIsConnectedWrongFalsely : Prop := fnExactIsConnectedRow.holds Try.pinned (OpenSpec.ofChange fnExactIsConnectedWrong)

/-- 'laws.FnExactShiftTile': WHATEVER THE INPUT: true; the input reads as it did. -/
def fnExactShiftTileSpec : ChangeSpec := { name := "fnExactShiftTile", fn := fun _ => fun
  | [d1, d2] => { results := [.lit (.bool true)], args := [d1, d2] }
  | _ => none }
def fnExactShiftTileRow : OpenClaim := { program := "ytclcjpkknjiokaa", sum := "0de6f78c2072aa7e40716ae0a9d6261a76ab054ec64f633ee481a329c4ead347", func := "loop.example/g00943/laws.FnExactShiftTile", spec := "fnExactShiftTile", plainKeys := false, apart := false }
def FnExactShiftTileSaid : Prop := fnExactShiftTileRow.holds Try.pinned (OpenSpec.ofChange fnExactShiftTileSpec)

/-- ITS FALSE NEIGHBOUR: 'it returns false'. Refute it at one input. -/
def fnExactShiftTileWrong : ChangeSpec := { name := "fnExactShiftTile", fn := fun _ => fun
  | [d1, d2] => { results := [.lit (.bool false)], args := [d1, d2] }
  | _ => none }
def FnExactShiftTileWrongFalsely : Prop := fnExactShiftTileRow.holds Try.pinned (OpenSpec.ofChange fnExactShiftTileWrong)

/-- 'laws.FnExactTilesBy': WHATEVER THE INPUT: true; the input reads as it did. -/
def fnExactTilesBySpec : ChangeSpec := { name := "fnExactTilesBy", fn := fun _ => fun
  | [d1, d2] => { results := [.lit (.bool true)], args := [d1, d2] }
  | _ => none }
def fnExactTilesByRow : OpenClaim := { program := "ytclcjpkknjiokaa", sum := "0de6f78c2072aa7e40716ae0a9d6261a76ab054ec64f633ee481a329c4ead347", func := "loop.example/g00943/laws.FnExactTilesBy", spec := "fnExactTilesBy", plainKeys := false, apart := false }
def FnExactTilesBySaid : Prop := fnExactTilesByRow.holds Try.pinned (OpenSpec.ofChange fnExactTilesBySpec)

/-- ITS FALSE NEIGHBOUR: 'it returns false'. Refute it at one input. -/
def fnExactTilesByWrong : ChangeSpec := { name := "fnExactTilesBy", fn := fun _ => fun
  | [d1, d2] => { results := [.lit (.bool false)], args := [d1, d2] }
  | _ => none }
def FnExactTilesByWrongFalsely : Prop := fnExactTilesByRow.holds Try.pinned (OpenSpec.ofChange fnExactTilesByWrong)

/- THE SECOND FORM. 'bulk': how many values and letters a reading holds, each counted each time it is reached (what is shared counts as often as it is met; a slice's spare places count too). A statement '..UptoSaid' is the law's where the arguments, and the package variables that the reading takes, are together of bulk at most 1048576: NARROWER than '..Said'. Prove '..Said' where nothing that the law and all that it calls make is longer than what came in: it says more and counts as full. Else prove '..UptoSaid'. A law counts once. -/
mutual
def uptoBulk {H : Type} : DataW H → Nat
  | .lit (.string bytes) => bytes.length + 1
  | .lit _ => 1
  | .nil => 1
  | .ptr d => uptoBulk d + 1
  | .slice elems spare => uptoBulkAll elems + uptoBulkAll spare + 1
  | .agg parts => uptoBulkAll parts + 1
  | .iface _ d => uptoBulk d + 1
  | .map entries => uptoBulkEntries entries + 1
  | .held _ => 1
def uptoBulkAll {H : Type} : List (DataW H) → Nat
  | [] => 0
  | d :: r => uptoBulk d + uptoBulkAll r
def uptoBulkEntries {H : Type} : List (Lit × DataW H) → Nat
  | [] => 0
  | x :: r => uptoBulkEntry x + uptoBulkEntries r
def uptoBulkEntry {H : Type} : Lit × DataW H → Nat
  | (.string bytes, d) => bytes.length + uptoBulk d + 1
  | (_, d) => uptoBulk d + 1
 end
def uptoSmall : (H : Type) → List (DataW H) → Bool := fun _ ds => decide (uptoBulkAll ds ≤ 1048576)
def OpenSpec.upto (s : _root_.Go.ChangeSpec) : _root_.Go.OpenSpec := { _root_.Go.OpenSpec.ofChange s with cond := some uptoSmall }

/-- 'laws.FnExactIsTile', WHERE WHAT IT READS IS OF BULK AT MOST 1048576: true; the input reads as it did. -/
def fnExactIsTileUptoRow : OpenClaim := { program := "ytclcjpkknjiokaa", sum := "0de6f78c2072aa7e40716ae0a9d6261a76ab054ec64f633ee481a329c4ead347", func := "loop.example/g00943/laws.FnExactIsTile", spec := "fnExactIsTile", plainKeys := false, apart := false, narrowed := true }
def FnExactIsTileUptoSaid : Prop := fnExactIsTileUptoRow.holds Try.pinned (OpenSpec.upto fnExactIsTileSpec)

/-- 'laws.FnExactIsPatch', WHERE WHAT IT READS IS OF BULK AT MOST 1048576: true; the input reads as it did. -/
def fnExactIsPatchUptoRow : OpenClaim := { program := "ytclcjpkknjiokaa", sum := "0de6f78c2072aa7e40716ae0a9d6261a76ab054ec64f633ee481a329c4ead347", func := "loop.example/g00943/laws.FnExactIsPatch", spec := "fnExactIsPatch", unfollowed := true, recurses := true, plainKeys := false, apart := false, narrowed := true }
def FnExactIsPatchUptoSaid : Prop := fnExactIsPatchUptoRow.holds Try.pinned (OpenSpec.upto fnExactIsPatchSpec)

/-- 'laws.FnExactAreMarks', WHERE WHAT IT READS IS OF BULK AT MOST 1048576: true; the input reads as it did. -/
def fnExactAreMarksUptoRow : OpenClaim := { program := "ytclcjpkknjiokaa", sum := "0de6f78c2072aa7e40716ae0a9d6261a76ab054ec64f633ee481a329c4ead347", func := "loop.example/g00943/laws.FnExactAreMarks", spec := "fnExactAreMarks", unfollowed := true, recurses := true, plainKeys := false, apart := false, narrowed := true }
def FnExactAreMarksUptoSaid : Prop := fnExactAreMarksUptoRow.holds Try.pinned (OpenSpec.upto fnExactAreMarksSpec)

/-- 'laws.FnExactFriezeAt', WHERE WHAT IT READS IS OF BULK AT MOST 1048576: true; the input reads as it did. -/
def fnExactFriezeAtUptoRow : OpenClaim := { program := "ytclcjpkknjiokaa", sum := "0de6f78c2072aa7e40716ae0a9d6261a76ab054ec64f633ee481a329c4ead347", func := "loop.example/g00943/laws.FnExactFriezeAt", spec := "fnExactFriezeAt", unfollowed := true, recurses := true, plainKeys := false, apart := false, narrowed := true }
def FnExactFriezeAtUptoSaid : Prop := fnExactFriezeAtUptoRow.holds Try.pinned (OpenSpec.upto fnExactFriezeAtSpec)

/-- 'laws.FnExactIsConnected', WHERE WHAT IT READS IS OF BULK AT MOST 1048576: true; the input reads as it did. -/
def fnExactIsConnectedUptoRow : OpenClaim := { program := "ytclcjpkknjiokaa", sum := "0de6f78c2072aa7e40716ae0a9d6261a76ab054ec64f633ee481a329c4ead347", func := "loop.example/g00943/laws.FnExactIsConnected", spec := "fnExactIsConnected", plainKeys := false, apart := false, narrowed := true }
def FnExactIsConnectedUptoSaid : Prop := fnExactIsConnectedUptoRow.holds Try.pinned (OpenSpec.upto fnExactIsConnectedSpec)

/-- 'laws.FnExactShiftTile', WHERE WHAT IT READS IS OF BULK AT MOST 1048576: true; the input reads as it did. -/
def fnExactShiftTileUptoRow : OpenClaim := { program := "ytclcjpkknjiokaa", sum := "0de6f78c2072aa7e40716ae0a9d6261a76ab054ec64f633ee481a329c4ead347", func := "loop.example/g00943/laws.FnExactShiftTile", spec := "fnExactShiftTile", plainKeys := false, apart := false, narrowed := true }
def FnExactShiftTileUptoSaid : Prop := fnExactShiftTileUptoRow.holds Try.pinned (OpenSpec.upto fnExactShiftTileSpec)

/-- 'laws.FnExactTilesBy', WHERE WHAT IT READS IS OF BULK AT MOST 1048576: true; the input reads as it did. -/
def fnExactTilesByUptoRow : OpenClaim := { program := "ytclcjpkknjiokaa", sum := "0de6f78c2072aa7e40716ae0a9d6261a76ab054ec64f633ee481a329c4ead347", func := "loop.example/g00943/laws.FnExactTilesBy", spec := "fnExactTilesBy", plainKeys := false, apart := false, narrowed := true }
def FnExactTilesByUptoSaid : Prop := fnExactTilesByUptoRow.holds Try.pinned (OpenSpec.upto fnExactTilesBySpec)

end Rows
end Go.Proofs.Ytclcjpkknjiokaa
