/-
  No cell of these rows narrows 'for every input' (looked for: loops, veiled, ifaces, maps, wideKeys, modest, calm, conditions, laid).
  DERIVED. THE GIVEN ROWS OF THIS SEAT. 5 by the template 'for every input the law returns true; each argument reads behind the call as it read before'; 0 by the template 'total and deterministic' (their statements: YtahkbhmhaddbpaaTotals.lean).
  GIVEN WITH THE SEED: the statements are not yours to turn. If you find one false, say at which input.
  Laid BY PROGRAM, IN A SANDBOX (cutbox-rows.mjs): the forced cells as the released guide's own fill.sh prints them over the translation 4bfeb224ac10a261… (all of the seat's roots in one cut). By AI agents, Wed Nov 11 2026. No macro, syntax, notation, axiom, sorry.
-/
import Derived.Test.YtahkbhmhaddbpaaChecked
import GoSem.Claim
import GoSem.ClaimJoined
import GoSem.ClaimMapViews
import Derived.JoinedTies
import Derived.KernelRfl
namespace Go.Proofs.Ytahkbhmhaddbpaa
/- THE CELL 'sum', in the pinned program and in every row, IS THE sha256 OF THE DUMP (.gsa) THAT YtahkbhmhaddbpaaProg.lean LOADS. Nothing in Lean hashes anything: it is a label: what it is worth is what the hold of that sum in a sandbox is worth. -/
noncomputable def Try.pinned : Pinned := { name := "ytahkbhmhaddbpaa", sum := "4bfeb224ac10a2610361f71a3a5d0e24779497efe41ffff7e96af30fe6a49116", checked := Try.checked }
namespace Rows
def none {H : Type} : Left H := { results := [], args := [] }

/-- 'laws.FnExactCanonicalColours': WHATEVER THE INPUT: true; the input reads as it did. -/
def fnExactCanonicalColoursSpec : ChangeSpec := { name := "fnExactCanonicalColours", fn := fun _ => fun
  | [d] => { results := [.lit (.bool true)], args := [d] }
  | _ => none }
def fnExactCanonicalColoursRow : OpenClaim := { program := "ytahkbhmhaddbpaa", sum := "4bfeb224ac10a2610361f71a3a5d0e24779497efe41ffff7e96af30fe6a49116", func := "loop.example/g00943/laws.FnExactCanonicalColours", spec := "fnExactCanonicalColours", unfollowed := true, recurses := true, apart := false }
def FnExactCanonicalColoursSaid : Prop := fnExactCanonicalColoursRow.holds Try.pinned (OpenSpec.ofChange fnExactCanonicalColoursSpec)

/-- ITS FALSE NEIGHBOUR: 'it returns false'. Refute it at one input. -/
def fnExactCanonicalColoursWrong : ChangeSpec := { name := "fnExactCanonicalColours", fn := fun _ => fun
  | [d] => { results := [.lit (.bool false)], args := [d] }
  | _ => none }
def FnExactCanonicalColoursWrongFalsely : Prop := fnExactCanonicalColoursRow.holds Try.pinned (OpenSpec.ofChange fnExactCanonicalColoursWrong)

/-- 'laws.FnExactPermutationBy': WHATEVER THE INPUT: true; the input reads as it did. -/
def fnExactPermutationBySpec : ChangeSpec := { name := "fnExactPermutationBy", fn := fun _ => fun
  | [d1, d2] => { results := [.lit (.bool true)], args := [d1, d2] }
  | _ => none }
def fnExactPermutationByRow : OpenClaim := { program := "ytahkbhmhaddbpaa", sum := "4bfeb224ac10a2610361f71a3a5d0e24779497efe41ffff7e96af30fe6a49116", func := "loop.example/g00943/laws.FnExactPermutationBy", spec := "fnExactPermutationBy", unfollowed := true, recurses := true, apart := false }
def FnExactPermutationBySaid : Prop := fnExactPermutationByRow.holds Try.pinned (OpenSpec.ofChange fnExactPermutationBySpec)

/-- ITS FALSE NEIGHBOUR: 'it returns false'. Refute it at one input. -/
def fnExactPermutationByWrong : ChangeSpec := { name := "fnExactPermutationBy", fn := fun _ => fun
  | [d1, d2] => { results := [.lit (.bool false)], args := [d1, d2] }
  | _ => none }
def FnExactPermutationByWrongFalsely : Prop := fnExactPermutationByRow.holds Try.pinned (OpenSpec.ofChange fnExactPermutationByWrong)

/-- 'laws.FnExactColourGroup': WHATEVER THE INPUT: true; the input reads as it did. -/
def fnExactColourGroupSpec : ChangeSpec := { name := "fnExactColourGroup", fn := fun _ => fun
  | [d] => { results := [.lit (.bool true)], args := [d] }
  | _ => none }
def fnExactColourGroupRow : OpenClaim := { program := "ytahkbhmhaddbpaa", sum := "4bfeb224ac10a2610361f71a3a5d0e24779497efe41ffff7e96af30fe6a49116", func := "loop.example/g00943/laws.FnExactColourGroup", spec := "fnExactColourGroup", unfollowed := true, recurses := true, apart := false }
def FnExactColourGroupSaid : Prop := fnExactColourGroupRow.holds Try.pinned (OpenSpec.ofChange fnExactColourGroupSpec)

/-- ITS FALSE NEIGHBOUR: 'it returns false'. Refute it at one input. -/
def fnExactColourGroupWrong : ChangeSpec := { name := "fnExactColourGroup", fn := fun _ => fun
  | [d] => { results := [.lit (.bool false)], args := [d] }
  | _ => none }
def FnExactColourGroupWrongFalsely : Prop := fnExactColourGroupRow.holds Try.pinned (OpenSpec.ofChange fnExactColourGroupWrong)

/-- 'laws.FnExactTurnTile': WHATEVER THE INPUT: true; the input reads as it did. -/
def fnExactTurnTileSpec : ChangeSpec := { name := "fnExactTurnTile", fn := fun _ => fun
  | [d1, d2] => { results := [.lit (.bool true)], args := [d1, d2] }
  | _ => none }
def fnExactTurnTileRow : OpenClaim := { program := "ytahkbhmhaddbpaa", sum := "4bfeb224ac10a2610361f71a3a5d0e24779497efe41ffff7e96af30fe6a49116", func := "loop.example/g00943/laws.FnExactTurnTile", spec := "fnExactTurnTile", unfollowed := true, recurses := true, apart := false }
def FnExactTurnTileSaid : Prop := fnExactTurnTileRow.holds Try.pinned (OpenSpec.ofChange fnExactTurnTileSpec)

/-- ITS FALSE NEIGHBOUR: 'it returns false'. Refute it at one input. -/
def fnExactTurnTileWrong : ChangeSpec := { name := "fnExactTurnTile", fn := fun _ => fun
  | [d1, d2] => { results := [.lit (.bool false)], args := [d1, d2] }
  | _ => none }
def FnExactTurnTileWrongFalsely : Prop := fnExactTurnTileRow.holds Try.pinned (OpenSpec.ofChange fnExactTurnTileWrong)

/-- 'laws.FnExactCanonicalTile': WHATEVER THE INPUT: true; the input reads as it did. -/
def fnExactCanonicalTileSpec : ChangeSpec := { name := "fnExactCanonicalTile", fn := fun _ => fun
  | [d] => { results := [.lit (.bool true)], args := [d] }
  | _ => none }
def fnExactCanonicalTileRow : OpenClaim := { program := "ytahkbhmhaddbpaa", sum := "4bfeb224ac10a2610361f71a3a5d0e24779497efe41ffff7e96af30fe6a49116", func := "loop.example/g00943/laws.FnExactCanonicalTile", spec := "fnExactCanonicalTile", unfollowed := true, recurses := true, apart := false }
def FnExactCanonicalTileSaid : Prop := fnExactCanonicalTileRow.holds Try.pinned (OpenSpec.ofChange fnExactCanonicalTileSpec)

/-- ITS FALSE NEIGHBOUR: 'it returns false'. Refute it at one input. -/
def fnExactCanonicalTileWrong : ChangeSpec := { name := "fnExactCanonicalTile", fn := fun _ => fun
  | [d] => { results := [.lit (.bool false)], args := [d] }
  | _ => none }
def FnExactCanonicalTileWrongFalsely : Prop := fnExactCanonicalTileRow.holds Try.pinned (OpenSpec.ofChange fnExactCanonicalTileWrong)

/- THE SECOND FORM. 'bulk': how many values and letters a reading holds, each counted each time it is reached (what is shared counts as often as it is met; a slice's spare places count too). A statement '..UptoSaid' is the law's where the arguments, and the package variables that the reading takes, are together of bulk at most 1048576: NARROWER than '..Said'. Prove '..Said' where nothing that the law and all that it calls make is longer than what came in: it says more and counts as full. Else prove '..UptoSaid'. A law counts once. -/
mutual
def uptoBulk {H : Type} : DataW H → Nat
  | .lit (.string bytes) => bytes.length + 1
  | .lit _ => 1
  | .nil => 1
  | .ptr d => uptoBulk d + 1
  | .slice elems spare => uptoBulkAll elems + uptoBulkAll spare + 1
  | .agg parts => uptoBulkAll parts + 1
  | .iface _ d => uptoBulk d + 1
  | .map entries => uptoBulkEntries entries + 1
  | .held _ => 1
def uptoBulkAll {H : Type} : List (DataW H) → Nat
  | [] => 0
  | d :: r => uptoBulk d + uptoBulkAll r
def uptoBulkEntries {H : Type} : List (Lit × DataW H) → Nat
  | [] => 0
  | x :: r => uptoBulkEntry x + uptoBulkEntries r
def uptoBulkEntry {H : Type} : Lit × DataW H → Nat
  | (.string bytes, d) => bytes.length + uptoBulk d + 1
  | (_, d) => uptoBulk d + 1
 end
def uptoSmall : (H : Type) → List (DataW H) → Bool := fun _ ds => decide (uptoBulkAll ds ≤ 1048576)
def OpenSpec.upto (s : _root_.Go.ChangeSpec) : _root_.Go.OpenSpec := { _root_.Go.OpenSpec.ofChange s with cond := some uptoSmall }

/-- 'laws.FnExactCanonicalColours', WHERE WHAT IT READS IS OF BULK AT MOST 1048576: true; the input reads as it did. -/
def fnExactCanonicalColoursUptoRow : OpenClaim := { program := "ytahkbhmhaddbpaa", sum := "4bfeb224ac10a2610361f71a3a5d0e24779497efe41ffff7e96af30fe6a49116", func := "loop.example/g00943/laws.FnExactCanonicalColours", spec := "fnExactCanonicalColours", unfollowed := true, recurses := true, apart := false, narrowed := true }
def FnExactCanonicalColoursUptoSaid : Prop := fnExactCanonicalColoursUptoRow.holds Try.pinned (OpenSpec.upto fnExactCanonicalColoursSpec)

/-- 'laws.FnExactPermutationBy', WHERE WHAT IT READS IS OF BULK AT MOST 1048576: true; the input reads as it did. -/
def fnExactPermutationByUptoRow : OpenClaim := { program := "ytahkbhmhaddbpaa", sum := "4bfeb224ac10a2610361f71a3a5d0e24779497efe41ffff7e96af30fe6a49116", func := "loop.example/g00943/laws.FnExactPermutationBy", spec := "fnExactPermutationBy", unfollowed := true, recurses := true, apart := false, narrowed := true }
def FnExactPermutationByUptoSaid : Prop := fnExactPermutationByUptoRow.holds Try.pinned (OpenSpec.upto fnExactPermutationBySpec)

/-- 'laws.FnExactColourGroup', WHERE WHAT IT READS IS OF BULK AT MOST 1048576: true; the input reads as it did. -/
def fnExactColourGroupUptoRow : OpenClaim := { program := "ytahkbhmhaddbpaa", sum := "4bfeb224ac10a2610361f71a3a5d0e24779497efe41ffff7e96af30fe6a49116", func := "loop.example/g00943/laws.FnExactColourGroup", spec := "fnExactColourGroup", unfollowed := true, recurses := true, apart := false, narrowed := true }
def FnExactColourGroupUptoSaid : Prop := fnExactColourGroupUptoRow.holds Try.pinned (OpenSpec.upto fnExactColourGroupSpec)

/-- 'laws.FnExactTurnTile', WHERE WHAT IT READS IS OF BULK AT MOST 1048576: true; the input reads as it did. -/
def fnExactTurnTileUptoRow : OpenClaim := { program := "ytahkbhmhaddbpaa", sum := "4bfeb224ac10a2610361f71a3a5d0e24779497efe41ffff7e96af30fe6a49116", func := "loop.example/g00943/laws.FnExactTurnTile", spec := "fnExactTurnTile", unfollowed := true, recurses := true, apart := false, narrowed := true }
def FnExactTurnTileUptoSaid : Prop := fnExactTurnTileUptoRow.holds Try.pinned (OpenSpec.upto fnExactTurnTileSpec)

/-- 'laws.FnExactCanonicalTile', WHERE WHAT IT READS IS OF BULK AT MOST 1048576: true; the input reads as it did. -/
def fnExactCanonicalTileUptoRow : OpenClaim := { program := "ytahkbhmhaddbpaa", sum := "4bfeb224ac10a2610361f71a3a5d0e24779497efe41ffff7e96af30fe6a49116", func := "loop.example/g00943/laws.FnExactCanonicalTile", spec := "fnExactCanonicalTile", unfollowed := true, recurses := true, apart := false, narrowed := true }
def FnExactCanonicalTileUptoSaid : Prop := fnExactCanonicalTileUptoRow.holds Try.pinned (OpenSpec.upto fnExactCanonicalTileSpec)

end Rows
end Go.Proofs.Ytahkbhmhaddbpaa
