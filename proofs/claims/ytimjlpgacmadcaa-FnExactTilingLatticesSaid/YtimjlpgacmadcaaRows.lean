/-
  No cell of these rows narrows 'for every input' (looked for: loops, veiled, ifaces, maps, wideKeys, modest, calm, conditions, laid).
  DERIVED. THE GIVEN ROWS OF THIS SEAT. 4 by the template 'for every input the law returns true; each argument reads behind the call as it read before'; 0 by the template 'total and deterministic' (their statements: YtimjlpgacmadcaaTotals.lean).
  GIVEN WITH THE SEED: the statements are not yours to turn. If you find one false, say at which input.
  Laid BY PROGRAM, IN A SANDBOX (cutbox-rows.mjs): the forced cells as the released guide's own fill.sh prints them over the translation aaaf2d11552718ed… (all of the seat's roots in one cut). By AI agents, Wed Nov 11 2026. No macro, syntax, notation, axiom, sorry.
-/
import Derived.Test.YtimjlpgacmadcaaChecked
import GoSem.Claim
import GoSem.ClaimJoined
import GoSem.ClaimMapViews
import Derived.JoinedTies
import Derived.KernelRfl
namespace Go.Proofs.Ytimjlpgacmadcaa
/- THE CELL 'sum', in the pinned program and in every row, IS THE sha256 OF THE DUMP (.gsa) THAT YtimjlpgacmadcaaProg.lean LOADS. Nothing in Lean hashes anything: it is a label: what it is worth is what the hold of that sum in a sandbox is worth. -/
noncomputable def Try.pinned : Pinned := { name := "ytimjlpgacmadcaa", sum := "aaaf2d11552718ed5cba8a122161b94a090e7b2b366123e246a4395535dd9a32", checked := Try.checked }
namespace Rows
def none {H : Type} : Left H := { results := [], args := [] }

/-- 'laws.FnExactTilesBy': WHATEVER THE INPUT: true; the input reads as it did. -/
def fnExactTilesBySpec : ChangeSpec := { name := "fnExactTilesBy", fn := fun _ => fun
  | [d1, d2] => { results := [.lit (.bool true)], args := [d1, d2] }
  | _ => none }
def fnExactTilesByRow : OpenClaim := { program := "ytimjlpgacmadcaa", sum := "aaaf2d11552718ed5cba8a122161b94a090e7b2b366123e246a4395535dd9a32", func := "loop.example/g00943/laws.FnExactTilesBy", spec := "fnExactTilesBy", plainKeys := false, apart := false }
def FnExactTilesBySaid : Prop := fnExactTilesByRow.holds Try.pinned (OpenSpec.ofChange fnExactTilesBySpec)

/-- ITS FALSE NEIGHBOUR: 'it returns false'. Refute it at one input. -/
def fnExactTilesByWrong : ChangeSpec := { name := "fnExactTilesBy", fn := fun _ => fun
  | [d1, d2] => { results := [.lit (.bool false)], args := [d1, d2] }
  | _ => none }
def FnExactTilesByWrongFalsely : Prop := fnExactTilesByRow.holds Try.pinned (OpenSpec.ofChange fnExactTilesByWrong)

/-- 'laws.FnExactTilingLattices': WHATEVER THE INPUT: true; the input reads as it did. -/
def fnExactTilingLatticesSpec : ChangeSpec := { name := "fnExactTilingLattices", fn := fun _ => fun
  | [d] => { results := [.lit (.bool true)], args := [d] }
  | _ => none }
def fnExactTilingLatticesRow : OpenClaim := { program := "ytimjlpgacmadcaa", sum := "aaaf2d11552718ed5cba8a122161b94a090e7b2b366123e246a4395535dd9a32", func := "loop.example/g00943/laws.FnExactTilingLattices", spec := "fnExactTilingLattices", unfollowed := true, recurses := true, plainKeys := false, apart := false }
def FnExactTilingLatticesSaid : Prop := fnExactTilingLatticesRow.holds Try.pinned (OpenSpec.ofChange fnExactTilingLatticesSpec)

/-- ITS FALSE NEIGHBOUR: 'it returns false'. Refute it at one input. -/
def fnExactTilingLatticesWrong : ChangeSpec := { name := "fnExactTilingLattices", fn := fun _ => fun
  | [d] => { results := [.lit (.bool false)], args := [d] }
  | _ => none }
def FnExactTilingLatticesWrongFalsely : Prop := fnExactTilingLatticesRow.holds Try.pinned (OpenSpec.ofChange fnExactTilingLatticesWrong)

/-- 'laws.FnExactTurnTile': WHATEVER THE INPUT: true; the input reads as it did. -/
def fnExactTurnTileSpec : ChangeSpec := { name := "fnExactTurnTile", fn := fun _ => fun
  | [d1, d2] => { results := [.lit (.bool true)], args := [d1, d2] }
  | _ => none }
def fnExactTurnTileRow : OpenClaim := { program := "ytimjlpgacmadcaa", sum := "aaaf2d11552718ed5cba8a122161b94a090e7b2b366123e246a4395535dd9a32", func := "loop.example/g00943/laws.FnExactTurnTile", spec := "fnExactTurnTile", unfollowed := true, recurses := true, plainKeys := false, apart := false }
def FnExactTurnTileSaid : Prop := fnExactTurnTileRow.holds Try.pinned (OpenSpec.ofChange fnExactTurnTileSpec)

/-- ITS FALSE NEIGHBOUR: 'it returns false'. Refute it at one input. -/
def fnExactTurnTileWrong : ChangeSpec := { name := "fnExactTurnTile", fn := fun _ => fun
  | [d1, d2] => { results := [.lit (.bool false)], args := [d1, d2] }
  | _ => none }
def FnExactTurnTileWrongFalsely : Prop := fnExactTurnTileRow.holds Try.pinned (OpenSpec.ofChange fnExactTurnTileWrong)

/-- 'laws.FnExactCanonicalTile': WHATEVER THE INPUT: true; the input reads as it did. -/
def fnExactCanonicalTileSpec : ChangeSpec := { name := "fnExactCanonicalTile", fn := fun _ => fun
  | [d] => { results := [.lit (.bool true)], args := [d] }
  | _ => none }
def fnExactCanonicalTileRow : OpenClaim := { program := "ytimjlpgacmadcaa", sum := "aaaf2d11552718ed5cba8a122161b94a090e7b2b366123e246a4395535dd9a32", func := "loop.example/g00943/laws.FnExactCanonicalTile", spec := "fnExactCanonicalTile", unfollowed := true, recurses := true, plainKeys := false, apart := false }
def FnExactCanonicalTileSaid : Prop := fnExactCanonicalTileRow.holds Try.pinned (OpenSpec.ofChange fnExactCanonicalTileSpec)

/-- ITS FALSE NEIGHBOUR: 'it returns false'. Refute it at one input. -/
def fnExactCanonicalTileWrong : ChangeSpec := { name := "fnExactCanonicalTile", fn := fun _ => fun
  | [d] => { results := [.lit (.bool false)], args := [d] }
  | _ => none }
def FnExactCanonicalTileWrongFalsely : Prop := fnExactCanonicalTileRow.holds Try.pinned (OpenSpec.ofChange fnExactCanonicalTileWrong)

/- THE SECOND FORM. 'bulk': how many values and letters a reading holds, each counted each time it is reached (what is shared counts as often as it is met; a slice's spare places count too). A statement '..UptoSaid' is the law's where the arguments, and the package variables that the reading takes, are together of bulk at most 1048576: NARROWER than '..Said'. Prove '..Said' where nothing that the law and all that it calls make is longer than what came in: it says more and counts as full. Else prove '..UptoSaid'. A law counts once. -/
mutual
def uptoBulk {H : Type} : DataW H → Nat
  | .lit (.string bytes) => bytes.length + 1
  | .lit _ => 1
  | .nil => 1
  | .ptr d => uptoBulk d + 1
  | .slice elems spare => uptoBulkAll elems + uptoBulkAll spare + 1
  | .agg parts => uptoBulkAll parts + 1
  | .iface _ d => uptoBulk d + 1
  | .map entries => uptoBulkEntries entries + 1
  | .held _ => 1
def uptoBulkAll {H : Type} : List (DataW H) → Nat
  | [] => 0
  | d :: r => uptoBulk d + uptoBulkAll r
def uptoBulkEntries {H : Type} : List (Lit × DataW H) → Nat
  | [] => 0
  | x :: r => uptoBulkEntry x + uptoBulkEntries r
def uptoBulkEntry {H : Type} : Lit × DataW H → Nat
  | (.string bytes, d) => bytes.length + uptoBulk d + 1
  | (_, d) => uptoBulk d + 1
 end
def uptoSmall : (H : Type) → List (DataW H) → Bool := fun _ ds => decide (uptoBulkAll ds ≤ 1048576)
def OpenSpec.upto (s : _root_.Go.ChangeSpec) : _root_.Go.OpenSpec := { _root_.Go.OpenSpec.ofChange s with cond := some uptoSmall }

/-- 'laws.FnExactTilesBy', WHERE WHAT IT READS IS OF BULK AT MOST 1048576: true; the input reads as it did. -/
def fnExactTilesByUptoRow : OpenClaim := { program := "ytimjlpgacmadcaa", sum := "aaaf2d11552718ed5cba8a122161b94a090e7b2b366123e246a4395535dd9a32", func := "loop.example/g00943/laws.FnExactTilesBy", spec := "fnExactTilesBy", plainKeys := false, apart := false, narrowed := true }
def FnExactTilesByUptoSaid : Prop := fnExactTilesByUptoRow.holds Try.pinned (OpenSpec.upto fnExactTilesBySpec)

/-- 'laws.FnExactTilingLattices', WHERE WHAT IT READS IS OF BULK AT MOST 1048576: true; the input reads as it did. -/
def fnExactTilingLatticesUptoRow : OpenClaim := { program := "ytimjlpgacmadcaa", sum := "aaaf2d11552718ed5cba8a122161b94a090e7b2b366123e246a4395535dd9a32", func := "loop.example/g00943/laws.FnExactTilingLattices", spec := "fnExactTilingLattices", unfollowed := true, recurses := true, plainKeys := false, apart := false, narrowed := true }
def FnExactTilingLatticesUptoSaid : Prop := fnExactTilingLatticesUptoRow.holds Try.pinned (OpenSpec.upto fnExactTilingLatticesSpec)

/-- 'laws.FnExactTurnTile', WHERE WHAT IT READS IS OF BULK AT MOST 1048576: true; the input reads as it did. -/
def fnExactTurnTileUptoRow : OpenClaim := { program := "ytimjlpgacmadcaa", sum := "aaaf2d11552718ed5cba8a122161b94a090e7b2b366123e246a4395535dd9a32", func := "loop.example/g00943/laws.FnExactTurnTile", spec := "fnExactTurnTile", unfollowed := true, recurses := true, plainKeys := false, apart := false, narrowed := true }
def FnExactTurnTileUptoSaid : Prop := fnExactTurnTileUptoRow.holds Try.pinned (OpenSpec.upto fnExactTurnTileSpec)

/-- 'laws.FnExactCanonicalTile', WHERE WHAT IT READS IS OF BULK AT MOST 1048576: true; the input reads as it did. -/
def fnExactCanonicalTileUptoRow : OpenClaim := { program := "ytimjlpgacmadcaa", sum := "aaaf2d11552718ed5cba8a122161b94a090e7b2b366123e246a4395535dd9a32", func := "loop.example/g00943/laws.FnExactCanonicalTile", spec := "fnExactCanonicalTile", unfollowed := true, recurses := true, plainKeys := false, apart := false, narrowed := true }
def FnExactCanonicalTileUptoSaid : Prop := fnExactCanonicalTileUptoRow.holds Try.pinned (OpenSpec.upto fnExactCanonicalTileSpec)

end Rows
end Go.Proofs.Ytimjlpgacmadcaa
