/-
  No cell of these rows narrows 'for every input' (looked for: loops, veiled, ifaces, maps, wideKeys, modest, calm, conditions, laid).
  DERIVED. THE GIVEN ROWS OF THIS SEAT. 8 by the template 'for every input the law returns true; each argument reads behind the call as it read before'; 0 by the template 'total and deterministic' (their statements: YtjnfbemiondekaaTotals.lean).
  GIVEN WITH THE SEED: the statements are not yours to turn. If you find one false, say at which input.
  Laid BY PROGRAM, IN A SANDBOX (cutbox-rows.mjs): the forced cells as the released guide's own fill.sh prints them over the translation 7cc5d6bee4d817d1… (all of the seat's roots in one cut). By AI agents, Wed Nov 11 2026. No macro, syntax, notation, axiom, sorry.
-/
import Derived.Test.YtjnfbemiondekaaChecked
import GoSem.Claim
import GoSem.ClaimJoined
import GoSem.ClaimMapViews
import Derived.JoinedTies
import Derived.KernelRfl
namespace Go.Proofs.Ytjnfbemiondekaa
/- THE CELL 'sum', in the pinned program and in every row, IS THE sha256 OF THE DUMP (.gsa) THAT YtjnfbemiondekaaProg.lean LOADS. Nothing in Lean hashes anything: it is a label: what it is worth is what the hold of that sum in a sandbox is worth. -/
noncomputable def Try.pinned : Pinned := { name := "ytjnfbemiondekaa", sum := "7cc5d6bee4d817d171a1aacd0d349a8b9545ddbf2e0f72d3462ad30cc5a05c9a", checked := Try.checked }
namespace Rows
def none {H : Type} : Left H := { results := [], args := [] }

/-- 'laws.FnExactKeepingGroup': WHATEVER THE INPUT: true; the input reads as it did. -/
def fnExactKeepingGroupSpec : ChangeSpec := { name := "fnExactKeepingGroup", fn := fun _ => fun
  | [d] => { results := [.lit (.bool true)], args := [d] }
  | _ => none }
def fnExactKeepingGroupRow : OpenClaim := { program := "ytjnfbemiondekaa", sum := "7cc5d6bee4d817d171a1aacd0d349a8b9545ddbf2e0f72d3462ad30cc5a05c9a", func := "loop.example/g00943/laws.FnExactKeepingGroup", spec := "fnExactKeepingGroup", unfollowed := true, recurses := true, apart := false }
def FnExactKeepingGroupSaid : Prop := fnExactKeepingGroupRow.holds Try.pinned (OpenSpec.ofChange fnExactKeepingGroupSpec)

/-- ITS FALSE NEIGHBOUR: 'it returns false'. Refute it at one input. -/
def fnExactKeepingGroupWrong : ChangeSpec := { name := "fnExactKeepingGroup", fn := fun _ => fun
  | [d] => { results := [.lit (.bool false)], args := [d] }
  | _ => none }
def FnExactKeepingGroupWrongFalsely : Prop := fnExactKeepingGroupRow.holds Try.pinned (OpenSpec.ofChange fnExactKeepingGroupWrong)

/-- 'laws.FnExactSettledLattices': WHATEVER THE INPUT: true; the input reads as it did. -/
def fnExactSettledLatticesSpec : ChangeSpec := { name := "fnExactSettledLattices", fn := fun _ => fun
  | [d] => { results := [.lit (.bool true)], args := [d] }
  | _ => none }
def fnExactSettledLatticesRow : OpenClaim := { program := "ytjnfbemiondekaa", sum := "7cc5d6bee4d817d171a1aacd0d349a8b9545ddbf2e0f72d3462ad30cc5a05c9a", func := "loop.example/g00943/laws.FnExactSettledLattices", spec := "fnExactSettledLattices", unfollowed := true, recurses := true, apart := false }
def FnExactSettledLatticesSaid : Prop := fnExactSettledLatticesRow.holds Try.pinned (OpenSpec.ofChange fnExactSettledLatticesSpec)

/-- ITS FALSE NEIGHBOUR: 'it returns false'. Refute it at one input. -/
def fnExactSettledLatticesWrong : ChangeSpec := { name := "fnExactSettledLattices", fn := fun _ => fun
  | [d] => { results := [.lit (.bool false)], args := [d] }
  | _ => none }
def FnExactSettledLatticesWrongFalsely : Prop := fnExactSettledLatticesRow.holds Try.pinned (OpenSpec.ofChange fnExactSettledLatticesWrong)

/-- 'laws.FnExactMotionBetween': WHATEVER THE INPUT: true; the input reads as it did. -/
def fnExactMotionBetweenSpec : ChangeSpec := { name := "fnExactMotionBetween", fn := fun _ => fun
  | [d1, d2] => { results := [.lit (.bool true)], args := [d1, d2] }
  | _ => none }
def fnExactMotionBetweenRow : OpenClaim := { program := "ytjnfbemiondekaa", sum := "7cc5d6bee4d817d171a1aacd0d349a8b9545ddbf2e0f72d3462ad30cc5a05c9a", func := "loop.example/g00943/laws.FnExactMotionBetween", spec := "fnExactMotionBetween", unfollowed := true, recurses := true, apart := false }
def FnExactMotionBetweenSaid : Prop := fnExactMotionBetweenRow.holds Try.pinned (OpenSpec.ofChange fnExactMotionBetweenSpec)

/-- ITS FALSE NEIGHBOUR: 'it returns false'. Refute it at one input. -/
def fnExactMotionBetweenWrong : ChangeSpec := { name := "fnExactMotionBetween", fn := fun _ => fun
  | [d1, d2] => { results := [.lit (.bool false)], args := [d1, d2] }
  | _ => none }
def FnExactMotionBetweenWrongFalsely : Prop := fnExactMotionBetweenRow.holds Try.pinned (OpenSpec.ofChange fnExactMotionBetweenWrong)

/-- 'laws.FnExactPermutationBy': WHATEVER THE INPUT: true; the input reads as it did. -/
def fnExactPermutationBySpec : ChangeSpec := { name := "fnExactPermutationBy", fn := fun _ => fun
  | [d1, d2] => { results := [.lit (.bool true)], args := [d1, d2] }
  | _ => none }
def fnExactPermutationByRow : OpenClaim := { program := "ytjnfbemiondekaa", sum := "7cc5d6bee4d817d171a1aacd0d349a8b9545ddbf2e0f72d3462ad30cc5a05c9a", func := "loop.example/g00943/laws.FnExactPermutationBy", spec := "fnExactPermutationBy", unfollowed := true, recurses := true, apart := false }
def FnExactPermutationBySaid : Prop := fnExactPermutationByRow.holds Try.pinned (OpenSpec.ofChange fnExactPermutationBySpec)

/-- ITS FALSE NEIGHBOUR: 'it returns false'. Refute it at one input. -/
def fnExactPermutationByWrong : ChangeSpec := { name := "fnExactPermutationBy", fn := fun _ => fun
  | [d1, d2] => { results := [.lit (.bool false)], args := [d1, d2] }
  | _ => none }
def FnExactPermutationByWrongFalsely : Prop := fnExactPermutationByRow.holds Try.pinned (OpenSpec.ofChange fnExactPermutationByWrong)

/-- 'laws.FnExactColourGroup': WHATEVER THE INPUT: true; the input reads as it did. -/
def fnExactColourGroupSpec : ChangeSpec := { name := "fnExactColourGroup", fn := fun _ => fun
  | [d] => { results := [.lit (.bool true)], args := [d] }
  | _ => none }
def fnExactColourGroupRow : OpenClaim := { program := "ytjnfbemiondekaa", sum := "7cc5d6bee4d817d171a1aacd0d349a8b9545ddbf2e0f72d3462ad30cc5a05c9a", func := "loop.example/g00943/laws.FnExactColourGroup", spec := "fnExactColourGroup", unfollowed := true, recurses := true, apart := false }
def FnExactColourGroupSaid : Prop := fnExactColourGroupRow.holds Try.pinned (OpenSpec.ofChange fnExactColourGroupSpec)

/-- ITS FALSE NEIGHBOUR: 'it returns false'. Refute it at one input. -/
def fnExactColourGroupWrong : ChangeSpec := { name := "fnExactColourGroup", fn := fun _ => fun
  | [d] => { results := [.lit (.bool false)], args := [d] }
  | _ => none }
def FnExactColourGroupWrongFalsely : Prop := fnExactColourGroupRow.holds Try.pinned (OpenSpec.ofChange fnExactColourGroupWrong)

/-- 'laws.FnExactCanonicalPattern': WHATEVER THE INPUT: true; the input reads as it did. -/
def fnExactCanonicalPatternSpec : ChangeSpec := { name := "fnExactCanonicalPattern", fn := fun _ => fun
  | [d] => { results := [.lit (.bool true)], args := [d] }
  | _ => none }
def fnExactCanonicalPatternRow : OpenClaim := { program := "ytjnfbemiondekaa", sum := "7cc5d6bee4d817d171a1aacd0d349a8b9545ddbf2e0f72d3462ad30cc5a05c9a", func := "loop.example/g00943/laws.FnExactCanonicalPattern", spec := "fnExactCanonicalPattern", unfollowed := true, recurses := true, apart := false }
def FnExactCanonicalPatternSaid : Prop := fnExactCanonicalPatternRow.holds Try.pinned (OpenSpec.ofChange fnExactCanonicalPatternSpec)

/-- ITS FALSE NEIGHBOUR: 'it returns false'. Refute it at one input. -/
def fnExactCanonicalPatternWrong : ChangeSpec := { name := "fnExactCanonicalPattern", fn := fun _ => fun
  | [d] => { results := [.lit (.bool false)], args := [d] }
  | _ => none }
def FnExactCanonicalPatternWrongFalsely : Prop := fnExactCanonicalPatternRow.holds Try.pinned (OpenSpec.ofChange fnExactCanonicalPatternWrong)

/-- 'laws.FnExactAreEquivalent': WHATEVER THE INPUT: true; the input reads as it did. -/
def fnExactAreEquivalentSpec : ChangeSpec := { name := "fnExactAreEquivalent", fn := fun _ => fun
  | [d1, d2] => { results := [.lit (.bool true)], args := [d1, d2] }
  | _ => none }
def fnExactAreEquivalentRow : OpenClaim := { program := "ytjnfbemiondekaa", sum := "7cc5d6bee4d817d171a1aacd0d349a8b9545ddbf2e0f72d3462ad30cc5a05c9a", func := "loop.example/g00943/laws.FnExactAreEquivalent", spec := "fnExactAreEquivalent", unfollowed := true, recurses := true, apart := false }
def FnExactAreEquivalentSaid : Prop := fnExactAreEquivalentRow.holds Try.pinned (OpenSpec.ofChange fnExactAreEquivalentSpec)

/-- ITS FALSE NEIGHBOUR: 'it returns false'. Refute it at one input. -/
def fnExactAreEquivalentWrong : ChangeSpec := { name := "fnExactAreEquivalent", fn := fun _ => fun
  | [d1, d2] => { results := [.lit (.bool false)], args := [d1, d2] }
  | _ => none }
def FnExactAreEquivalentWrongFalsely : Prop := fnExactAreEquivalentRow.holds Try.pinned (OpenSpec.ofChange fnExactAreEquivalentWrong)

/-- 'laws.FnEquivalentPatterns': WHATEVER THE INPUT: true; the input reads as it did. -/
def fnEquivalentPatternsSpec : ChangeSpec := { name := "fnEquivalentPatterns", fn := fun _ => fun
  | [d1, d2] => { results := [.lit (.bool true)], args := [d1, d2] }
  | _ => none }
def fnEquivalentPatternsRow : OpenClaim := { program := "ytjnfbemiondekaa", sum := "7cc5d6bee4d817d171a1aacd0d349a8b9545ddbf2e0f72d3462ad30cc5a05c9a", func := "loop.example/g00943/laws.FnEquivalentPatterns", spec := "fnEquivalentPatterns", unfollowed := true, recurses := true, apart := false }
def FnEquivalentPatternsSaid : Prop := fnEquivalentPatternsRow.holds Try.pinned (OpenSpec.ofChange fnEquivalentPatternsSpec)

/-- ITS FALSE NEIGHBOUR: 'it returns false'. Refute it at one input. -/
def fnEquivalentPatternsWrong : ChangeSpec := { name := "fnEquivalentPatterns", fn := fun _ => fun
  | [d1, d2] => { results := [.lit (.bool false)], args := [d1, d2] }
  | _ => none }
def FnEquivalentPatternsWrongFalsely : Prop := fnEquivalentPatternsRow.holds Try.pinned (OpenSpec.ofChange fnEquivalentPatternsWrong)

/- THE SECOND FORM. 'bulk': how many values and letters a reading holds, each counted each time it is reached (what is shared counts as often as it is met; a slice's spare places count too). A statement '..UptoSaid' is the law's where the arguments, and the package variables that the reading takes, are together of bulk at most 1048576: NARROWER than '..Said'. Prove '..Said' where nothing that the law and all that it calls make is longer than what came in: it says more and counts as full. Else prove '..UptoSaid'. A law counts once. -/
mutual
def uptoBulk {H : Type} : DataW H → Nat
  | .lit (.string bytes) => bytes.length + 1
  | .lit _ => 1
  | .nil => 1
  | .ptr d => uptoBulk d + 1
  | .slice elems spare => uptoBulkAll elems + uptoBulkAll spare + 1
  | .agg parts => uptoBulkAll parts + 1
  | .iface _ d => uptoBulk d + 1
  | .map entries => uptoBulkEntries entries + 1
  | .held _ => 1
def uptoBulkAll {H : Type} : List (DataW H) → Nat
  | [] => 0
  | d :: r => uptoBulk d + uptoBulkAll r
def uptoBulkEntries {H : Type} : List (Lit × DataW H) → Nat
  | [] => 0
  | x :: r => uptoBulkEntry x + uptoBulkEntries r
def uptoBulkEntry {H : Type} : Lit × DataW H → Nat
  | (.string bytes, d) => bytes.length + uptoBulk d + 1
  | (_, d) => uptoBulk d + 1
 end
def uptoSmall : (H : Type) → List (DataW H) → Bool := fun _ ds => decide (uptoBulkAll ds ≤ 1048576)
def OpenSpec.upto (s : _root_.Go.ChangeSpec) : _root_.Go.OpenSpec := { _root_.Go.OpenSpec.ofChange s with cond := some uptoSmall }

/-- 'laws.FnExactKeepingGroup', WHERE WHAT IT READS IS OF BULK AT MOST 1048576: true; the input reads as it did. -/
def fnExactKeepingGroupUptoRow : OpenClaim := { program := "ytjnfbemiondekaa", sum := "7cc5d6bee4d817d171a1aacd0d349a8b9545ddbf2e0f72d3462ad30cc5a05c9a", func := "loop.example/g00943/laws.FnExactKeepingGroup", spec := "fnExactKeepingGroup", unfollowed := true, recurses := true, apart := false, narrowed := true }
def FnExactKeepingGroupUptoSaid : Prop := fnExactKeepingGroupUptoRow.holds Try.pinned (OpenSpec.upto fnExactKeepingGroupSpec)

/-- 'laws.FnExactSettledLattices', WHERE WHAT IT READS IS OF BULK AT MOST 1048576: true; the input reads as it did. -/
def fnExactSettledLatticesUptoRow : OpenClaim := { program := "ytjnfbemiondekaa", sum := "7cc5d6bee4d817d171a1aacd0d349a8b9545ddbf2e0f72d3462ad30cc5a05c9a", func := "loop.example/g00943/laws.FnExactSettledLattices", spec := "fnExactSettledLattices", unfollowed := true, recurses := true, apart := false, narrowed := true }
def FnExactSettledLatticesUptoSaid : Prop := fnExactSettledLatticesUptoRow.holds Try.pinned (OpenSpec.upto fnExactSettledLatticesSpec)

/-- 'laws.FnExactMotionBetween', WHERE WHAT IT READS IS OF BULK AT MOST 1048576: true; the input reads as it did. -/
def fnExactMotionBetweenUptoRow : OpenClaim := { program := "ytjnfbemiondekaa", sum := "7cc5d6bee4d817d171a1aacd0d349a8b9545ddbf2e0f72d3462ad30cc5a05c9a", func := "loop.example/g00943/laws.FnExactMotionBetween", spec := "fnExactMotionBetween", unfollowed := true, recurses := true, apart := false, narrowed := true }
def FnExactMotionBetweenUptoSaid : Prop := fnExactMotionBetweenUptoRow.holds Try.pinned (OpenSpec.upto fnExactMotionBetweenSpec)

/-- 'laws.FnExactPermutationBy', WHERE WHAT IT READS IS OF BULK AT MOST 1048576: true; the input reads as it did. -/
def fnExactPermutationByUptoRow : OpenClaim := { program := "ytjnfbemiondekaa", sum := "7cc5d6bee4d817d171a1aacd0d349a8b9545ddbf2e0f72d3462ad30cc5a05c9a", func := "loop.example/g00943/laws.FnExactPermutationBy", spec := "fnExactPermutationBy", unfollowed := true, recurses := true, apart := false, narrowed := true }
def FnExactPermutationByUptoSaid : Prop := fnExactPermutationByUptoRow.holds Try.pinned (OpenSpec.upto fnExactPermutationBySpec)

/-- 'laws.FnExactColourGroup', WHERE WHAT IT READS IS OF BULK AT MOST 1048576: true; the input reads as it did. -/
def fnExactColourGroupUptoRow : OpenClaim := { program := "ytjnfbemiondekaa", sum := "7cc5d6bee4d817d171a1aacd0d349a8b9545ddbf2e0f72d3462ad30cc5a05c9a", func := "loop.example/g00943/laws.FnExactColourGroup", spec := "fnExactColourGroup", unfollowed := true, recurses := true, apart := false, narrowed := true }
def FnExactColourGroupUptoSaid : Prop := fnExactColourGroupUptoRow.holds Try.pinned (OpenSpec.upto fnExactColourGroupSpec)

/-- 'laws.FnExactCanonicalPattern', WHERE WHAT IT READS IS OF BULK AT MOST 1048576: true; the input reads as it did. -/
def fnExactCanonicalPatternUptoRow : OpenClaim := { program := "ytjnfbemiondekaa", sum := "7cc5d6bee4d817d171a1aacd0d349a8b9545ddbf2e0f72d3462ad30cc5a05c9a", func := "loop.example/g00943/laws.FnExactCanonicalPattern", spec := "fnExactCanonicalPattern", unfollowed := true, recurses := true, apart := false, narrowed := true }
def FnExactCanonicalPatternUptoSaid : Prop := fnExactCanonicalPatternUptoRow.holds Try.pinned (OpenSpec.upto fnExactCanonicalPatternSpec)

/-- 'laws.FnExactAreEquivalent', WHERE WHAT IT READS IS OF BULK AT MOST 1048576: true; the input reads as it did. -/
def fnExactAreEquivalentUptoRow : OpenClaim := { program := "ytjnfbemiondekaa", sum := "7cc5d6bee4d817d171a1aacd0d349a8b9545ddbf2e0f72d3462ad30cc5a05c9a", func := "loop.example/g00943/laws.FnExactAreEquivalent", spec := "fnExactAreEquivalent", unfollowed := true, recurses := true, apart := false, narrowed := true }
def FnExactAreEquivalentUptoSaid : Prop := fnExactAreEquivalentUptoRow.holds Try.pinned (OpenSpec.upto fnExactAreEquivalentSpec)

/-- 'laws.FnEquivalentPatterns', WHERE WHAT IT READS IS OF BULK AT MOST 1048576: true; the input reads as it did. -/
def fnEquivalentPatternsUptoRow : OpenClaim := { program := "ytjnfbemiondekaa", sum := "7cc5d6bee4d817d171a1aacd0d349a8b9545ddbf2e0f72d3462ad30cc5a05c9a", func := "loop.example/g00943/laws.FnEquivalentPatterns", spec := "fnEquivalentPatterns", unfollowed := true, recurses := true, apart := false, narrowed := true }
def FnEquivalentPatternsUptoSaid : Prop := fnEquivalentPatternsUptoRow.holds Try.pinned (OpenSpec.upto fnEquivalentPatternsSpec)

end Rows
end Go.Proofs.Ytjnfbemiondekaa
