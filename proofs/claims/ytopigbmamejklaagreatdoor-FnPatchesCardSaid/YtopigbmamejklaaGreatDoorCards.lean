/-
  DERIVED. GIVEN WITH THE SEED: THE CARDS: each row of YtopigbmamejklaaGreatDoorRows.lean that lists a variable, with what it lists TIED to the program's text (the seventh form; the later family's looks); each row that meets fmt, with fmt's text TOLD by the authors' own Lean function (tested against real Go, not proved from fmt's source: count such statements apart). THE CARD IS WHAT COUNTS. Prove the row's statement (the work); the ties are given (YtopigbmamejklaaGreatDoorTie.lean); close each card by the builder's one call (the guide's Derived/Test/ToyasCard.lean, 'card_holds'). Laid BY PROGRAM, IN A SANDBOX (cutbox-door.mjs). By AI agents, Wed Nov 11 2026. No macro, syntax, notation, axiom, sorry.
-/
import Derived.Test.YtopigbmamejklaaGreatDoorRows
import GoSem.ClaimSeven
namespace Go.Proofs.YtopigbmamejklaaGreatDoor
namespace Rows

/-- THE TIED CARD OF 'laws.FnExactNameOfPattern'. -/
def fnExactNameOfPatternCard : Claim7 := { stood := { row := fnExactNameOfPatternRow, standIns := [], harness := (true, "c5c992576dca5cb4e200aece11c24246a995101cccbabd754b5af7f9db1bff6f"), looks := false }, kinds := [], alts := [], laidByText := true, laidKinds := [.data, .data, .data], laidTests := true, laidLooks := .later }
def FnExactNameOfPatternCardSaid : Prop := Claim7.holds Tryz.pinned (.plain (OpenSpec.ofChange fnExactNameOfPatternSpec)) fnExactNameOfPatternCard

/-- THE TIED CARD OF 'laws.FnPatches'. -/
def fnPatchesCard : Claim7 := { stood := { row := fnPatchesRow, standIns := [], harness := (true, "c5c992576dca5cb4e200aece11c24246a995101cccbabd754b5af7f9db1bff6f"), looks := false }, kinds := [], alts := [], laidByText := true, laidKinds := [.data, .data, .data, .data, .pinned], laidTests := true, laidLooks := .later }
def FnPatchesCardSaid : Prop := Claim7.holds Tryz.pinned (.plain (OpenSpec.ofChange fnPatchesSpec)) fnPatchesCard

/-- THE SECOND FORM's CARD OF 'laws.FnExactNameOfPattern'. -/
def fnExactNameOfPatternUptoCard : Claim7 := { stood := { row := fnExactNameOfPatternUptoRow, standIns := [], harness := (true, "c5c992576dca5cb4e200aece11c24246a995101cccbabd754b5af7f9db1bff6f"), looks := false }, kinds := [], alts := [], laidByText := true, laidKinds := [.data, .data, .data], laidTests := true, laidLooks := .later }
def FnExactNameOfPatternUptoCardSaid : Prop := Claim7.holds Tryz.pinned (.plain (OpenSpec.upto fnExactNameOfPatternSpec)) fnExactNameOfPatternUptoCard

/-- THE SECOND FORM's CARD OF 'laws.FnPatches'. -/
def fnPatchesUptoCard : Claim7 := { stood := { row := fnPatchesUptoRow, standIns := [], harness := (true, "c5c992576dca5cb4e200aece11c24246a995101cccbabd754b5af7f9db1bff6f"), looks := false }, kinds := [], alts := [], laidByText := true, laidKinds := [.data, .data, .data, .data, .pinned], laidTests := true, laidLooks := .later }
def FnPatchesUptoCardSaid : Prop := Claim7.holds Tryz.pinned (.plain (OpenSpec.upto fnPatchesSpec)) fnPatchesUptoCard
end Rows
end Go.Proofs.YtopigbmamejklaaGreatDoor
