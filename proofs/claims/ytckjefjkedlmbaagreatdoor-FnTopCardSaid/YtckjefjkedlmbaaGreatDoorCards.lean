/-
  DERIVED. GIVEN WITH THE SEED: THE CARDS: each row of YtckjefjkedlmbaaGreatDoorRows.lean that lists a variable, with what it lists TIED to the program's text (the seventh form; the later family's looks); each row that meets fmt, with fmt's text TOLD by the authors' own Lean function (tested against real Go, not proved from fmt's source: count such statements apart). THE CARD IS WHAT COUNTS. Prove the row's statement (the work); the ties are given (YtckjefjkedlmbaaGreatDoorTie.lean); close each card by the builder's one call (the guide's Derived/Test/ToyasCard.lean, 'card_holds'). Laid BY PROGRAM, IN A SANDBOX (cutbox-door.mjs). By AI agents, Wed Nov 11 2026. No macro, syntax, notation, axiom, sorry.
-/
import Derived.Test.YtckjefjkedlmbaaGreatDoorRows
import GoSem.ClaimSeven
namespace Go.Proofs.YtckjefjkedlmbaaGreatDoor
namespace Rows

/-- THE TIED CARD OF 'laws.FnEveryPattern'. -/
def fnEveryPatternCard : Claim7 := { stood := { row := fnEveryPatternRow, standIns := [], harness := (true, "cd427a0103ec14b6c0b39958ed9f045087a8a404ef941c7c592b08afcc8a5770"), looks := false }, kinds := [], alts := [], laidByText := true, laidKinds := [.data, .data, .data], laidTests := true, laidLooks := .later }
def FnEveryPatternCardSaid : Prop := Claim7.holds Tryz.pinned (.plain (OpenSpec.ofChange fnEveryPatternSpec)) fnEveryPatternCard

/-- THE TIED CARD OF 'laws.FnNames'. -/
def fnNamesCard : Claim7 := { stood := { row := fnNamesRow, standIns := [], harness := (true, "cd427a0103ec14b6c0b39958ed9f045087a8a404ef941c7c592b08afcc8a5770"), looks := false }, kinds := [], alts := [], laidByText := true, laidKinds := [.data, .data, .data], laidTests := true, laidLooks := .later }
def FnNamesCardSaid : Prop := Claim7.holds Tryz.pinned (.plain (OpenSpec.ofChange fnNamesSpec)) fnNamesCard

/-- THE TIED CARD OF 'laws.FnTop'. -/
def fnTopCard : Claim7 := { stood := { row := fnTopRow, standIns := [], harness := (true, "cd427a0103ec14b6c0b39958ed9f045087a8a404ef941c7c592b08afcc8a5770"), looks := false }, kinds := [], alts := [], laidByText := true, laidKinds := [.data, .data, .data], laidTests := true, laidLooks := .later }
def FnTopCardSaid : Prop := Claim7.holds Tryz.pinned (.plain (OpenSpec.ofChange fnTopSpec)) fnTopCard

/-- THE SECOND FORM's CARD OF 'laws.FnEveryPattern'. -/
def fnEveryPatternUptoCard : Claim7 := { stood := { row := fnEveryPatternUptoRow, standIns := [], harness := (true, "cd427a0103ec14b6c0b39958ed9f045087a8a404ef941c7c592b08afcc8a5770"), looks := false }, kinds := [], alts := [], laidByText := true, laidKinds := [.data, .data, .data], laidTests := true, laidLooks := .later }
def FnEveryPatternUptoCardSaid : Prop := Claim7.holds Tryz.pinned (.plain (OpenSpec.upto fnEveryPatternSpec)) fnEveryPatternUptoCard

/-- THE SECOND FORM's CARD OF 'laws.FnNames'. -/
def fnNamesUptoCard : Claim7 := { stood := { row := fnNamesUptoRow, standIns := [], harness := (true, "cd427a0103ec14b6c0b39958ed9f045087a8a404ef941c7c592b08afcc8a5770"), looks := false }, kinds := [], alts := [], laidByText := true, laidKinds := [.data, .data, .data], laidTests := true, laidLooks := .later }
def FnNamesUptoCardSaid : Prop := Claim7.holds Tryz.pinned (.plain (OpenSpec.upto fnNamesSpec)) fnNamesUptoCard

/-- THE SECOND FORM's CARD OF 'laws.FnTop'. -/
def fnTopUptoCard : Claim7 := { stood := { row := fnTopUptoRow, standIns := [], harness := (true, "cd427a0103ec14b6c0b39958ed9f045087a8a404ef941c7c592b08afcc8a5770"), looks := false }, kinds := [], alts := [], laidByText := true, laidKinds := [.data, .data, .data], laidTests := true, laidLooks := .later }
def FnTopUptoCardSaid : Prop := Claim7.holds Tryz.pinned (.plain (OpenSpec.upto fnTopSpec)) fnTopUptoCard
end Rows
end Go.Proofs.YtckjefjkedlmbaaGreatDoor
