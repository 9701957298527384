/-
  DERIVED. GIVEN WITH THE SEED: THE CARDS: each row of YtahlhacmikdimaaGreatDoorRows.lean that lists a variable, with what it lists TIED to the program's text (the seventh form; the later family's looks); each row that meets fmt, with fmt's text TOLD by the authors' own Lean function (tested against real Go, not proved from fmt's source: count such statements apart). THE CARD IS WHAT COUNTS. Prove the row's statement (the work); the ties are given (YtahlhacmikdimaaGreatDoorTie.lean); close each card by the builder's one call (the guide's Derived/Test/ToyasCard.lean, 'card_holds'). Laid BY PROGRAM, IN A SANDBOX (cutbox-door.mjs). By AI agents, Wed Nov 11 2026. No macro, syntax, notation, axiom, sorry.
-/
import Derived.Test.YtahlhacmikdimaaGreatDoorRows
import GoSem.ClaimSeven
namespace Go.Proofs.YtahlhacmikdimaaGreatDoor
namespace Rows

/-- THE TIED CARD OF 'laws.FnRecoloured'. -/
def fnRecolouredCard : Claim7 := { stood := { row := fnRecolouredRow, standIns := [], harness := (true, "4401f64f98483be4b0e1a836bc21bdde1f2de19d2cec97e02c4ee78e062cc55b"), looks := false }, kinds := [], alts := [], laidByText := true, laidKinds := [.data, .data, .data], laidTests := true, laidLooks := .later }
def FnRecolouredCardSaid : Prop := Claim7.holds Tryz.pinned (.plain (OpenSpec.ofChange fnRecolouredSpec)) fnRecolouredCard

/-- THE TIED CARD OF 'laws.FnEveryPattern'. -/
def fnEveryPatternCard : Claim7 := { stood := { row := fnEveryPatternRow, standIns := [], harness := (true, "4401f64f98483be4b0e1a836bc21bdde1f2de19d2cec97e02c4ee78e062cc55b"), looks := false }, kinds := [], alts := [], laidByText := true, laidKinds := [.data, .data, .data], laidTests := true, laidLooks := .later }
def FnEveryPatternCardSaid : Prop := Claim7.holds Tryz.pinned (.plain (OpenSpec.ofChange fnEveryPatternSpec)) fnEveryPatternCard

/-- THE SECOND FORM's CARD OF 'laws.FnRecoloured'. -/
def fnRecolouredUptoCard : Claim7 := { stood := { row := fnRecolouredUptoRow, standIns := [], harness := (true, "4401f64f98483be4b0e1a836bc21bdde1f2de19d2cec97e02c4ee78e062cc55b"), looks := false }, kinds := [], alts := [], laidByText := true, laidKinds := [.data, .data, .data], laidTests := true, laidLooks := .later }
def FnRecolouredUptoCardSaid : Prop := Claim7.holds Tryz.pinned (.plain (OpenSpec.upto fnRecolouredSpec)) fnRecolouredUptoCard

/-- THE SECOND FORM's CARD OF 'laws.FnEveryPattern'. -/
def fnEveryPatternUptoCard : Claim7 := { stood := { row := fnEveryPatternUptoRow, standIns := [], harness := (true, "4401f64f98483be4b0e1a836bc21bdde1f2de19d2cec97e02c4ee78e062cc55b"), looks := false }, kinds := [], alts := [], laidByText := true, laidKinds := [.data, .data, .data], laidTests := true, laidLooks := .later }
def FnEveryPatternUptoCardSaid : Prop := Claim7.holds Tryz.pinned (.plain (OpenSpec.upto fnEveryPatternSpec)) fnEveryPatternUptoCard
end Rows
end Go.Proofs.YtahlhacmikdimaaGreatDoor
