/-
  DERIVED. GIVEN WITH THE SEED: THE CARDS: each row of YtimjhlpbpbohbaaDoorRows.lean that lists a variable, with what it lists TIED to the program's text (the seventh form; the later family's looks); each row that meets fmt, with fmt's text TOLD by the authors' own Lean function (tested against real Go, not proved from fmt's source: count such statements apart). THE CARD IS WHAT COUNTS. Prove the row's statement (the work); the ties are given (YtimjhlpbpbohbaaDoorTie.lean); close each card by the builder's one call (the guide's Derived/Test/ToyasCard.lean, 'card_holds'). Laid BY PROGRAM, IN A SANDBOX (cutbox-door.mjs). By AI agents, Wed Nov 11 2026. No macro, syntax, notation, axiom, sorry.
-/
import Derived.Test.YtimjhlpbpbohbaaDoorRows
import GoSem.ClaimSeven
namespace Go.Proofs.YtimjhlpbpbohbaaDoor
namespace Rows

/-- THE TIED CARD OF 'laws.FnExactReadTile'. -/
def fnExactReadTileCard : Claim7 := { stood := { row := fnExactReadTileRow, standIns := [], harness := (true, "03218c3ad9d7fff9b553a36fd86b95ad84140a60059113d45b1086e53b9b55e8"), looks := true }, kinds := [], alts := [], laidByText := true, laidKinds := [.data, .data, .data, .data, .sentinel, .sentinel, .pinned], laidTests := true, laidLooks := .later }
def FnExactReadTileCardSaid : Prop := Claim7.holds Tryd.pinned (.plain (OpenSpec.ofChange fnExactReadTileSpec)) fnExactReadTileCard

/-- THE SECOND FORM's CARD OF 'laws.FnExactReadTile'. -/
def fnExactReadTileUptoCard : Claim7 := { stood := { row := fnExactReadTileUptoRow, standIns := [], harness := (true, "03218c3ad9d7fff9b553a36fd86b95ad84140a60059113d45b1086e53b9b55e8"), looks := true }, kinds := [], alts := [], laidByText := true, laidKinds := [.data, .data, .data, .data, .sentinel, .sentinel, .pinned], laidTests := true, laidLooks := .later }
def FnExactReadTileUptoCardSaid : Prop := Claim7.holds Tryd.pinned (.plain (OpenSpec.upto fnExactReadTileSpec)) fnExactReadTileUptoCard
end Rows
end Go.Proofs.YtimjhlpbpbohbaaDoor
