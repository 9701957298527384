/-
  DERIVED. GIVEN WITH THE SEED: THE CARDS: each row of YtopigbmamejklaaDoorRows.lean that lists a variable, with what it lists TIED to the program's text (the seventh form; the later family's looks); each row that meets fmt, with fmt's text TOLD by the authors' own Lean function (tested against real Go, not proved from fmt's source: count such statements apart). THE CARD IS WHAT COUNTS. Prove the row's statement (the work); the ties are given (YtopigbmamejklaaDoorTie.lean); close each card by the builder's one call (the guide's Derived/Test/ToyasCard.lean, 'card_holds'). Laid BY PROGRAM, IN A SANDBOX (cutbox-door.mjs). By AI agents, Wed Nov 11 2026. No macro, syntax, notation, axiom, sorry.
-/
import Derived.Test.YtopigbmamejklaaDoorRows
import GoSem.ClaimSeven
namespace Go.Proofs.YtopigbmamejklaaDoor
namespace Rows

/-- THE TIED CARD OF 'laws.FnExactTileText'. -/
def fnExactTileTextCard : Claim7 := { stood := { row := fnExactTileTextRow, standIns := [], harness := (true, "4ad671d5fa6b7cd6c0fb81571e1ed8cd4c19d6150333f4b3d740ac55807681df"), looks := false }, kinds := [], alts := [], laidByText := true, laidKinds := [.data, .data, .data], laidTests := true, laidLooks := .later }
def FnExactTileTextCardSaid : Prop := Claim7.holds Tryd.pinned (.plain (OpenSpec.ofChange fnExactTileTextSpec)) fnExactTileTextCard

/-- THE TIED CARD OF 'laws.FnExactPatchText'. -/
def fnExactPatchTextCard : Claim7 := { stood := { row := fnExactPatchTextRow, standIns := [], harness := (true, "4ad671d5fa6b7cd6c0fb81571e1ed8cd4c19d6150333f4b3d740ac55807681df"), looks := false }, kinds := [], alts := [], laidByText := true, laidKinds := [.data, .data, .data], laidTests := true, laidLooks := .later }
def FnExactPatchTextCardSaid : Prop := Claim7.holds Tryd.pinned (.plain (OpenSpec.ofChange fnExactPatchTextSpec)) fnExactPatchTextCard

/-- THE TIED CARD OF 'laws.FnExactParsePatch'. -/
def fnExactParsePatchCard : Claim7 := { stood := { row := fnExactParsePatchRow, standIns := [], harness := (true, "4ad671d5fa6b7cd6c0fb81571e1ed8cd4c19d6150333f4b3d740ac55807681df"), looks := false }, kinds := [], alts := [], laidByText := true, laidKinds := [.data, .pinned], laidTests := true, laidLooks := .later }
def FnExactParsePatchCardSaid : Prop := Claim7.holds Tryd.pinned (.plain (OpenSpec.ofChange fnExactParsePatchSpec)) fnExactParsePatchCard

/-- THE SECOND FORM's CARD OF 'laws.FnExactTileText'. -/
def fnExactTileTextUptoCard : Claim7 := { stood := { row := fnExactTileTextUptoRow, standIns := [], harness := (true, "4ad671d5fa6b7cd6c0fb81571e1ed8cd4c19d6150333f4b3d740ac55807681df"), looks := false }, kinds := [], alts := [], laidByText := true, laidKinds := [.data, .data, .data], laidTests := true, laidLooks := .later }
def FnExactTileTextUptoCardSaid : Prop := Claim7.holds Tryd.pinned (.plain (OpenSpec.upto fnExactTileTextSpec)) fnExactTileTextUptoCard

/-- THE SECOND FORM's CARD OF 'laws.FnExactPatchText'. -/
def fnExactPatchTextUptoCard : Claim7 := { stood := { row := fnExactPatchTextUptoRow, standIns := [], harness := (true, "4ad671d5fa6b7cd6c0fb81571e1ed8cd4c19d6150333f4b3d740ac55807681df"), looks := false }, kinds := [], alts := [], laidByText := true, laidKinds := [.data, .data, .data], laidTests := true, laidLooks := .later }
def FnExactPatchTextUptoCardSaid : Prop := Claim7.holds Tryd.pinned (.plain (OpenSpec.upto fnExactPatchTextSpec)) fnExactPatchTextUptoCard

/-- THE SECOND FORM's CARD OF 'laws.FnExactParsePatch'. -/
def fnExactParsePatchUptoCard : Claim7 := { stood := { row := fnExactParsePatchUptoRow, standIns := [], harness := (true, "4ad671d5fa6b7cd6c0fb81571e1ed8cd4c19d6150333f4b3d740ac55807681df"), looks := false }, kinds := [], alts := [], laidByText := true, laidKinds := [.data, .pinned], laidTests := true, laidLooks := .later }
def FnExactParsePatchUptoCardSaid : Prop := Claim7.holds Tryd.pinned (.plain (OpenSpec.upto fnExactParsePatchSpec)) fnExactParsePatchUptoCard
end Rows
end Go.Proofs.YtopigbmamejklaaDoor
