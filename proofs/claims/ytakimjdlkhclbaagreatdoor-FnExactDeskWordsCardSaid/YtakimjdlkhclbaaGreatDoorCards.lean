/-
  DERIVED. GIVEN WITH THE SEED: THE CARDS: each row of YtakimjdlkhclbaaGreatDoorRows.lean that lists a variable, with what it lists TIED to the program's text (the seventh form; the later family's looks); each row that meets fmt, with fmt's text TOLD by the authors' own Lean function (tested against real Go, not proved from fmt's source: count such statements apart). THE CARD IS WHAT COUNTS. Prove the row's statement (the work); the ties are given (YtakimjdlkhclbaaGreatDoorTie.lean); close each card by the builder's one call (the guide's Derived/Test/ToyasCard.lean, 'card_holds'). Laid BY PROGRAM, IN A SANDBOX (cutbox-door.mjs). By AI agents, Wed Nov 11 2026. No macro, syntax, notation, axiom, sorry.
-/
import Derived.Test.YtakimjdlkhclbaaGreatDoorRows
import GoSem.ClaimSeven
namespace Go.Proofs.YtakimjdlkhclbaaGreatDoor
namespace Rows

/-- THE TIED CARD OF 'laws.FnExactDeskWords'. -/
def fnExactDeskWordsCard : Claim7 := { stood := { row := fnExactDeskWordsRow, standIns := [], harness := (true, "1c52c96c7fccd737c2bcd7ecce07c5b93e371634d7206378ab69c6e07c0e44ce"), looks := true }, kinds := [], alts := [], goes := true, laidByText := true, laidKinds := [.data, .data, .data, .pinned, .data, .sentinel, .sentinel, .sentinel, .sentinel], laidTests := true, laidLooks := .later }
def FnExactDeskWordsCardSaid : Prop := Claim7.holds Tryz.pinned (.plain (OpenSpec.ofChange fnExactDeskWordsSpec)) fnExactDeskWordsCard

/-- THE SECOND FORM's CARD OF 'laws.FnExactDeskWords'. -/
def fnExactDeskWordsUptoCard : Claim7 := { stood := { row := fnExactDeskWordsUptoRow, standIns := [], harness := (true, "1c52c96c7fccd737c2bcd7ecce07c5b93e371634d7206378ab69c6e07c0e44ce"), looks := true }, kinds := [], alts := [], goes := true, laidByText := true, laidKinds := [.data, .data, .data, .pinned, .data, .sentinel, .sentinel, .sentinel, .sentinel], laidTests := true, laidLooks := .later }
def FnExactDeskWordsUptoCardSaid : Prop := Claim7.holds Tryz.pinned (.plain (OpenSpec.upto fnExactDeskWordsSpec)) fnExactDeskWordsUptoCard
end Rows
end Go.Proofs.YtakimjdlkhclbaaGreatDoor
