/-
  DERIVED. GIVEN WITH THE SEED: THE CARDS: each row of YtdgcohoneijleaaGreatDoorRows.lean that lists a variable, with what it lists TIED to the program's text (the seventh form; the later family's looks); each row that meets fmt, with fmt's text TOLD by the authors' own Lean function (tested against real Go, not proved from fmt's source: count such statements apart). THE CARD IS WHAT COUNTS. Prove the row's statement (the work); the ties are given (YtdgcohoneijleaaGreatDoorTie.lean); close each card by the builder's one call (the guide's Derived/Test/ToyasCard.lean, 'card_holds'). Laid BY PROGRAM, IN A SANDBOX (cutbox-door.mjs). By AI agents, Wed Nov 11 2026. No macro, syntax, notation, axiom, sorry.
-/
import Derived.Test.YtdgcohoneijleaaGreatDoorRows
import GoSem.ClaimSeven
namespace Go.Proofs.YtdgcohoneijleaaGreatDoor
namespace Rows

/-- THE TIED CARD OF 'laws.FnExactTournamentText'. -/
def fnExactTournamentTextCard : Claim7 := { stood := { row := fnExactTournamentTextRow, standIns := [], harness := (true, "b2972b30c1b9f5eb61ae71cc2115016b6ebd37cde3571074b8ccfb64591072bf"), looks := true }, kinds := [], alts := [], laidByText := true, laidKinds := [.data, .data, .data, .data, .pinned], laidTests := true, laidLooks := .later }
def FnExactTournamentTextCardSaid : Prop := Claim7.holds Tryz.pinned (.plain (OpenSpec.ofChange fnExactTournamentTextSpec)) fnExactTournamentTextCard

/-- THE TIED CARD OF 'laws.FnExactParseTournament'. -/
def fnExactParseTournamentCard : Claim7 := { stood := { row := fnExactParseTournamentRow, standIns := [], harness := (true, "b2972b30c1b9f5eb61ae71cc2115016b6ebd37cde3571074b8ccfb64591072bf"), looks := true }, kinds := [], alts := [], laidByText := true, laidKinds := [.data, .data, .data, .data, .sentinel, .sentinel, .pinned], laidTests := true, laidLooks := .later }
def FnExactParseTournamentCardSaid : Prop := Claim7.holds Tryz.pinned (.plain (OpenSpec.ofChange fnExactParseTournamentSpec)) fnExactParseTournamentCard

/-- THE TIED CARD OF 'laws.FnTournaments'. -/
def fnTournamentsCard : Claim7 := { stood := { row := fnTournamentsRow, standIns := [], harness := (true, "b2972b30c1b9f5eb61ae71cc2115016b6ebd37cde3571074b8ccfb64591072bf"), looks := true }, kinds := [], alts := [], laidByText := true, laidKinds := [.data, .data, .data, .data, .sentinel, .sentinel, .pinned], laidTests := true, laidLooks := .later }
def FnTournamentsCardSaid : Prop := Claim7.holds Tryz.pinned (.plain (OpenSpec.ofChange fnTournamentsSpec)) fnTournamentsCard

/-- THE SECOND FORM's CARD OF 'laws.FnExactTournamentText'. -/
def fnExactTournamentTextUptoCard : Claim7 := { stood := { row := fnExactTournamentTextUptoRow, standIns := [], harness := (true, "b2972b30c1b9f5eb61ae71cc2115016b6ebd37cde3571074b8ccfb64591072bf"), looks := true }, kinds := [], alts := [], laidByText := true, laidKinds := [.data, .data, .data, .data, .pinned], laidTests := true, laidLooks := .later }
def FnExactTournamentTextUptoCardSaid : Prop := Claim7.holds Tryz.pinned (.plain (OpenSpec.upto fnExactTournamentTextSpec)) fnExactTournamentTextUptoCard

/-- THE SECOND FORM's CARD OF 'laws.FnExactParseTournament'. -/
def fnExactParseTournamentUptoCard : Claim7 := { stood := { row := fnExactParseTournamentUptoRow, standIns := [], harness := (true, "b2972b30c1b9f5eb61ae71cc2115016b6ebd37cde3571074b8ccfb64591072bf"), looks := true }, kinds := [], alts := [], laidByText := true, laidKinds := [.data, .data, .data, .data, .sentinel, .sentinel, .pinned], laidTests := true, laidLooks := .later }
def FnExactParseTournamentUptoCardSaid : Prop := Claim7.holds Tryz.pinned (.plain (OpenSpec.upto fnExactParseTournamentSpec)) fnExactParseTournamentUptoCard

/-- THE SECOND FORM's CARD OF 'laws.FnTournaments'. -/
def fnTournamentsUptoCard : Claim7 := { stood := { row := fnTournamentsUptoRow, standIns := [], harness := (true, "b2972b30c1b9f5eb61ae71cc2115016b6ebd37cde3571074b8ccfb64591072bf"), looks := true }, kinds := [], alts := [], laidByText := true, laidKinds := [.data, .data, .data, .data, .sentinel, .sentinel, .pinned], laidTests := true, laidLooks := .later }
def FnTournamentsUptoCardSaid : Prop := Claim7.holds Tryz.pinned (.plain (OpenSpec.upto fnTournamentsSpec)) fnTournamentsUptoCard
end Rows
end Go.Proofs.YtdgcohoneijleaaGreatDoor
