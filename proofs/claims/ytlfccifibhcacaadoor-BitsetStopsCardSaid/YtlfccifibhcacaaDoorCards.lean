/-
  DERIVED. GIVEN WITH THE SEED: THE CARDS: each row of YtlfccifibhcacaaDoorRows.lean that lists a variable, with what it lists TIED to the program's text (the seventh form; the later family's looks); each row that meets fmt, with fmt's text TOLD by the authors' own Lean function (tested against real Go, not proved from fmt's source: count such statements apart). THE CARD IS WHAT COUNTS. Prove the row's statement (the work); the ties are given (YtlfccifibhcacaaDoorTie.lean); close each card by the builder's one call (the guide's Derived/Test/ToyasCard.lean, 'card_holds'). Laid BY PROGRAM, IN A SANDBOX (cutbox-door.mjs). By AI agents, Wed Nov 11 2026. No macro, syntax, notation, axiom, sorry.
-/
import Derived.Test.YtlfccifibhcacaaDoorRows
import GoSem.ClaimSeven
namespace Go.Proofs.YtlfccifibhcacaaDoor
namespace Rows

/-- THE TIED CARD OF 'becketlaw04.BitsetStops'. -/
def bitsetStopsCard : Claim7 := { stood := { row := bitsetStopsRow, standIns := [], harness := (true, "7b15f6617061799229ba0a40171845c848ef9557dc0db9a176eaa623e26c7458"), looks := false }, kinds := [], alts := [], laidByText := true, laidKinds := [.data], laidTests := true, laidLooks := .later }
def BitsetStopsCardSaid : Prop := Claim7.holds Tryd.pinned (.plain (OpenSpec.ofChange bitsetStopsSpec)) bitsetStopsCard

/-- THE SECOND FORM's CARD OF 'becketlaw04.BitsetStops'. -/
def bitsetStopsUptoCard : Claim7 := { stood := { row := bitsetStopsUptoRow, standIns := [], harness := (true, "7b15f6617061799229ba0a40171845c848ef9557dc0db9a176eaa623e26c7458"), looks := false }, kinds := [], alts := [], laidByText := true, laidKinds := [.data], laidTests := true, laidLooks := .later }
def BitsetStopsUptoCardSaid : Prop := Claim7.holds Tryd.pinned (.plain (OpenSpec.upto bitsetStopsSpec)) bitsetStopsUptoCard
end Rows
end Go.Proofs.YtlfccifibhcacaaDoor
