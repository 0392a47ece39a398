/-
  DERIVED. GIVEN WITH THE SEED: THE CARDS: each row of YtghjlbbalngdhaaGreatDoorRows.lean that lists a variable, with what it lists TIED to the program's text (the seventh form; the later family's looks); each row that meets fmt, with fmt's text TOLD by the authors' own Lean function (tested against real Go, not proved from fmt's source: count such statements apart). THE CARD IS WHAT COUNTS. Prove the row's statement (the work); the ties are given (YtghjlbbalngdhaaGreatDoorTie.lean); close each card by the builder's one call (the guide's Derived/Test/ToyasCard.lean, 'card_holds'). Laid BY PROGRAM, IN A SANDBOX (cutbox-door.mjs). By AI agents, Wed Nov 11 2026. No macro, syntax, notation, axiom, sorry.
-/
import Derived.Test.YtghjlbbalngdhaaGreatDoorRows
import GoSem.ClaimSeven
namespace Go.Proofs.YtghjlbbalngdhaaGreatDoor
namespace Rows

/-- THE TIED CARD OF 'waveplatelaw09.NetworkNil'. -/
def networkNilCard : Claim7 := { stood := { row := networkNilRow, standIns := [], harness := (true, "6cd1e8284ecf3b559824212824ae563f367d532f613eafc8be4058ab7c923079"), looks := true }, kinds := [], alts := [], laidByText := true, laidKinds := [.data, .data, .data], laidTests := true, laidLooks := .later }
def NetworkNilCardSaid : Prop := Claim7.holds Tryz.pinned (.plain (OpenSpec.ofChange networkNilSpec)) networkNilCard

/-- THE SECOND FORM's CARD OF 'waveplatelaw09.NetworkNil'. -/
def networkNilUptoCard : Claim7 := { stood := { row := networkNilUptoRow, standIns := [], harness := (true, "6cd1e8284ecf3b559824212824ae563f367d532f613eafc8be4058ab7c923079"), looks := true }, kinds := [], alts := [], laidByText := true, laidKinds := [.data, .data, .data], laidTests := true, laidLooks := .later }
def NetworkNilUptoCardSaid : Prop := Claim7.holds Tryz.pinned (.plain (OpenSpec.upto networkNilSpec)) networkNilUptoCard
end Rows
end Go.Proofs.YtghjlbbalngdhaaGreatDoor
