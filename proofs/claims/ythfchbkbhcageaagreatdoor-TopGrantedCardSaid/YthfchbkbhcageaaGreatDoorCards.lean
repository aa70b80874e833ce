/-
  DERIVED. GIVEN WITH THE SEED: THE CARDS: each row of YthfchbkbhcageaaGreatDoorRows.lean that lists a variable, with what it lists TIED to the program's text (the seventh form; the later family's looks); each row that meets fmt, with fmt's text TOLD by the authors' own Lean function (tested against real Go, not proved from fmt's source: count such statements apart). THE CARD IS WHAT COUNTS. Prove the row's statement (the work); the ties are given (YthfchbkbhcageaaGreatDoorTie.lean); close each card by the builder's one call (the guide's Derived/Test/ToyasCard.lean, 'card_holds'). Laid BY PROGRAM, IN A SANDBOX (cutbox-door.mjs). By AI agents, Wed Nov 11 2026. No macro, syntax, notation, axiom, sorry.
-/
import Derived.Test.YthfchbkbhcageaaGreatDoorRows
import GoSem.ClaimSeven
namespace Go.Proofs.YthfchbkbhcageaaGreatDoor
namespace Rows

/-- THE TIED CARD OF 'quinariatop.TopGranted'. -/
def topGrantedCard : Claim7 := { stood := { row := topGrantedRow, standIns := [], harness := (true, "712a3a3c6107f4a4cf08c6cf58ea2b99ba2080277c395415b3e3c8680417761d"), looks := true }, kinds := [], alts := [], laidByText := true, laidKinds := [.data, .data, .data], laidTests := true, laidLooks := .later }
def TopGrantedCardSaid : Prop := Claim7.holds Tryz.pinned (.plain (OpenSpec.ofChange topGrantedSpec)) topGrantedCard

/-- THE SECOND FORM's CARD OF 'quinariatop.TopGranted'. -/
def topGrantedUptoCard : Claim7 := { stood := { row := topGrantedUptoRow, standIns := [], harness := (true, "712a3a3c6107f4a4cf08c6cf58ea2b99ba2080277c395415b3e3c8680417761d"), looks := true }, kinds := [], alts := [], laidByText := true, laidKinds := [.data, .data, .data], laidTests := true, laidLooks := .later }
def TopGrantedUptoCardSaid : Prop := Claim7.holds Tryz.pinned (.plain (OpenSpec.upto topGrantedSpec)) topGrantedUptoCard
end Rows
end Go.Proofs.YthfchbkbhcageaaGreatDoor
