/-
  DERIVED. GIVEN WITH THE SEED: THE CARDS: each row of YtmnfgajihkfahaaGreatDoorRows.lean that lists a variable, with what it lists TIED to the program's text (the seventh form; the later family's looks); each row that meets fmt, with fmt's text TOLD by the authors' own Lean function (tested against real Go, not proved from fmt's source: count such statements apart). THE CARD IS WHAT COUNTS. Prove the row's statement (the work); the ties are given (YtmnfgajihkfahaaGreatDoorTie.lean); close each card by the builder's one call (the guide's Derived/Test/ToyasCard.lean, 'card_holds'). Laid BY PROGRAM, IN A SANDBOX (cutbox-door.mjs). By AI agents, Wed Nov 11 2026. No macro, syntax, notation, axiom, sorry.
-/
import Derived.Test.YtmnfgajihkfahaaGreatDoorRows
import GoSem.ClaimSeven
namespace Go.Proofs.YtmnfgajihkfahaaGreatDoor
namespace Rows

/-- THE TIED CARD OF 'quinarialaw06.GrantFirst'. -/
def grantFirstCard : Claim7 := { stood := { row := grantFirstRow, standIns := [], harness := (true, "c50a2473247fd563652536c5189614d6c43fc7c925362f406516d21693885498"), looks := true }, kinds := [], alts := [], laidByText := true, laidKinds := [.data, .data, .data, .data, .pinned], laidTests := true, laidLooks := .later }
def GrantFirstCardSaid : Prop := Claim7.holds Tryz.pinned (.plain (OpenSpec.ofChange grantFirstSpec)) grantFirstCard

/-- THE TIED CARD OF 'quinarialaw06.GrantStates'. -/
def grantStatesCard : Claim7 := { stood := { row := grantStatesRow, standIns := [], harness := (true, "c50a2473247fd563652536c5189614d6c43fc7c925362f406516d21693885498"), looks := true }, kinds := [], alts := [], laidByText := true, laidKinds := [.data, .data, .data, .data, .pinned], laidTests := true, laidLooks := .later }
def GrantStatesCardSaid : Prop := Claim7.holds Tryz.pinned (.plain (OpenSpec.ofChange grantStatesSpec)) grantStatesCard

/-- THE TIED CARD OF 'quinarialaw06.GrantNobody'. -/
def grantNobodyCard : Claim7 := { stood := { row := grantNobodyRow, standIns := [], harness := (true, "c50a2473247fd563652536c5189614d6c43fc7c925362f406516d21693885498"), looks := true }, kinds := [], alts := [], laidByText := true, laidKinds := [.data, .data, .data, .data, .pinned], laidTests := true, laidLooks := .later }
def GrantNobodyCardSaid : Prop := Claim7.holds Tryz.pinned (.plain (OpenSpec.ofChange grantNobodySpec)) grantNobodyCard

/-- THE TIED CARD OF 'quinarialaw06.GrantFound'. -/
def grantFoundCard : Claim7 := { stood := { row := grantFoundRow, standIns := [], harness := (true, "c50a2473247fd563652536c5189614d6c43fc7c925362f406516d21693885498"), looks := true }, kinds := [], alts := [], laidByText := true, laidKinds := [.data, .data, .data, .data, .pinned], laidTests := true, laidLooks := .later }
def GrantFoundCardSaid : Prop := Claim7.holds Tryz.pinned (.plain (OpenSpec.ofChange grantFoundSpec)) grantFoundCard

/-- THE TIED CARD OF 'quinarialaw06.GrantLater'. -/
def grantLaterCard : Claim7 := { stood := { row := grantLaterRow, standIns := [], harness := (true, "c50a2473247fd563652536c5189614d6c43fc7c925362f406516d21693885498"), looks := true }, kinds := [], alts := [], laidByText := true, laidKinds := [.data, .data, .data, .data, .pinned], laidTests := true, laidLooks := .later }
def GrantLaterCardSaid : Prop := Claim7.holds Tryz.pinned (.plain (OpenSpec.ofChange grantLaterSpec)) grantLaterCard

/-- THE TIED CARD OF 'quinarialaw06.GrantWaters'. -/
def grantWatersCard : Claim7 := { stood := { row := grantWatersRow, standIns := [], harness := (true, "c50a2473247fd563652536c5189614d6c43fc7c925362f406516d21693885498"), looks := true }, kinds := [], alts := [], laidByText := true, laidKinds := [.data, .data, .data, .data, .pinned], laidTests := true, laidLooks := .later }
def GrantWatersCardSaid : Prop := Claim7.holds Tryz.pinned (.plain (OpenSpec.ofChange grantWatersSpec)) grantWatersCard

/-- THE TIED CARD OF 'quinarialaw06.GrantKept'. -/
def grantKeptCard : Claim7 := { stood := { row := grantKeptRow, standIns := [], harness := (true, "c50a2473247fd563652536c5189614d6c43fc7c925362f406516d21693885498"), looks := true }, kinds := [], alts := [], laidByText := true, laidKinds := [.data, .data, .data, .data, .pinned], laidTests := true, laidLooks := .later }
def GrantKeptCardSaid : Prop := Claim7.holds Tryz.pinned (.plain (OpenSpec.ofChange grantKeptSpec)) grantKeptCard

/-- THE TIED CARD OF 'quinarialaw06.GrantFells'. -/
def grantFellsCard : Claim7 := { stood := { row := grantFellsRow, standIns := [], harness := (true, "c50a2473247fd563652536c5189614d6c43fc7c925362f406516d21693885498"), looks := true }, kinds := [], alts := [], laidByText := true, laidKinds := [.data, .data, .data, .data, .pinned], laidTests := true, laidLooks := .later }
def GrantFellsCardSaid : Prop := Claim7.holds Tryz.pinned (.plain (OpenSpec.ofChange grantFellsSpec)) grantFellsCard

/-- THE TIED CARD OF 'quinarialaw06.GrantBack'. -/
def grantBackCard : Claim7 := { stood := { row := grantBackRow, standIns := [], harness := (true, "c50a2473247fd563652536c5189614d6c43fc7c925362f406516d21693885498"), looks := true }, kinds := [], alts := [], laidByText := true, laidKinds := [.data, .data, .data, .data, .pinned], laidTests := true, laidLooks := .later }
def GrantBackCardSaid : Prop := Claim7.holds Tryz.pinned (.plain (OpenSpec.ofChange grantBackSpec)) grantBackCard

/-- THE TIED CARD OF 'quinarialaw06.GrantHolds'. -/
def grantHoldsCard : Claim7 := { stood := { row := grantHoldsRow, standIns := [], harness := (true, "c50a2473247fd563652536c5189614d6c43fc7c925362f406516d21693885498"), looks := true }, kinds := [], alts := [], laidByText := true, laidKinds := [.data, .data, .data, .data, .pinned], laidTests := true, laidLooks := .later }
def GrantHoldsCardSaid : Prop := Claim7.holds Tryz.pinned (.plain (OpenSpec.ofChange grantHoldsSpec)) grantHoldsCard

/-- THE TIED CARD OF 'quinarialaw06.GrantTruths'. -/
def grantTruthsCard : Claim7 := { stood := { row := grantTruthsRow, standIns := [], harness := (true, "c50a2473247fd563652536c5189614d6c43fc7c925362f406516d21693885498"), looks := true }, kinds := [], alts := [], laidByText := true, laidKinds := [.data, .data, .data, .data, .pinned], laidTests := true, laidLooks := .later }
def GrantTruthsCardSaid : Prop := Claim7.holds Tryz.pinned (.plain (OpenSpec.ofChange grantTruthsSpec)) grantTruthsCard

/-- THE TIED CARD OF 'quinarialaw06.GrantMays'. -/
def grantMaysCard : Claim7 := { stood := { row := grantMaysRow, standIns := [], harness := (true, "c50a2473247fd563652536c5189614d6c43fc7c925362f406516d21693885498"), looks := true }, kinds := [], alts := [], laidByText := true, laidKinds := [.data, .data, .data, .data, .pinned], laidTests := true, laidLooks := .later }
def GrantMaysCardSaid : Prop := Claim7.holds Tryz.pinned (.plain (OpenSpec.ofChange grantMaysSpec)) grantMaysCard

/-- THE TIED CARD OF 'quinarialaw06.GrantLooks'. -/
def grantLooksCard : Claim7 := { stood := { row := grantLooksRow, standIns := [], harness := (true, "c50a2473247fd563652536c5189614d6c43fc7c925362f406516d21693885498"), looks := true }, kinds := [], alts := [], laidByText := true, laidKinds := [.data, .data, .data, .data, .pinned], laidTests := true, laidLooks := .later }
def GrantLooksCardSaid : Prop := Claim7.holds Tryz.pinned (.plain (OpenSpec.ofChange grantLooksSpec)) grantLooksCard

/-- THE TIED CARD OF 'quinarialaw06.GrantRival'. -/
def grantRivalCard : Claim7 := { stood := { row := grantRivalRow, standIns := [], harness := (true, "c50a2473247fd563652536c5189614d6c43fc7c925362f406516d21693885498"), looks := true }, kinds := [], alts := [], laidByText := true, laidKinds := [.data, .data, .data, .data, .pinned], laidTests := true, laidLooks := .later }
def GrantRivalCardSaid : Prop := Claim7.holds Tryz.pinned (.plain (OpenSpec.ofChange grantRivalSpec)) grantRivalCard

/-- THE TIED CARD OF 'quinarialaw06.GrantLess'. -/
def grantLessCard : Claim7 := { stood := { row := grantLessRow, standIns := [], harness := (true, "c50a2473247fd563652536c5189614d6c43fc7c925362f406516d21693885498"), looks := true }, kinds := [], alts := [], laidByText := true, laidKinds := [.data, .data, .data, .data, .pinned], laidTests := true, laidLooks := .later }
def GrantLessCardSaid : Prop := Claim7.holds Tryz.pinned (.plain (OpenSpec.ofChange grantLessSpec)) grantLessCard

/-- THE TIED CARD OF 'quinarialaw06.GrantWrongs'. -/
def grantWrongsCard : Claim7 := { stood := { row := grantWrongsRow, standIns := [], harness := (true, "c50a2473247fd563652536c5189614d6c43fc7c925362f406516d21693885498"), looks := true }, kinds := [], alts := [], laidByText := true, laidKinds := [.data, .data, .data, .data, .pinned], laidTests := true, laidLooks := .later }
def GrantWrongsCardSaid : Prop := Claim7.holds Tryz.pinned (.plain (OpenSpec.ofChange grantWrongsSpec)) grantWrongsCard

/-- THE TIED CARD OF 'quinarialaw06.GrantChosen'. -/
def grantChosenCard : Claim7 := { stood := { row := grantChosenRow, standIns := [], harness := (true, "c50a2473247fd563652536c5189614d6c43fc7c925362f406516d21693885498"), looks := true }, kinds := [], alts := [], laidByText := true, laidKinds := [.data, .data, .data, .data, .pinned], laidTests := true, laidLooks := .later }
def GrantChosenCardSaid : Prop := Claim7.holds Tryz.pinned (.plain (OpenSpec.ofChange grantChosenSpec)) grantChosenCard

/-- THE TIED CARD OF 'quinarialaw06.GrantTrue'. -/
def grantTrueCard : Claim7 := { stood := { row := grantTrueRow, standIns := [], harness := (true, "c50a2473247fd563652536c5189614d6c43fc7c925362f406516d21693885498"), looks := true }, kinds := [], alts := [], laidByText := true, laidKinds := [.data, .data, .data, .data, .pinned], laidTests := true, laidLooks := .later }
def GrantTrueCardSaid : Prop := Claim7.holds Tryz.pinned (.plain (OpenSpec.ofChange grantTrueSpec)) grantTrueCard

/-- THE TIED CARD OF 'quinarialaw06.GrantPrints'. -/
def grantPrintsCard : Claim7 := { stood := { row := grantPrintsRow, standIns := [], harness := (true, "c50a2473247fd563652536c5189614d6c43fc7c925362f406516d21693885498"), looks := true }, kinds := [], alts := [], laidByText := true, laidKinds := [.data, .data, .data, .data, .pinned], laidTests := true, laidLooks := .later }
def GrantPrintsCardSaid : Prop := Claim7.holds Tryz.pinned (.plain (OpenSpec.ofChange grantPrintsSpec)) grantPrintsCard

/-- THE TIED CARD OF 'quinarialaw06.GrantReads'. -/
def grantReadsCard : Claim7 := { stood := { row := grantReadsRow, standIns := [], harness := (true, "c50a2473247fd563652536c5189614d6c43fc7c925362f406516d21693885498"), looks := true }, kinds := [], alts := [], laidByText := true, laidKinds := [.data, .data, .data, .data, .pinned], laidTests := true, laidLooks := .later }
def GrantReadsCardSaid : Prop := Claim7.holds Tryz.pinned (.plain (OpenSpec.ofChange grantReadsSpec)) grantReadsCard

/-- THE TIED CARD OF 'quinarialaw06.GrantSpoilt'. -/
def grantSpoiltCard : Claim7 := { stood := { row := grantSpoiltRow, standIns := [], harness := (true, "c50a2473247fd563652536c5189614d6c43fc7c925362f406516d21693885498"), looks := true }, kinds := [], alts := [], laidByText := true, laidKinds := [.data, .data, .data, .data, .pinned], laidTests := true, laidLooks := .later }
def GrantSpoiltCardSaid : Prop := Claim7.holds Tryz.pinned (.plain (OpenSpec.ofChange grantSpoiltSpec)) grantSpoiltCard

/-- THE SECOND FORM's CARD OF 'quinarialaw06.GrantFirst'. -/
def grantFirstUptoCard : Claim7 := { stood := { row := grantFirstUptoRow, standIns := [], harness := (true, "c50a2473247fd563652536c5189614d6c43fc7c925362f406516d21693885498"), looks := true }, kinds := [], alts := [], laidByText := true, laidKinds := [.data, .data, .data, .data, .pinned], laidTests := true, laidLooks := .later }
def GrantFirstUptoCardSaid : Prop := Claim7.holds Tryz.pinned (.plain (OpenSpec.upto grantFirstSpec)) grantFirstUptoCard

/-- THE SECOND FORM's CARD OF 'quinarialaw06.GrantStates'. -/
def grantStatesUptoCard : Claim7 := { stood := { row := grantStatesUptoRow, standIns := [], harness := (true, "c50a2473247fd563652536c5189614d6c43fc7c925362f406516d21693885498"), looks := true }, kinds := [], alts := [], laidByText := true, laidKinds := [.data, .data, .data, .data, .pinned], laidTests := true, laidLooks := .later }
def GrantStatesUptoCardSaid : Prop := Claim7.holds Tryz.pinned (.plain (OpenSpec.upto grantStatesSpec)) grantStatesUptoCard

/-- THE SECOND FORM's CARD OF 'quinarialaw06.GrantNobody'. -/
def grantNobodyUptoCard : Claim7 := { stood := { row := grantNobodyUptoRow, standIns := [], harness := (true, "c50a2473247fd563652536c5189614d6c43fc7c925362f406516d21693885498"), looks := true }, kinds := [], alts := [], laidByText := true, laidKinds := [.data, .data, .data, .data, .pinned], laidTests := true, laidLooks := .later }
def GrantNobodyUptoCardSaid : Prop := Claim7.holds Tryz.pinned (.plain (OpenSpec.upto grantNobodySpec)) grantNobodyUptoCard

/-- THE SECOND FORM's CARD OF 'quinarialaw06.GrantFound'. -/
def grantFoundUptoCard : Claim7 := { stood := { row := grantFoundUptoRow, standIns := [], harness := (true, "c50a2473247fd563652536c5189614d6c43fc7c925362f406516d21693885498"), looks := true }, kinds := [], alts := [], laidByText := true, laidKinds := [.data, .data, .data, .data, .pinned], laidTests := true, laidLooks := .later }
def GrantFoundUptoCardSaid : Prop := Claim7.holds Tryz.pinned (.plain (OpenSpec.upto grantFoundSpec)) grantFoundUptoCard

/-- THE SECOND FORM's CARD OF 'quinarialaw06.GrantLater'. -/
def grantLaterUptoCard : Claim7 := { stood := { row := grantLaterUptoRow, standIns := [], harness := (true, "c50a2473247fd563652536c5189614d6c43fc7c925362f406516d21693885498"), looks := true }, kinds := [], alts := [], laidByText := true, laidKinds := [.data, .data, .data, .data, .pinned], laidTests := true, laidLooks := .later }
def GrantLaterUptoCardSaid : Prop := Claim7.holds Tryz.pinned (.plain (OpenSpec.upto grantLaterSpec)) grantLaterUptoCard

/-- THE SECOND FORM's CARD OF 'quinarialaw06.GrantWaters'. -/
def grantWatersUptoCard : Claim7 := { stood := { row := grantWatersUptoRow, standIns := [], harness := (true, "c50a2473247fd563652536c5189614d6c43fc7c925362f406516d21693885498"), looks := true }, kinds := [], alts := [], laidByText := true, laidKinds := [.data, .data, .data, .data, .pinned], laidTests := true, laidLooks := .later }
def GrantWatersUptoCardSaid : Prop := Claim7.holds Tryz.pinned (.plain (OpenSpec.upto grantWatersSpec)) grantWatersUptoCard

/-- THE SECOND FORM's CARD OF 'quinarialaw06.GrantKept'. -/
def grantKeptUptoCard : Claim7 := { stood := { row := grantKeptUptoRow, standIns := [], harness := (true, "c50a2473247fd563652536c5189614d6c43fc7c925362f406516d21693885498"), looks := true }, kinds := [], alts := [], laidByText := true, laidKinds := [.data, .data, .data, .data, .pinned], laidTests := true, laidLooks := .later }
def GrantKeptUptoCardSaid : Prop := Claim7.holds Tryz.pinned (.plain (OpenSpec.upto grantKeptSpec)) grantKeptUptoCard

/-- THE SECOND FORM's CARD OF 'quinarialaw06.GrantFells'. -/
def grantFellsUptoCard : Claim7 := { stood := { row := grantFellsUptoRow, standIns := [], harness := (true, "c50a2473247fd563652536c5189614d6c43fc7c925362f406516d21693885498"), looks := true }, kinds := [], alts := [], laidByText := true, laidKinds := [.data, .data, .data, .data, .pinned], laidTests := true, laidLooks := .later }
def GrantFellsUptoCardSaid : Prop := Claim7.holds Tryz.pinned (.plain (OpenSpec.upto grantFellsSpec)) grantFellsUptoCard

/-- THE SECOND FORM's CARD OF 'quinarialaw06.GrantBack'. -/
def grantBackUptoCard : Claim7 := { stood := { row := grantBackUptoRow, standIns := [], harness := (true, "c50a2473247fd563652536c5189614d6c43fc7c925362f406516d21693885498"), looks := true }, kinds := [], alts := [], laidByText := true, laidKinds := [.data, .data, .data, .data, .pinned], laidTests := true, laidLooks := .later }
def GrantBackUptoCardSaid : Prop := Claim7.holds Tryz.pinned (.plain (OpenSpec.upto grantBackSpec)) grantBackUptoCard

/-- THE SECOND FORM's CARD OF 'quinarialaw06.GrantHolds'. -/
def grantHoldsUptoCard : Claim7 := { stood := { row := grantHoldsUptoRow, standIns := [], harness := (true, "c50a2473247fd563652536c5189614d6c43fc7c925362f406516d21693885498"), looks := true }, kinds := [], alts := [], laidByText := true, laidKinds := [.data, .data, .data, .data, .pinned], laidTests := true, laidLooks := .later }
def GrantHoldsUptoCardSaid : Prop := Claim7.holds Tryz.pinned (.plain (OpenSpec.upto grantHoldsSpec)) grantHoldsUptoCard

/-- THE SECOND FORM's CARD OF 'quinarialaw06.GrantTruths'. -/
def grantTruthsUptoCard : Claim7 := { stood := { row := grantTruthsUptoRow, standIns := [], harness := (true, "c50a2473247fd563652536c5189614d6c43fc7c925362f406516d21693885498"), looks := true }, kinds := [], alts := [], laidByText := true, laidKinds := [.data, .data, .data, .data, .pinned], laidTests := true, laidLooks := .later }
def GrantTruthsUptoCardSaid : Prop := Claim7.holds Tryz.pinned (.plain (OpenSpec.upto grantTruthsSpec)) grantTruthsUptoCard

/-- THE SECOND FORM's CARD OF 'quinarialaw06.GrantMays'. -/
def grantMaysUptoCard : Claim7 := { stood := { row := grantMaysUptoRow, standIns := [], harness := (true, "c50a2473247fd563652536c5189614d6c43fc7c925362f406516d21693885498"), looks := true }, kinds := [], alts := [], laidByText := true, laidKinds := [.data, .data, .data, .data, .pinned], laidTests := true, laidLooks := .later }
def GrantMaysUptoCardSaid : Prop := Claim7.holds Tryz.pinned (.plain (OpenSpec.upto grantMaysSpec)) grantMaysUptoCard

/-- THE SECOND FORM's CARD OF 'quinarialaw06.GrantLooks'. -/
def grantLooksUptoCard : Claim7 := { stood := { row := grantLooksUptoRow, standIns := [], harness := (true, "c50a2473247fd563652536c5189614d6c43fc7c925362f406516d21693885498"), looks := true }, kinds := [], alts := [], laidByText := true, laidKinds := [.data, .data, .data, .data, .pinned], laidTests := true, laidLooks := .later }
def GrantLooksUptoCardSaid : Prop := Claim7.holds Tryz.pinned (.plain (OpenSpec.upto grantLooksSpec)) grantLooksUptoCard

/-- THE SECOND FORM's CARD OF 'quinarialaw06.GrantRival'. -/
def grantRivalUptoCard : Claim7 := { stood := { row := grantRivalUptoRow, standIns := [], harness := (true, "c50a2473247fd563652536c5189614d6c43fc7c925362f406516d21693885498"), looks := true }, kinds := [], alts := [], laidByText := true, laidKinds := [.data, .data, .data, .data, .pinned], laidTests := true, laidLooks := .later }
def GrantRivalUptoCardSaid : Prop := Claim7.holds Tryz.pinned (.plain (OpenSpec.upto grantRivalSpec)) grantRivalUptoCard

/-- THE SECOND FORM's CARD OF 'quinarialaw06.GrantLess'. -/
def grantLessUptoCard : Claim7 := { stood := { row := grantLessUptoRow, standIns := [], harness := (true, "c50a2473247fd563652536c5189614d6c43fc7c925362f406516d21693885498"), looks := true }, kinds := [], alts := [], laidByText := true, laidKinds := [.data, .data, .data, .data, .pinned], laidTests := true, laidLooks := .later }
def GrantLessUptoCardSaid : Prop := Claim7.holds Tryz.pinned (.plain (OpenSpec.upto grantLessSpec)) grantLessUptoCard

/-- THE SECOND FORM's CARD OF 'quinarialaw06.GrantWrongs'. -/
def grantWrongsUptoCard : Claim7 := { stood := { row := grantWrongsUptoRow, standIns := [], harness := (true, "c50a2473247fd563652536c5189614d6c43fc7c925362f406516d21693885498"), looks := true }, kinds := [], alts := [], laidByText := true, laidKinds := [.data, .data, .data, .data, .pinned], laidTests := true, laidLooks := .later }
def GrantWrongsUptoCardSaid : Prop := Claim7.holds Tryz.pinned (.plain (OpenSpec.upto grantWrongsSpec)) grantWrongsUptoCard

/-- THE SECOND FORM's CARD OF 'quinarialaw06.GrantChosen'. -/
def grantChosenUptoCard : Claim7 := { stood := { row := grantChosenUptoRow, standIns := [], harness := (true, "c50a2473247fd563652536c5189614d6c43fc7c925362f406516d21693885498"), looks := true }, kinds := [], alts := [], laidByText := true, laidKinds := [.data, .data, .data, .data, .pinned], laidTests := true, laidLooks := .later }
def GrantChosenUptoCardSaid : Prop := Claim7.holds Tryz.pinned (.plain (OpenSpec.upto grantChosenSpec)) grantChosenUptoCard

/-- THE SECOND FORM's CARD OF 'quinarialaw06.GrantTrue'. -/
def grantTrueUptoCard : Claim7 := { stood := { row := grantTrueUptoRow, standIns := [], harness := (true, "c50a2473247fd563652536c5189614d6c43fc7c925362f406516d21693885498"), looks := true }, kinds := [], alts := [], laidByText := true, laidKinds := [.data, .data, .data, .data, .pinned], laidTests := true, laidLooks := .later }
def GrantTrueUptoCardSaid : Prop := Claim7.holds Tryz.pinned (.plain (OpenSpec.upto grantTrueSpec)) grantTrueUptoCard

/-- THE SECOND FORM's CARD OF 'quinarialaw06.GrantPrints'. -/
def grantPrintsUptoCard : Claim7 := { stood := { row := grantPrintsUptoRow, standIns := [], harness := (true, "c50a2473247fd563652536c5189614d6c43fc7c925362f406516d21693885498"), looks := true }, kinds := [], alts := [], laidByText := true, laidKinds := [.data, .data, .data, .data, .pinned], laidTests := true, laidLooks := .later }
def GrantPrintsUptoCardSaid : Prop := Claim7.holds Tryz.pinned (.plain (OpenSpec.upto grantPrintsSpec)) grantPrintsUptoCard

/-- THE SECOND FORM's CARD OF 'quinarialaw06.GrantReads'. -/
def grantReadsUptoCard : Claim7 := { stood := { row := grantReadsUptoRow, standIns := [], harness := (true, "c50a2473247fd563652536c5189614d6c43fc7c925362f406516d21693885498"), looks := true }, kinds := [], alts := [], laidByText := true, laidKinds := [.data, .data, .data, .data, .pinned], laidTests := true, laidLooks := .later }
def GrantReadsUptoCardSaid : Prop := Claim7.holds Tryz.pinned (.plain (OpenSpec.upto grantReadsSpec)) grantReadsUptoCard

/-- THE SECOND FORM's CARD OF 'quinarialaw06.GrantSpoilt'. -/
def grantSpoiltUptoCard : Claim7 := { stood := { row := grantSpoiltUptoRow, standIns := [], harness := (true, "c50a2473247fd563652536c5189614d6c43fc7c925362f406516d21693885498"), looks := true }, kinds := [], alts := [], laidByText := true, laidKinds := [.data, .data, .data, .data, .pinned], laidTests := true, laidLooks := .later }
def GrantSpoiltUptoCardSaid : Prop := Claim7.holds Tryz.pinned (.plain (OpenSpec.upto grantSpoiltSpec)) grantSpoiltUptoCard
end Rows
end Go.Proofs.YtmnfgajihkfahaaGreatDoor
