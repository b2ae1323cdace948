/-
  DERIVED. GIVEN WITH THE SEED: THE CARDS: each row of YtgocoofcelggcaaGreatDoorRows.lean that lists a variable, with what it lists TIED to the program's text (the seventh form; the later family's looks); each row that meets fmt, with fmt's text TOLD by the authors' own Lean function (tested against real Go, not proved from fmt's source: count such statements apart). THE CARD IS WHAT COUNTS. Prove the row's statement (the work); the ties are given (YtgocoofcelggcaaGreatDoorTie.lean); close each card by the builder's one call (the guide's Derived/Test/ToyasCard.lean, 'card_holds'). Laid BY PROGRAM, IN A SANDBOX (cutbox-door.mjs). By AI agents, Wed Nov 11 2026. No macro, syntax, notation, axiom, sorry.
-/
import Derived.Test.YtgocoofcelggcaaGreatDoorRows
import GoSem.ClaimSeven
namespace Go.Proofs.YtgocoofcelggcaaGreatDoor
namespace Rows

/-- THE TIED CARD OF 'daybooklaw07.BookOnce'. -/
def bookOnceCard : Claim7 := { stood := { row := bookOnceRow, standIns := [], harness := (true, "0c549d9ea3908255df9c461f3ced314ea4338e6b3106f790553e05004e7f5a80"), looks := true }, kinds := [], alts := [], laidByText := true, laidKinds := [.data, .pinned], laidTests := true, laidLooks := .later }
def BookOnceCardSaid : Prop := Claim7.holds Tryz.pinned (.plain (OpenSpec.ofChange bookOnceSpec)) bookOnceCard

/-- THE TIED CARD OF 'daybooklaw07.BookLocks'. -/
def bookLocksCard : Claim7 := { stood := { row := bookLocksRow, standIns := [], harness := (true, "0c549d9ea3908255df9c461f3ced314ea4338e6b3106f790553e05004e7f5a80"), looks := true }, kinds := [], alts := [], laidByText := true, laidKinds := [.data, .pinned], laidTests := true, laidLooks := .later }
def BookLocksCardSaid : Prop := Claim7.holds Tryz.pinned (.plain (OpenSpec.ofChange bookLocksSpec)) bookLocksCard

/-- THE TIED CARD OF 'daybooklaw07.BookClaims'. -/
def bookClaimsCard : Claim7 := { stood := { row := bookClaimsRow, standIns := [], harness := (true, "0c549d9ea3908255df9c461f3ced314ea4338e6b3106f790553e05004e7f5a80"), looks := true }, kinds := [], alts := [], laidByText := true, laidKinds := [.data, .pinned], laidTests := true, laidLooks := .later }
def BookClaimsCardSaid : Prop := Claim7.holds Tryz.pinned (.plain (OpenSpec.ofChange bookClaimsSpec)) bookClaimsCard

/-- THE TIED CARD OF 'daybooklaw07.BookRefused'. -/
def bookRefusedCard : Claim7 := { stood := { row := bookRefusedRow, standIns := [], harness := (true, "0c549d9ea3908255df9c461f3ced314ea4338e6b3106f790553e05004e7f5a80"), looks := true }, kinds := [], alts := [], laidByText := true, laidKinds := [.data, .pinned], laidTests := true, laidLooks := .later }
def BookRefusedCardSaid : Prop := Claim7.holds Tryz.pinned (.plain (OpenSpec.ofChange bookRefusedSpec)) bookRefusedCard

/-- THE TIED CARD OF 'daybooklaw07.BookBalances'. -/
def bookBalancesCard : Claim7 := { stood := { row := bookBalancesRow, standIns := [], harness := (true, "0c549d9ea3908255df9c461f3ced314ea4338e6b3106f790553e05004e7f5a80"), looks := true }, kinds := [], alts := [], laidByText := true, laidKinds := [.data, .pinned], laidTests := true, laidLooks := .later }
def BookBalancesCardSaid : Prop := Claim7.holds Tryz.pinned (.plain (OpenSpec.ofChange bookBalancesSpec)) bookBalancesCard

/-- THE TIED CARD OF 'daybooklaw07.BookVoids'. -/
def bookVoidsCard : Claim7 := { stood := { row := bookVoidsRow, standIns := [], harness := (true, "0c549d9ea3908255df9c461f3ced314ea4338e6b3106f790553e05004e7f5a80"), looks := true }, kinds := [], alts := [], laidByText := true, laidKinds := [.data, .pinned], laidTests := true, laidLooks := .later }
def BookVoidsCardSaid : Prop := Claim7.holds Tryz.pinned (.plain (OpenSpec.ofChange bookVoidsSpec)) bookVoidsCard

/-- THE TIED CARD OF 'daybooklaw07.BookClosed'. -/
def bookClosedCard : Claim7 := { stood := { row := bookClosedRow, standIns := [], harness := (true, "0c549d9ea3908255df9c461f3ced314ea4338e6b3106f790553e05004e7f5a80"), looks := true }, kinds := [], alts := [], laidByText := true, laidKinds := [.data, .pinned], laidTests := true, laidLooks := .later }
def BookClosedCardSaid : Prop := Claim7.holds Tryz.pinned (.plain (OpenSpec.ofChange bookClosedSpec)) bookClosedCard

/-- THE TIED CARD OF 'daybooklaw07.BookSwaps'. -/
def bookSwapsCard : Claim7 := { stood := { row := bookSwapsRow, standIns := [], harness := (true, "0c549d9ea3908255df9c461f3ced314ea4338e6b3106f790553e05004e7f5a80"), looks := true }, kinds := [], alts := [], laidByText := true, laidKinds := [.data, .pinned], laidTests := true, laidLooks := .later }
def BookSwapsCardSaid : Prop := Claim7.holds Tryz.pinned (.plain (OpenSpec.ofChange bookSwapsSpec)) bookSwapsCard

/-- THE SECOND FORM's CARD OF 'daybooklaw07.BookOnce'. -/
def bookOnceUptoCard : Claim7 := { stood := { row := bookOnceUptoRow, standIns := [], harness := (true, "0c549d9ea3908255df9c461f3ced314ea4338e6b3106f790553e05004e7f5a80"), looks := true }, kinds := [], alts := [], laidByText := true, laidKinds := [.data, .pinned], laidTests := true, laidLooks := .later }
def BookOnceUptoCardSaid : Prop := Claim7.holds Tryz.pinned (.plain (OpenSpec.upto bookOnceSpec)) bookOnceUptoCard

/-- THE SECOND FORM's CARD OF 'daybooklaw07.BookLocks'. -/
def bookLocksUptoCard : Claim7 := { stood := { row := bookLocksUptoRow, standIns := [], harness := (true, "0c549d9ea3908255df9c461f3ced314ea4338e6b3106f790553e05004e7f5a80"), looks := true }, kinds := [], alts := [], laidByText := true, laidKinds := [.data, .pinned], laidTests := true, laidLooks := .later }
def BookLocksUptoCardSaid : Prop := Claim7.holds Tryz.pinned (.plain (OpenSpec.upto bookLocksSpec)) bookLocksUptoCard

/-- THE SECOND FORM's CARD OF 'daybooklaw07.BookClaims'. -/
def bookClaimsUptoCard : Claim7 := { stood := { row := bookClaimsUptoRow, standIns := [], harness := (true, "0c549d9ea3908255df9c461f3ced314ea4338e6b3106f790553e05004e7f5a80"), looks := true }, kinds := [], alts := [], laidByText := true, laidKinds := [.data, .pinned], laidTests := true, laidLooks := .later }
def BookClaimsUptoCardSaid : Prop := Claim7.holds Tryz.pinned (.plain (OpenSpec.upto bookClaimsSpec)) bookClaimsUptoCard

/-- THE SECOND FORM's CARD OF 'daybooklaw07.BookRefused'. -/
def bookRefusedUptoCard : Claim7 := { stood := { row := bookRefusedUptoRow, standIns := [], harness := (true, "0c549d9ea3908255df9c461f3ced314ea4338e6b3106f790553e05004e7f5a80"), looks := true }, kinds := [], alts := [], laidByText := true, laidKinds := [.data, .pinned], laidTests := true, laidLooks := .later }
def BookRefusedUptoCardSaid : Prop := Claim7.holds Tryz.pinned (.plain (OpenSpec.upto bookRefusedSpec)) bookRefusedUptoCard

/-- THE SECOND FORM's CARD OF 'daybooklaw07.BookBalances'. -/
def bookBalancesUptoCard : Claim7 := { stood := { row := bookBalancesUptoRow, standIns := [], harness := (true, "0c549d9ea3908255df9c461f3ced314ea4338e6b3106f790553e05004e7f5a80"), looks := true }, kinds := [], alts := [], laidByText := true, laidKinds := [.data, .pinned], laidTests := true, laidLooks := .later }
def BookBalancesUptoCardSaid : Prop := Claim7.holds Tryz.pinned (.plain (OpenSpec.upto bookBalancesSpec)) bookBalancesUptoCard

/-- THE SECOND FORM's CARD OF 'daybooklaw07.BookVoids'. -/
def bookVoidsUptoCard : Claim7 := { stood := { row := bookVoidsUptoRow, standIns := [], harness := (true, "0c549d9ea3908255df9c461f3ced314ea4338e6b3106f790553e05004e7f5a80"), looks := true }, kinds := [], alts := [], laidByText := true, laidKinds := [.data, .pinned], laidTests := true, laidLooks := .later }
def BookVoidsUptoCardSaid : Prop := Claim7.holds Tryz.pinned (.plain (OpenSpec.upto bookVoidsSpec)) bookVoidsUptoCard

/-- THE SECOND FORM's CARD OF 'daybooklaw07.BookClosed'. -/
def bookClosedUptoCard : Claim7 := { stood := { row := bookClosedUptoRow, standIns := [], harness := (true, "0c549d9ea3908255df9c461f3ced314ea4338e6b3106f790553e05004e7f5a80"), looks := true }, kinds := [], alts := [], laidByText := true, laidKinds := [.data, .pinned], laidTests := true, laidLooks := .later }
def BookClosedUptoCardSaid : Prop := Claim7.holds Tryz.pinned (.plain (OpenSpec.upto bookClosedSpec)) bookClosedUptoCard

/-- THE SECOND FORM's CARD OF 'daybooklaw07.BookSwaps'. -/
def bookSwapsUptoCard : Claim7 := { stood := { row := bookSwapsUptoRow, standIns := [], harness := (true, "0c549d9ea3908255df9c461f3ced314ea4338e6b3106f790553e05004e7f5a80"), looks := true }, kinds := [], alts := [], laidByText := true, laidKinds := [.data, .pinned], laidTests := true, laidLooks := .later }
def BookSwapsUptoCardSaid : Prop := Claim7.holds Tryz.pinned (.plain (OpenSpec.upto bookSwapsSpec)) bookSwapsUptoCard
end Rows
end Go.Proofs.YtgocoofcelggcaaGreatDoor
