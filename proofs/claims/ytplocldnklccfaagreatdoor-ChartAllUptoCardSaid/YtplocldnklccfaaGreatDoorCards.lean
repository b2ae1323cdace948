/-
  DERIVED. GIVEN WITH THE SEED: THE CARDS: each row of YtplocldnklccfaaGreatDoorRows.lean that lists a variable, with what it lists TIED to the program's text (the seventh form; the later family's looks); each row that meets fmt, with fmt's text TOLD by the authors' own Lean function (tested against real Go, not proved from fmt's source: count such statements apart). THE CARD IS WHAT COUNTS. Prove the row's statement (the work); the ties are given (YtplocldnklccfaaGreatDoorTie.lean); close each card by the builder's one call (the guide's Derived/Test/ToyasCard.lean, 'card_holds'). Laid BY PROGRAM, IN A SANDBOX (cutbox-door.mjs). By AI agents, Wed Nov 11 2026. No macro, syntax, notation, axiom, sorry.
-/
import Derived.Test.YtplocldnklccfaaGreatDoorRows
import GoSem.ClaimSeven
namespace Go.Proofs.YtplocldnklccfaaGreatDoor
namespace Rows

/-- THE TIED CARD OF 'daybooklaw06.ChartNames'. -/
def chartNamesCard : Claim7 := { stood := { row := chartNamesRow, standIns := [], harness := (true, "f028e96f815cff46758a96dbbac37e340dd4cd502ee0b07e80353fe7f190d74e"), looks := false }, kinds := [], alts := [], laidByText := true, laidKinds := [.data, .data, .data, .data, .pinned], laidTests := true, laidLooks := .later }
def ChartNamesCardSaid : Prop := Claim7.holds Tryz.pinned (.plain (OpenSpec.ofChange chartNamesSpec)) chartNamesCard

/-- THE TIED CARD OF 'daybooklaw06.ChartCalls'. -/
def chartCallsCard : Claim7 := { stood := { row := chartCallsRow, standIns := [], harness := (true, "f028e96f815cff46758a96dbbac37e340dd4cd502ee0b07e80353fe7f190d74e"), looks := false }, kinds := [], alts := [], laidByText := true, laidKinds := [.data, .data, .data, .data, .pinned], laidTests := true, laidLooks := .later }
def ChartCallsCardSaid : Prop := Claim7.holds Tryz.pinned (.plain (OpenSpec.ofChange chartCallsSpec)) chartCallsCard

/-- THE TIED CARD OF 'daybooklaw06.ChartAll'. -/
def chartAllCard : Claim7 := { stood := { row := chartAllRow, standIns := [], harness := (true, "f028e96f815cff46758a96dbbac37e340dd4cd502ee0b07e80353fe7f190d74e"), looks := false }, kinds := [], alts := [], laidByText := true, laidKinds := [.data, .data, .data, .data, .pinned], laidTests := true, laidLooks := .later }
def ChartAllCardSaid : Prop := Claim7.holds Tryz.pinned (.plain (OpenSpec.ofChange chartAllSpec)) chartAllCard

/-- THE SECOND FORM's CARD OF 'daybooklaw06.ChartNames'. -/
def chartNamesUptoCard : Claim7 := { stood := { row := chartNamesUptoRow, standIns := [], harness := (true, "f028e96f815cff46758a96dbbac37e340dd4cd502ee0b07e80353fe7f190d74e"), looks := false }, kinds := [], alts := [], laidByText := true, laidKinds := [.data, .data, .data, .data, .pinned], laidTests := true, laidLooks := .later }
def ChartNamesUptoCardSaid : Prop := Claim7.holds Tryz.pinned (.plain (OpenSpec.upto chartNamesSpec)) chartNamesUptoCard

/-- THE SECOND FORM's CARD OF 'daybooklaw06.ChartCalls'. -/
def chartCallsUptoCard : Claim7 := { stood := { row := chartCallsUptoRow, standIns := [], harness := (true, "f028e96f815cff46758a96dbbac37e340dd4cd502ee0b07e80353fe7f190d74e"), looks := false }, kinds := [], alts := [], laidByText := true, laidKinds := [.data, .data, .data, .data, .pinned], laidTests := true, laidLooks := .later }
def ChartCallsUptoCardSaid : Prop := Claim7.holds Tryz.pinned (.plain (OpenSpec.upto chartCallsSpec)) chartCallsUptoCard

/-- THE SECOND FORM's CARD OF 'daybooklaw06.ChartAll'. -/
def chartAllUptoCard : Claim7 := { stood := { row := chartAllUptoRow, standIns := [], harness := (true, "f028e96f815cff46758a96dbbac37e340dd4cd502ee0b07e80353fe7f190d74e"), looks := false }, kinds := [], alts := [], laidByText := true, laidKinds := [.data, .data, .data, .data, .pinned], laidTests := true, laidLooks := .later }
def ChartAllUptoCardSaid : Prop := Claim7.holds Tryz.pinned (.plain (OpenSpec.upto chartAllSpec)) chartAllUptoCard
end Rows
end Go.Proofs.YtplocldnklccfaaGreatDoor
