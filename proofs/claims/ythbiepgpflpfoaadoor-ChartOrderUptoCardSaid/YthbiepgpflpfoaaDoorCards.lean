/-
  DERIVED. GIVEN WITH THE SEED: THE CARDS: each row of YthbiepgpflpfoaaDoorRows.lean that lists a variable, with what it lists TIED to the program's text (the seventh form; the later family's looks); each row that meets fmt, with fmt's text TOLD by the authors' own Lean function (tested against real Go, not proved from fmt's source: count such statements apart). THE CARD IS WHAT COUNTS. Prove the row's statement (the work); the ties are given (YthbiepgpflpfoaaDoorTie.lean); close each card by the builder's one call (the guide's Derived/Test/ToyasCard.lean, 'card_holds'). Laid BY PROGRAM, IN A SANDBOX (cutbox-door.mjs). By AI agents, Wed Nov 11 2026. No macro, syntax, notation, axiom, sorry.
-/
import Derived.Test.YthbiepgpflpfoaaDoorRows
import GoSem.ClaimSeven
namespace Go.Proofs.YthbiepgpflpfoaaDoor
namespace Rows

/-- THE TIED CARD OF 'daybooklaw06.ChartOrder'. -/
def chartOrderCard : Claim7 := { stood := { row := chartOrderRow, standIns := [], harness := (true, "1cf03ee7aa5970663644820899a9a0226269ca3b63bc549dce5a27b78948f351"), looks := false }, kinds := [], alts := [], laidByText := true, laidKinds := [.data, .pinned], laidTests := true, laidLooks := .later }
def ChartOrderCardSaid : Prop := Claim7.holds Tryd.pinned (.plain (OpenSpec.ofChange chartOrderSpec)) chartOrderCard

/-- THE TIED CARD OF 'daybooklaw06.ChartTwins'. -/
def chartTwinsCard : Claim7 := { stood := { row := chartTwinsRow, standIns := [], harness := (true, "1cf03ee7aa5970663644820899a9a0226269ca3b63bc549dce5a27b78948f351"), looks := false }, kinds := [], alts := [], laidByText := true, laidKinds := [.data, .pinned], laidTests := true, laidLooks := .later }
def ChartTwinsCardSaid : Prop := Claim7.holds Tryd.pinned (.plain (OpenSpec.ofChange chartTwinsSpec)) chartTwinsCard

/-- THE TIED CARD OF 'daybooklaw06.ChartTree'. -/
def chartTreeCard : Claim7 := { stood := { row := chartTreeRow, standIns := [], harness := (true, "1cf03ee7aa5970663644820899a9a0226269ca3b63bc549dce5a27b78948f351"), looks := false }, kinds := [], alts := [], laidByText := true, laidKinds := [.data, .pinned], laidTests := true, laidLooks := .later }
def ChartTreeCardSaid : Prop := Claim7.holds Tryd.pinned (.plain (OpenSpec.ofChange chartTreeSpec)) chartTreeCard

/-- THE SECOND FORM's CARD OF 'daybooklaw06.ChartOrder'. -/
def chartOrderUptoCard : Claim7 := { stood := { row := chartOrderUptoRow, standIns := [], harness := (true, "1cf03ee7aa5970663644820899a9a0226269ca3b63bc549dce5a27b78948f351"), looks := false }, kinds := [], alts := [], laidByText := true, laidKinds := [.data, .pinned], laidTests := true, laidLooks := .later }
def ChartOrderUptoCardSaid : Prop := Claim7.holds Tryd.pinned (.plain (OpenSpec.upto chartOrderSpec)) chartOrderUptoCard

/-- THE SECOND FORM's CARD OF 'daybooklaw06.ChartTwins'. -/
def chartTwinsUptoCard : Claim7 := { stood := { row := chartTwinsUptoRow, standIns := [], harness := (true, "1cf03ee7aa5970663644820899a9a0226269ca3b63bc549dce5a27b78948f351"), looks := false }, kinds := [], alts := [], laidByText := true, laidKinds := [.data, .pinned], laidTests := true, laidLooks := .later }
def ChartTwinsUptoCardSaid : Prop := Claim7.holds Tryd.pinned (.plain (OpenSpec.upto chartTwinsSpec)) chartTwinsUptoCard

/-- THE SECOND FORM's CARD OF 'daybooklaw06.ChartTree'. -/
def chartTreeUptoCard : Claim7 := { stood := { row := chartTreeUptoRow, standIns := [], harness := (true, "1cf03ee7aa5970663644820899a9a0226269ca3b63bc549dce5a27b78948f351"), looks := false }, kinds := [], alts := [], laidByText := true, laidKinds := [.data, .pinned], laidTests := true, laidLooks := .later }
def ChartTreeUptoCardSaid : Prop := Claim7.holds Tryd.pinned (.plain (OpenSpec.upto chartTreeSpec)) chartTreeUptoCard
end Rows
end Go.Proofs.YthbiepgpflpfoaaDoor
