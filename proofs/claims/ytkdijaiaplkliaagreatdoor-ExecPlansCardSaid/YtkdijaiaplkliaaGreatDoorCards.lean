/-
  DERIVED. GIVEN WITH THE SEED: THE CARDS: each row of YtkdijaiaplkliaaGreatDoorRows.lean that lists a variable, with what it lists TIED to the program's text (the seventh form; the later family's looks); each row that meets fmt, with fmt's text TOLD by the authors' own Lean function (tested against real Go, not proved from fmt's source: count such statements apart). THE CARD IS WHAT COUNTS. Prove the row's statement (the work); the ties are given (YtkdijaiaplkliaaGreatDoorTie.lean); close each card by the builder's one call (the guide's Derived/Test/ToyasCard.lean, 'card_holds'). Laid BY PROGRAM, IN A SANDBOX (cutbox-door.mjs). By AI agents, Wed Nov 11 2026. No macro, syntax, notation, axiom, sorry.
-/
import Derived.Test.YtkdijaiaplkliaaGreatDoorRows
import GoSem.ClaimSeven
namespace Go.Proofs.YtkdijaiaplkliaaGreatDoor
namespace Rows

/-- THE TIED CARD OF 'tracebooklaw44.ExecSteps'. -/
def execStepsCard : Claim7 := { stood := { row := execStepsRow, standIns := [], harness := (true, "a02a0d9571cec3b414476a6c5cbec92075315c90e097b2af556576c608676583"), looks := true }, kinds := [], alts := [], laidByText := true, laidKinds := [.data, .data, .data, .data, .pinned, .pinned, .pinned, .pinned, .pinned, .pinned], laidTests := true, laidLooks := .later }
def ExecStepsCardSaid : Prop := Claim7.holds Tryz.pinned (.plain (OpenSpec.ofChange execStepsSpec)) execStepsCard

/-- THE TIED CARD OF 'tracebooklaw44.ExecQueries'. -/
def execQueriesCard : Claim7 := { stood := { row := execQueriesRow, standIns := [], harness := (true, "a02a0d9571cec3b414476a6c5cbec92075315c90e097b2af556576c608676583"), looks := true }, kinds := [], alts := [], laidByText := true, laidKinds := [.data, .data, .data, .data, .pinned, .pinned, .pinned, .pinned, .pinned, .pinned], laidTests := true, laidLooks := .later }
def ExecQueriesCardSaid : Prop := Claim7.holds Tryz.pinned (.plain (OpenSpec.ofChange execQueriesSpec)) execQueriesCard

/-- THE TIED CARD OF 'tracebooklaw44.ExecPlans'. -/
def execPlansCard : Claim7 := { stood := { row := execPlansRow, standIns := [], harness := (true, "a02a0d9571cec3b414476a6c5cbec92075315c90e097b2af556576c608676583"), looks := true }, kinds := [], alts := [], laidByText := true, laidKinds := [.data, .data, .data, .data, .pinned, .pinned, .pinned, .pinned, .pinned, .pinned], laidTests := true, laidLooks := .later }
def ExecPlansCardSaid : Prop := Claim7.holds Tryz.pinned (.plain (OpenSpec.ofChange execPlansSpec)) execPlansCard

/-- THE TIED CARD OF 'tracebooklaw44.ExecBounds'. -/
def execBoundsCard : Claim7 := { stood := { row := execBoundsRow, standIns := [], harness := (true, "a02a0d9571cec3b414476a6c5cbec92075315c90e097b2af556576c608676583"), looks := true }, kinds := [], alts := [], laidByText := true, laidKinds := [.data, .data, .data, .data, .pinned, .pinned, .pinned, .pinned, .pinned, .pinned], laidTests := true, laidLooks := .later }
def ExecBoundsCardSaid : Prop := Claim7.holds Tryz.pinned (.plain (OpenSpec.ofChange execBoundsSpec)) execBoundsCard

/-- THE SECOND FORM's CARD OF 'tracebooklaw44.ExecSteps'. -/
def execStepsUptoCard : Claim7 := { stood := { row := execStepsUptoRow, standIns := [], harness := (true, "a02a0d9571cec3b414476a6c5cbec92075315c90e097b2af556576c608676583"), looks := true }, kinds := [], alts := [], laidByText := true, laidKinds := [.data, .data, .data, .data, .pinned, .pinned, .pinned, .pinned, .pinned, .pinned], laidTests := true, laidLooks := .later }
def ExecStepsUptoCardSaid : Prop := Claim7.holds Tryz.pinned (.plain (OpenSpec.upto execStepsSpec)) execStepsUptoCard

/-- THE SECOND FORM's CARD OF 'tracebooklaw44.ExecQueries'. -/
def execQueriesUptoCard : Claim7 := { stood := { row := execQueriesUptoRow, standIns := [], harness := (true, "a02a0d9571cec3b414476a6c5cbec92075315c90e097b2af556576c608676583"), looks := true }, kinds := [], alts := [], laidByText := true, laidKinds := [.data, .data, .data, .data, .pinned, .pinned, .pinned, .pinned, .pinned, .pinned], laidTests := true, laidLooks := .later }
def ExecQueriesUptoCardSaid : Prop := Claim7.holds Tryz.pinned (.plain (OpenSpec.upto execQueriesSpec)) execQueriesUptoCard

/-- THE SECOND FORM's CARD OF 'tracebooklaw44.ExecPlans'. -/
def execPlansUptoCard : Claim7 := { stood := { row := execPlansUptoRow, standIns := [], harness := (true, "a02a0d9571cec3b414476a6c5cbec92075315c90e097b2af556576c608676583"), looks := true }, kinds := [], alts := [], laidByText := true, laidKinds := [.data, .data, .data, .data, .pinned, .pinned, .pinned, .pinned, .pinned, .pinned], laidTests := true, laidLooks := .later }
def ExecPlansUptoCardSaid : Prop := Claim7.holds Tryz.pinned (.plain (OpenSpec.upto execPlansSpec)) execPlansUptoCard

/-- THE SECOND FORM's CARD OF 'tracebooklaw44.ExecBounds'. -/
def execBoundsUptoCard : Claim7 := { stood := { row := execBoundsUptoRow, standIns := [], harness := (true, "a02a0d9571cec3b414476a6c5cbec92075315c90e097b2af556576c608676583"), looks := true }, kinds := [], alts := [], laidByText := true, laidKinds := [.data, .data, .data, .data, .pinned, .pinned, .pinned, .pinned, .pinned, .pinned], laidTests := true, laidLooks := .later }
def ExecBoundsUptoCardSaid : Prop := Claim7.holds Tryz.pinned (.plain (OpenSpec.upto execBoundsSpec)) execBoundsUptoCard
end Rows
end Go.Proofs.YtkdijaiaplkliaaGreatDoor
