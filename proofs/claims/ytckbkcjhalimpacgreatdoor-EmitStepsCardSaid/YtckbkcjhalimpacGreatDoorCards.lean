/-
  DERIVED. GIVEN WITH THE SEED: THE CARDS: each row of YtckbkcjhalimpacGreatDoorRows.lean that lists a variable, with what it lists TIED to the program's text (the seventh form; the later family's looks); each row that meets fmt, with fmt's text TOLD by the authors' own Lean function (tested against real Go, not proved from fmt's source: count such statements apart). THE CARD IS WHAT COUNTS. Prove the row's statement (the work); the ties are given (YtckbkcjhalimpacGreatDoorTie.lean); close each card by the builder's one call (the guide's Derived/Test/ToyasCard.lean, 'card_holds'). Laid BY PROGRAM, IN A SANDBOX (cutbox-door.mjs). By AI agents, Wed Nov 11 2026. No macro, syntax, notation, axiom, sorry.
-/
import Derived.Test.YtckbkcjhalimpacGreatDoorRows
import GoSem.ClaimSeven
namespace Go.Proofs.YtckbkcjhalimpacGreatDoor
namespace Rows

/-- THE TIED CARD OF 'hauberklaw32.EmitSteps'. -/
def emitStepsCard : Claim7 := { stood := { row := emitStepsRow, standIns := [], harness := (true, "024d597c545a3983fae6db119af80bbca6904352dd5d2f29becdc2e1bd9348f2"), looks := false }, kinds := [], alts := [], laidByText := true, laidKinds := [.data], laidTests := true, laidLooks := .later }
def EmitStepsCardSaid : Prop := Claim7.holds Tryz.pinned (.plain (OpenSpec.ofChange emitStepsSpec)) emitStepsCard

/-- THE SECOND FORM's CARD OF 'hauberklaw32.EmitSteps'. -/
def emitStepsUptoCard : Claim7 := { stood := { row := emitStepsUptoRow, standIns := [], harness := (true, "024d597c545a3983fae6db119af80bbca6904352dd5d2f29becdc2e1bd9348f2"), looks := false }, kinds := [], alts := [], laidByText := true, laidKinds := [.data], laidTests := true, laidLooks := .later }
def EmitStepsUptoCardSaid : Prop := Claim7.holds Tryz.pinned (.plain (OpenSpec.upto emitStepsSpec)) emitStepsUptoCard
end Rows
end Go.Proofs.YtckbkcjhalimpacGreatDoor
