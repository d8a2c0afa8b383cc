/-
  DERIVED. GIVEN WITH THE SEED: THE CARDS: each row of YtgllbnabmglcfaaGreatDoorRows.lean that lists a variable, with what it lists TIED to the program's text (the seventh form; the later family's looks); each row that meets fmt, with fmt's text TOLD by the authors' own Lean function (tested against real Go, not proved from fmt's source: count such statements apart). THE CARD IS WHAT COUNTS. Prove the row's statement (the work); the ties are given (YtgllbnabmglcfaaGreatDoorTie.lean); close each card by the builder's one call (the guide's Derived/Test/ToyasCard.lean, 'card_holds'). Laid BY PROGRAM, IN A SANDBOX (cutbox-door.mjs). By AI agents, Wed Nov 11 2026. No macro, syntax, notation, axiom, sorry.
-/
import Derived.Test.YtgllbnabmglcfaaGreatDoorRows
import GoSem.ClaimSeven
namespace Go.Proofs.YtgllbnabmglcfaaGreatDoor
namespace Rows

/-- THE TIED CARD OF 'hauberklaw32.EmitLabels'. -/
def emitLabelsCard : Claim7 := { stood := { row := emitLabelsRow, standIns := [], harness := (true, "5d86905073ea4312d0e70af0f18e02a7751f33671d963c476094b2adc27c966c"), looks := false }, kinds := [], alts := [], laidByText := true, laidKinds := [.data], laidTests := true, laidLooks := .later }
def EmitLabelsCardSaid : Prop := Claim7.holds Tryz.pinned (.plain (OpenSpec.ofChange emitLabelsSpec)) emitLabelsCard

/-- THE TIED CARD OF 'hauberklaw32.EmitTwice'. -/
def emitTwiceCard : Claim7 := { stood := { row := emitTwiceRow, standIns := [], harness := (true, "5d86905073ea4312d0e70af0f18e02a7751f33671d963c476094b2adc27c966c"), looks := false }, kinds := [], alts := [], laidByText := true, laidKinds := [.data], laidTests := true, laidLooks := .later }
def EmitTwiceCardSaid : Prop := Claim7.holds Tryz.pinned (.plain (OpenSpec.ofChange emitTwiceSpec)) emitTwiceCard

/-- THE SECOND FORM's CARD OF 'hauberklaw32.EmitLabels'. -/
def emitLabelsUptoCard : Claim7 := { stood := { row := emitLabelsUptoRow, standIns := [], harness := (true, "5d86905073ea4312d0e70af0f18e02a7751f33671d963c476094b2adc27c966c"), looks := false }, kinds := [], alts := [], laidByText := true, laidKinds := [.data], laidTests := true, laidLooks := .later }
def EmitLabelsUptoCardSaid : Prop := Claim7.holds Tryz.pinned (.plain (OpenSpec.upto emitLabelsSpec)) emitLabelsUptoCard

/-- THE SECOND FORM's CARD OF 'hauberklaw32.EmitTwice'. -/
def emitTwiceUptoCard : Claim7 := { stood := { row := emitTwiceUptoRow, standIns := [], harness := (true, "5d86905073ea4312d0e70af0f18e02a7751f33671d963c476094b2adc27c966c"), looks := false }, kinds := [], alts := [], laidByText := true, laidKinds := [.data], laidTests := true, laidLooks := .later }
def EmitTwiceUptoCardSaid : Prop := Claim7.holds Tryz.pinned (.plain (OpenSpec.upto emitTwiceSpec)) emitTwiceUptoCard
end Rows
end Go.Proofs.YtgllbnabmglcfaaGreatDoor
