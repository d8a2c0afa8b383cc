/-
  DERIVED. GIVEN WITH THE SEED: THE CARDS: each row of YtckbkcjhalimpabGreatDoorRows.lean that lists a variable, with what it lists TIED to the program's text (the seventh form; the later family's looks); each row that meets fmt, with fmt's text TOLD by the authors' own Lean function (tested against real Go, not proved from fmt's source: count such statements apart). THE CARD IS WHAT COUNTS. Prove the row's statement (the work); the ties are given (YtckbkcjhalimpabGreatDoorTie.lean); close each card by the builder's one call (the guide's Derived/Test/ToyasCard.lean, 'card_holds'). Laid BY PROGRAM, IN A SANDBOX (cutbox-door.mjs). By AI agents, Wed Nov 11 2026. No macro, syntax, notation, axiom, sorry.
-/
import Derived.Test.YtckbkcjhalimpabGreatDoorRows
import GoSem.ClaimSeven
namespace Go.Proofs.YtckbkcjhalimpabGreatDoor
namespace Rows

/-- THE TIED CARD OF 'hauberklaw15.ShapePacks'. -/
def shapePacksCard : Claim7 := { stood := { row := shapePacksRow, standIns := [], harness := (true, "08e5a0293779cea3080e2e4baac383f41bc12476401bf24bbf68834469ad726a"), looks := true }, kinds := [], alts := [], laidByText := true, laidKinds := [.data, .data, .data, .listed, .data], laidTests := true, laidLooks := .later }
def ShapePacksCardSaid : Prop := Claim7.holds Tryz.pinned (.plain (OpenSpec.ofChange shapePacksSpec)) shapePacksCard

/-- THE SECOND FORM's CARD OF 'hauberklaw15.ShapePacks'. -/
def shapePacksUptoCard : Claim7 := { stood := { row := shapePacksUptoRow, standIns := [], harness := (true, "08e5a0293779cea3080e2e4baac383f41bc12476401bf24bbf68834469ad726a"), looks := true }, kinds := [], alts := [], laidByText := true, laidKinds := [.data, .data, .data, .listed, .data], laidTests := true, laidLooks := .later }
def ShapePacksUptoCardSaid : Prop := Claim7.holds Tryz.pinned (.plain (OpenSpec.upto shapePacksSpec)) shapePacksUptoCard
end Rows
end Go.Proofs.YtckbkcjhalimpabGreatDoor
