/-
  DERIVED. GIVEN WITH THE SEED: THE CARDS: each row of YtlddmnojanpdoaaGreatDoorRows.lean that lists a variable, with what it lists TIED to the program's text (the seventh form; the later family's looks); each row that meets fmt, with fmt's text TOLD by the authors' own Lean function (tested against real Go, not proved from fmt's source: count such statements apart). THE CARD IS WHAT COUNTS. Prove the row's statement (the work); the ties are given (YtlddmnojanpdoaaGreatDoorTie.lean); close each card by the builder's one call (the guide's Derived/Test/ToyasCard.lean, 'card_holds'). Laid BY PROGRAM, IN A SANDBOX (cutbox-door.mjs). By AI agents, Wed Nov 11 2026. No macro, syntax, notation, axiom, sorry.
-/
import Derived.Test.YtlddmnojanpdoaaGreatDoorRows
import GoSem.ClaimSeven
namespace Go.Proofs.YtlddmnojanpdoaaGreatDoor
namespace Rows

/-- THE TIED CARD OF 'hauberklaw13.ProseTells'. -/
def proseTellsCard : Claim7 := { stood := { row := proseTellsRow, standIns := [], harness := (true, "36622dbf35b780ece5145252ee266e4077d61d12cb0c4022b99d553eb67bb50f"), looks := true }, kinds := [], alts := [], laidByText := true, laidKinds := [.data, .data, .data, .listed, .data], laidTests := true, laidLooks := .later }
def ProseTellsCardSaid : Prop := Claim7.holds Tryz.pinned (.plain (OpenSpec.ofChange proseTellsSpec)) proseTellsCard

/-- THE TIED CARD OF 'hauberklaw13.ProseExpr'. -/
def proseExprCard : Claim7 := { stood := { row := proseExprRow, standIns := [], harness := (true, "36622dbf35b780ece5145252ee266e4077d61d12cb0c4022b99d553eb67bb50f"), looks := true }, kinds := [], alts := [], laidByText := true, laidKinds := [.data, .data, .data, .listed, .data], laidTests := true, laidLooks := .later }
def ProseExprCardSaid : Prop := Claim7.holds Tryz.pinned (.plain (OpenSpec.ofChange proseExprSpec)) proseExprCard

/-- THE TIED CARD OF 'hauberklaw14.TypesCheck'. -/
def typesCheckCard : Claim7 := { stood := { row := typesCheckRow, standIns := [], harness := (true, "36622dbf35b780ece5145252ee266e4077d61d12cb0c4022b99d553eb67bb50f"), looks := true }, kinds := [], alts := [], laidByText := true, laidKinds := [.data, .data, .data, .listed, .data], laidTests := true, laidLooks := .later }
def TypesCheckCardSaid : Prop := Claim7.holds Tryz.pinned (.plain (OpenSpec.ofChange typesCheckSpec)) typesCheckCard

/-- THE TIED CARD OF 'hauberklaw14.TypesChanged'. -/
def typesChangedCard : Claim7 := { stood := { row := typesChangedRow, standIns := [], harness := (true, "36622dbf35b780ece5145252ee266e4077d61d12cb0c4022b99d553eb67bb50f"), looks := true }, kinds := [], alts := [], laidByText := true, laidKinds := [.data, .data, .data, .listed, .data], laidTests := true, laidLooks := .later }
def TypesChangedCardSaid : Prop := Claim7.holds Tryz.pinned (.plain (OpenSpec.ofChange typesChangedSpec)) typesChangedCard

/-- THE TIED CARD OF 'hauberklaw13.ProseBack'. -/
def proseBackCard : Claim7 := { stood := { row := proseBackRow, standIns := [], harness := (true, "36622dbf35b780ece5145252ee266e4077d61d12cb0c4022b99d553eb67bb50f"), looks := true }, kinds := [], alts := [], laidByText := true, laidKinds := [.data, .data, .data, .listed, .data], laidTests := true, laidLooks := .later }
def ProseBackCardSaid : Prop := Claim7.holds Tryz.pinned (.plain (OpenSpec.ofChange proseBackSpec)) proseBackCard

/-- THE TIED CARD OF 'hauberklaw13.ProseLines'. -/
def proseLinesCard : Claim7 := { stood := { row := proseLinesRow, standIns := [], harness := (true, "36622dbf35b780ece5145252ee266e4077d61d12cb0c4022b99d553eb67bb50f"), looks := true }, kinds := [], alts := [], laidByText := true, laidKinds := [.data, .data, .data, .listed, .data], laidTests := true, laidLooks := .later }
def ProseLinesCardSaid : Prop := Claim7.holds Tryz.pinned (.plain (OpenSpec.ofChange proseLinesSpec)) proseLinesCard

/-- THE TIED CARD OF 'hauberklaw14.TypesOpen'. -/
def typesOpenCard : Claim7 := { stood := { row := typesOpenRow, standIns := [], harness := (true, "36622dbf35b780ece5145252ee266e4077d61d12cb0c4022b99d553eb67bb50f"), looks := true }, kinds := [], alts := [], laidByText := true, laidKinds := [.data, .data, .data, .listed, .data], laidTests := true, laidLooks := .later }
def TypesOpenCardSaid : Prop := Claim7.holds Tryz.pinned (.plain (OpenSpec.ofChange typesOpenSpec)) typesOpenCard

/-- THE TIED CARD OF 'hauberklaw14.TypesAhead'. -/
def typesAheadCard : Claim7 := { stood := { row := typesAheadRow, standIns := [], harness := (true, "36622dbf35b780ece5145252ee266e4077d61d12cb0c4022b99d553eb67bb50f"), looks := true }, kinds := [], alts := [], laidByText := true, laidKinds := [.data, .data, .data, .listed, .data], laidTests := true, laidLooks := .later }
def TypesAheadCardSaid : Prop := Claim7.holds Tryz.pinned (.plain (OpenSpec.ofChange typesAheadSpec)) typesAheadCard

/-- THE SECOND FORM's CARD OF 'hauberklaw13.ProseTells'. -/
def proseTellsUptoCard : Claim7 := { stood := { row := proseTellsUptoRow, standIns := [], harness := (true, "36622dbf35b780ece5145252ee266e4077d61d12cb0c4022b99d553eb67bb50f"), looks := true }, kinds := [], alts := [], laidByText := true, laidKinds := [.data, .data, .data, .listed, .data], laidTests := true, laidLooks := .later }
def ProseTellsUptoCardSaid : Prop := Claim7.holds Tryz.pinned (.plain (OpenSpec.upto proseTellsSpec)) proseTellsUptoCard

/-- THE SECOND FORM's CARD OF 'hauberklaw13.ProseExpr'. -/
def proseExprUptoCard : Claim7 := { stood := { row := proseExprUptoRow, standIns := [], harness := (true, "36622dbf35b780ece5145252ee266e4077d61d12cb0c4022b99d553eb67bb50f"), looks := true }, kinds := [], alts := [], laidByText := true, laidKinds := [.data, .data, .data, .listed, .data], laidTests := true, laidLooks := .later }
def ProseExprUptoCardSaid : Prop := Claim7.holds Tryz.pinned (.plain (OpenSpec.upto proseExprSpec)) proseExprUptoCard

/-- THE SECOND FORM's CARD OF 'hauberklaw14.TypesCheck'. -/
def typesCheckUptoCard : Claim7 := { stood := { row := typesCheckUptoRow, standIns := [], harness := (true, "36622dbf35b780ece5145252ee266e4077d61d12cb0c4022b99d553eb67bb50f"), looks := true }, kinds := [], alts := [], laidByText := true, laidKinds := [.data, .data, .data, .listed, .data], laidTests := true, laidLooks := .later }
def TypesCheckUptoCardSaid : Prop := Claim7.holds Tryz.pinned (.plain (OpenSpec.upto typesCheckSpec)) typesCheckUptoCard

/-- THE SECOND FORM's CARD OF 'hauberklaw14.TypesChanged'. -/
def typesChangedUptoCard : Claim7 := { stood := { row := typesChangedUptoRow, standIns := [], harness := (true, "36622dbf35b780ece5145252ee266e4077d61d12cb0c4022b99d553eb67bb50f"), looks := true }, kinds := [], alts := [], laidByText := true, laidKinds := [.data, .data, .data, .listed, .data], laidTests := true, laidLooks := .later }
def TypesChangedUptoCardSaid : Prop := Claim7.holds Tryz.pinned (.plain (OpenSpec.upto typesChangedSpec)) typesChangedUptoCard

/-- THE SECOND FORM's CARD OF 'hauberklaw13.ProseBack'. -/
def proseBackUptoCard : Claim7 := { stood := { row := proseBackUptoRow, standIns := [], harness := (true, "36622dbf35b780ece5145252ee266e4077d61d12cb0c4022b99d553eb67bb50f"), looks := true }, kinds := [], alts := [], laidByText := true, laidKinds := [.data, .data, .data, .listed, .data], laidTests := true, laidLooks := .later }
def ProseBackUptoCardSaid : Prop := Claim7.holds Tryz.pinned (.plain (OpenSpec.upto proseBackSpec)) proseBackUptoCard

/-- THE SECOND FORM's CARD OF 'hauberklaw13.ProseLines'. -/
def proseLinesUptoCard : Claim7 := { stood := { row := proseLinesUptoRow, standIns := [], harness := (true, "36622dbf35b780ece5145252ee266e4077d61d12cb0c4022b99d553eb67bb50f"), looks := true }, kinds := [], alts := [], laidByText := true, laidKinds := [.data, .data, .data, .listed, .data], laidTests := true, laidLooks := .later }
def ProseLinesUptoCardSaid : Prop := Claim7.holds Tryz.pinned (.plain (OpenSpec.upto proseLinesSpec)) proseLinesUptoCard

/-- THE SECOND FORM's CARD OF 'hauberklaw14.TypesOpen'. -/
def typesOpenUptoCard : Claim7 := { stood := { row := typesOpenUptoRow, standIns := [], harness := (true, "36622dbf35b780ece5145252ee266e4077d61d12cb0c4022b99d553eb67bb50f"), looks := true }, kinds := [], alts := [], laidByText := true, laidKinds := [.data, .data, .data, .listed, .data], laidTests := true, laidLooks := .later }
def TypesOpenUptoCardSaid : Prop := Claim7.holds Tryz.pinned (.plain (OpenSpec.upto typesOpenSpec)) typesOpenUptoCard

/-- THE SECOND FORM's CARD OF 'hauberklaw14.TypesAhead'. -/
def typesAheadUptoCard : Claim7 := { stood := { row := typesAheadUptoRow, standIns := [], harness := (true, "36622dbf35b780ece5145252ee266e4077d61d12cb0c4022b99d553eb67bb50f"), looks := true }, kinds := [], alts := [], laidByText := true, laidKinds := [.data, .data, .data, .listed, .data], laidTests := true, laidLooks := .later }
def TypesAheadUptoCardSaid : Prop := Claim7.holds Tryz.pinned (.plain (OpenSpec.upto typesAheadSpec)) typesAheadUptoCard
end Rows
end Go.Proofs.YtlddmnojanpdoaaGreatDoor
