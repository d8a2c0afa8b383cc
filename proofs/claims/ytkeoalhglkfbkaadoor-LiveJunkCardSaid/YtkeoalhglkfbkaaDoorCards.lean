/-
  DERIVED. GIVEN WITH THE SEED: THE CARDS: each row of YtkeoalhglkfbkaaDoorRows.lean that lists a variable, with what it lists TIED to the program's text (the seventh form; the later family's looks); each row that meets fmt, with fmt's text TOLD by the authors' own Lean function (tested against real Go, not proved from fmt's source: count such statements apart). THE CARD IS WHAT COUNTS. Prove the row's statement (the work); the ties are given (YtkeoalhglkfbkaaDoorTie.lean); close each card by the builder's one call (the guide's Derived/Test/ToyasCard.lean, 'card_holds'). Laid BY PROGRAM, IN A SANDBOX (cutbox-door.mjs). By AI agents, Wed Nov 11 2026. No macro, syntax, notation, axiom, sorry.
-/
import Derived.Test.YtkeoalhglkfbkaaDoorRows
import GoSem.ClaimSeven
namespace Go.Proofs.YtkeoalhglkfbkaaDoor
namespace Rows

/-- THE TIED CARD OF 'hauberklaw11.LexTells'. -/
def lexTellsCard : Claim7 := { stood := { row := lexTellsRow, standIns := [], harness := (true, "7c8527047ffb63bdbc7985bab493d381175d25fc55ed6eef943fa30bf11f58b5"), looks := true }, kinds := [], alts := [], laidByText := true, laidKinds := [.listed, .data], laidTests := true, laidLooks := .later }
def LexTellsCardSaid : Prop := Claim7.holds Tryd.pinned (.plain (OpenSpec.ofChange lexTellsSpec)) lexTellsCard

/-- THE TIED CARD OF 'hauberklaw11.LexJoins'. -/
def lexJoinsCard : Claim7 := { stood := { row := lexJoinsRow, standIns := [], harness := (true, "7c8527047ffb63bdbc7985bab493d381175d25fc55ed6eef943fa30bf11f58b5"), looks := true }, kinds := [], alts := [], laidByText := true, laidKinds := [.listed, .data], laidTests := true, laidLooks := .later }
def LexJoinsCardSaid : Prop := Claim7.holds Tryd.pinned (.plain (OpenSpec.ofChange lexJoinsSpec)) lexJoinsCard

/-- THE TIED CARD OF 'hauberklaw11.LexAgain'. -/
def lexAgainCard : Claim7 := { stood := { row := lexAgainRow, standIns := [], harness := (true, "7c8527047ffb63bdbc7985bab493d381175d25fc55ed6eef943fa30bf11f58b5"), looks := true }, kinds := [], alts := [], laidByText := true, laidKinds := [.listed, .data], laidTests := true, laidLooks := .later }
def LexAgainCardSaid : Prop := Claim7.holds Tryd.pinned (.plain (OpenSpec.ofChange lexAgainSpec)) lexAgainCard

/-- THE TIED CARD OF 'hauberklaw21.LiveTells'. -/
def liveTellsCard : Claim7 := { stood := { row := liveTellsRow, standIns := [], harness := (true, "7c8527047ffb63bdbc7985bab493d381175d25fc55ed6eef943fa30bf11f58b5"), looks := true }, kinds := [], alts := [], laidByText := true, laidKinds := [.data], laidTests := true, laidLooks := .later }
def LiveTellsCardSaid : Prop := Claim7.holds Tryd.pinned (.plain (OpenSpec.ofChange liveTellsSpec)) liveTellsCard

/-- THE TIED CARD OF 'hauberklaw21.LiveFlows'. -/
def liveFlowsCard : Claim7 := { stood := { row := liveFlowsRow, standIns := [], harness := (true, "7c8527047ffb63bdbc7985bab493d381175d25fc55ed6eef943fa30bf11f58b5"), looks := true }, kinds := [], alts := [], laidByText := true, laidKinds := [.data], laidTests := true, laidLooks := .later }
def LiveFlowsCardSaid : Prop := Claim7.holds Tryd.pinned (.plain (OpenSpec.ofChange liveFlowsSpec)) liveFlowsCard

/-- THE TIED CARD OF 'hauberklaw12.SyntaxParses'. -/
def syntaxParsesCard : Claim7 := { stood := { row := syntaxParsesRow, standIns := [], harness := (true, "7c8527047ffb63bdbc7985bab493d381175d25fc55ed6eef943fa30bf11f58b5"), looks := true }, kinds := [], alts := [], laidByText := true, laidKinds := [.listed, .data], laidTests := true, laidLooks := .later }
def SyntaxParsesCardSaid : Prop := Claim7.holds Tryd.pinned (.plain (OpenSpec.ofChange syntaxParsesSpec)) syntaxParsesCard

/-- THE TIED CARD OF 'hauberklaw12.SyntaxJoins'. -/
def syntaxJoinsCard : Claim7 := { stood := { row := syntaxJoinsRow, standIns := [], harness := (true, "7c8527047ffb63bdbc7985bab493d381175d25fc55ed6eef943fa30bf11f58b5"), looks := true }, kinds := [], alts := [], laidByText := true, laidKinds := [.listed, .data], laidTests := true, laidLooks := .later }
def SyntaxJoinsCardSaid : Prop := Claim7.holds Tryd.pinned (.plain (OpenSpec.ofChange syntaxJoinsSpec)) syntaxJoinsCard

/-- THE TIED CARD OF 'hauberklaw12.SyntaxCuts'. -/
def syntaxCutsCard : Claim7 := { stood := { row := syntaxCutsRow, standIns := [], harness := (true, "7c8527047ffb63bdbc7985bab493d381175d25fc55ed6eef943fa30bf11f58b5"), looks := true }, kinds := [], alts := [], laidByText := true, laidKinds := [.listed, .data], laidTests := true, laidLooks := .later }
def SyntaxCutsCardSaid : Prop := Claim7.holds Tryd.pinned (.plain (OpenSpec.ofChange syntaxCutsSpec)) syntaxCutsCard

/-- THE TIED CARD OF 'hauberklaw12.SyntaxDeep'. -/
def syntaxDeepCard : Claim7 := { stood := { row := syntaxDeepRow, standIns := [], harness := (true, "7c8527047ffb63bdbc7985bab493d381175d25fc55ed6eef943fa30bf11f58b5"), looks := true }, kinds := [], alts := [], laidByText := true, laidKinds := [.listed, .data], laidTests := true, laidLooks := .later }
def SyntaxDeepCardSaid : Prop := Claim7.holds Tryd.pinned (.plain (OpenSpec.ofChange syntaxDeepSpec)) syntaxDeepCard

/-- THE TIED CARD OF 'hauberklaw22.DeadTells'. -/
def deadTellsCard : Claim7 := { stood := { row := deadTellsRow, standIns := [], harness := (true, "7c8527047ffb63bdbc7985bab493d381175d25fc55ed6eef943fa30bf11f58b5"), looks := true }, kinds := [], alts := [], laidByText := true, laidKinds := [.data], laidTests := true, laidLooks := .later }
def DeadTellsCardSaid : Prop := Claim7.holds Tryd.pinned (.plain (OpenSpec.ofChange deadTellsSpec)) deadTellsCard

/-- THE TIED CARD OF 'hauberklaw22.DeadNone'. -/
def deadNoneCard : Claim7 := { stood := { row := deadNoneRow, standIns := [], harness := (true, "7c8527047ffb63bdbc7985bab493d381175d25fc55ed6eef943fa30bf11f58b5"), looks := true }, kinds := [], alts := [], laidByText := true, laidKinds := [.data], laidTests := true, laidLooks := .later }
def DeadNoneCardSaid : Prop := Claim7.holds Tryd.pinned (.plain (OpenSpec.ofChange deadNoneSpec)) deadNoneCard

/-- THE TIED CARD OF 'hauberklaw25.SlotsTells'. -/
def slotsTellsCard : Claim7 := { stood := { row := slotsTellsRow, standIns := [], harness := (true, "7c8527047ffb63bdbc7985bab493d381175d25fc55ed6eef943fa30bf11f58b5"), looks := true }, kinds := [], alts := [], laidByText := true, laidKinds := [.data], laidTests := true, laidLooks := .later }
def SlotsTellsCardSaid : Prop := Claim7.holds Tryd.pinned (.plain (OpenSpec.ofChange slotsTellsSpec)) slotsTellsCard

/-- THE TIED CARD OF 'hauberklaw25.SlotsApart'. -/
def slotsApartCard : Claim7 := { stood := { row := slotsApartRow, standIns := [], harness := (true, "7c8527047ffb63bdbc7985bab493d381175d25fc55ed6eef943fa30bf11f58b5"), looks := true }, kinds := [], alts := [], laidByText := true, laidKinds := [.data], laidTests := true, laidLooks := .later }
def SlotsApartCardSaid : Prop := Claim7.holds Tryd.pinned (.plain (OpenSpec.ofChange slotsApartSpec)) slotsApartCard

/-- THE TIED CARD OF 'hauberklaw25.SlotsApplied'. -/
def slotsAppliedCard : Claim7 := { stood := { row := slotsAppliedRow, standIns := [], harness := (true, "7c8527047ffb63bdbc7985bab493d381175d25fc55ed6eef943fa30bf11f58b5"), looks := true }, kinds := [], alts := [], laidByText := true, laidKinds := [.data], laidTests := true, laidLooks := .later }
def SlotsAppliedCardSaid : Prop := Claim7.holds Tryd.pinned (.plain (OpenSpec.ofChange slotsAppliedSpec)) slotsAppliedCard

/-- THE TIED CARD OF 'hauberklaw21.LiveJunk'. -/
def liveJunkCard : Claim7 := { stood := { row := liveJunkRow, standIns := [], harness := (true, "7c8527047ffb63bdbc7985bab493d381175d25fc55ed6eef943fa30bf11f58b5"), looks := true }, kinds := [], alts := [], laidByText := true, laidKinds := [.data], laidTests := true, laidLooks := .later }
def LiveJunkCardSaid : Prop := Claim7.holds Tryd.pinned (.plain (OpenSpec.ofChange liveJunkSpec)) liveJunkCard

/-- THE TIED CARD OF 'hauberklaw22.DeadMeans'. -/
def deadMeansCard : Claim7 := { stood := { row := deadMeansRow, standIns := [], harness := (true, "7c8527047ffb63bdbc7985bab493d381175d25fc55ed6eef943fa30bf11f58b5"), looks := true }, kinds := [], alts := [], laidByText := true, laidKinds := [.data], laidTests := true, laidLooks := .later }
def DeadMeansCardSaid : Prop := Claim7.holds Tryd.pinned (.plain (OpenSpec.ofChange deadMeansSpec)) deadMeansCard

/-- THE TIED CARD OF 'hauberklaw25.SlotsMean'. -/
def slotsMeanCard : Claim7 := { stood := { row := slotsMeanRow, standIns := [], harness := (true, "7c8527047ffb63bdbc7985bab493d381175d25fc55ed6eef943fa30bf11f58b5"), looks := true }, kinds := [], alts := [], laidByText := true, laidKinds := [.data], laidTests := true, laidLooks := .later }
def SlotsMeanCardSaid : Prop := Claim7.holds Tryd.pinned (.plain (OpenSpec.ofChange slotsMeanSpec)) slotsMeanCard

/-- THE SECOND FORM's CARD OF 'hauberklaw11.LexTells'. -/
def lexTellsUptoCard : Claim7 := { stood := { row := lexTellsUptoRow, standIns := [], harness := (true, "7c8527047ffb63bdbc7985bab493d381175d25fc55ed6eef943fa30bf11f58b5"), looks := true }, kinds := [], alts := [], laidByText := true, laidKinds := [.listed, .data], laidTests := true, laidLooks := .later }
def LexTellsUptoCardSaid : Prop := Claim7.holds Tryd.pinned (.plain (OpenSpec.upto lexTellsSpec)) lexTellsUptoCard

/-- THE SECOND FORM's CARD OF 'hauberklaw11.LexJoins'. -/
def lexJoinsUptoCard : Claim7 := { stood := { row := lexJoinsUptoRow, standIns := [], harness := (true, "7c8527047ffb63bdbc7985bab493d381175d25fc55ed6eef943fa30bf11f58b5"), looks := true }, kinds := [], alts := [], laidByText := true, laidKinds := [.listed, .data], laidTests := true, laidLooks := .later }
def LexJoinsUptoCardSaid : Prop := Claim7.holds Tryd.pinned (.plain (OpenSpec.upto lexJoinsSpec)) lexJoinsUptoCard

/-- THE SECOND FORM's CARD OF 'hauberklaw11.LexAgain'. -/
def lexAgainUptoCard : Claim7 := { stood := { row := lexAgainUptoRow, standIns := [], harness := (true, "7c8527047ffb63bdbc7985bab493d381175d25fc55ed6eef943fa30bf11f58b5"), looks := true }, kinds := [], alts := [], laidByText := true, laidKinds := [.listed, .data], laidTests := true, laidLooks := .later }
def LexAgainUptoCardSaid : Prop := Claim7.holds Tryd.pinned (.plain (OpenSpec.upto lexAgainSpec)) lexAgainUptoCard

/-- THE SECOND FORM's CARD OF 'hauberklaw21.LiveTells'. -/
def liveTellsUptoCard : Claim7 := { stood := { row := liveTellsUptoRow, standIns := [], harness := (true, "7c8527047ffb63bdbc7985bab493d381175d25fc55ed6eef943fa30bf11f58b5"), looks := true }, kinds := [], alts := [], laidByText := true, laidKinds := [.data], laidTests := true, laidLooks := .later }
def LiveTellsUptoCardSaid : Prop := Claim7.holds Tryd.pinned (.plain (OpenSpec.upto liveTellsSpec)) liveTellsUptoCard

/-- THE SECOND FORM's CARD OF 'hauberklaw21.LiveFlows'. -/
def liveFlowsUptoCard : Claim7 := { stood := { row := liveFlowsUptoRow, standIns := [], harness := (true, "7c8527047ffb63bdbc7985bab493d381175d25fc55ed6eef943fa30bf11f58b5"), looks := true }, kinds := [], alts := [], laidByText := true, laidKinds := [.data], laidTests := true, laidLooks := .later }
def LiveFlowsUptoCardSaid : Prop := Claim7.holds Tryd.pinned (.plain (OpenSpec.upto liveFlowsSpec)) liveFlowsUptoCard

/-- THE SECOND FORM's CARD OF 'hauberklaw12.SyntaxParses'. -/
def syntaxParsesUptoCard : Claim7 := { stood := { row := syntaxParsesUptoRow, standIns := [], harness := (true, "7c8527047ffb63bdbc7985bab493d381175d25fc55ed6eef943fa30bf11f58b5"), looks := true }, kinds := [], alts := [], laidByText := true, laidKinds := [.listed, .data], laidTests := true, laidLooks := .later }
def SyntaxParsesUptoCardSaid : Prop := Claim7.holds Tryd.pinned (.plain (OpenSpec.upto syntaxParsesSpec)) syntaxParsesUptoCard

/-- THE SECOND FORM's CARD OF 'hauberklaw12.SyntaxJoins'. -/
def syntaxJoinsUptoCard : Claim7 := { stood := { row := syntaxJoinsUptoRow, standIns := [], harness := (true, "7c8527047ffb63bdbc7985bab493d381175d25fc55ed6eef943fa30bf11f58b5"), looks := true }, kinds := [], alts := [], laidByText := true, laidKinds := [.listed, .data], laidTests := true, laidLooks := .later }
def SyntaxJoinsUptoCardSaid : Prop := Claim7.holds Tryd.pinned (.plain (OpenSpec.upto syntaxJoinsSpec)) syntaxJoinsUptoCard

/-- THE SECOND FORM's CARD OF 'hauberklaw12.SyntaxCuts'. -/
def syntaxCutsUptoCard : Claim7 := { stood := { row := syntaxCutsUptoRow, standIns := [], harness := (true, "7c8527047ffb63bdbc7985bab493d381175d25fc55ed6eef943fa30bf11f58b5"), looks := true }, kinds := [], alts := [], laidByText := true, laidKinds := [.listed, .data], laidTests := true, laidLooks := .later }
def SyntaxCutsUptoCardSaid : Prop := Claim7.holds Tryd.pinned (.plain (OpenSpec.upto syntaxCutsSpec)) syntaxCutsUptoCard

/-- THE SECOND FORM's CARD OF 'hauberklaw12.SyntaxDeep'. -/
def syntaxDeepUptoCard : Claim7 := { stood := { row := syntaxDeepUptoRow, standIns := [], harness := (true, "7c8527047ffb63bdbc7985bab493d381175d25fc55ed6eef943fa30bf11f58b5"), looks := true }, kinds := [], alts := [], laidByText := true, laidKinds := [.listed, .data], laidTests := true, laidLooks := .later }
def SyntaxDeepUptoCardSaid : Prop := Claim7.holds Tryd.pinned (.plain (OpenSpec.upto syntaxDeepSpec)) syntaxDeepUptoCard

/-- THE SECOND FORM's CARD OF 'hauberklaw22.DeadTells'. -/
def deadTellsUptoCard : Claim7 := { stood := { row := deadTellsUptoRow, standIns := [], harness := (true, "7c8527047ffb63bdbc7985bab493d381175d25fc55ed6eef943fa30bf11f58b5"), looks := true }, kinds := [], alts := [], laidByText := true, laidKinds := [.data], laidTests := true, laidLooks := .later }
def DeadTellsUptoCardSaid : Prop := Claim7.holds Tryd.pinned (.plain (OpenSpec.upto deadTellsSpec)) deadTellsUptoCard

/-- THE SECOND FORM's CARD OF 'hauberklaw22.DeadNone'. -/
def deadNoneUptoCard : Claim7 := { stood := { row := deadNoneUptoRow, standIns := [], harness := (true, "7c8527047ffb63bdbc7985bab493d381175d25fc55ed6eef943fa30bf11f58b5"), looks := true }, kinds := [], alts := [], laidByText := true, laidKinds := [.data], laidTests := true, laidLooks := .later }
def DeadNoneUptoCardSaid : Prop := Claim7.holds Tryd.pinned (.plain (OpenSpec.upto deadNoneSpec)) deadNoneUptoCard

/-- THE SECOND FORM's CARD OF 'hauberklaw25.SlotsTells'. -/
def slotsTellsUptoCard : Claim7 := { stood := { row := slotsTellsUptoRow, standIns := [], harness := (true, "7c8527047ffb63bdbc7985bab493d381175d25fc55ed6eef943fa30bf11f58b5"), looks := true }, kinds := [], alts := [], laidByText := true, laidKinds := [.data], laidTests := true, laidLooks := .later }
def SlotsTellsUptoCardSaid : Prop := Claim7.holds Tryd.pinned (.plain (OpenSpec.upto slotsTellsSpec)) slotsTellsUptoCard

/-- THE SECOND FORM's CARD OF 'hauberklaw25.SlotsApart'. -/
def slotsApartUptoCard : Claim7 := { stood := { row := slotsApartUptoRow, standIns := [], harness := (true, "7c8527047ffb63bdbc7985bab493d381175d25fc55ed6eef943fa30bf11f58b5"), looks := true }, kinds := [], alts := [], laidByText := true, laidKinds := [.data], laidTests := true, laidLooks := .later }
def SlotsApartUptoCardSaid : Prop := Claim7.holds Tryd.pinned (.plain (OpenSpec.upto slotsApartSpec)) slotsApartUptoCard

/-- THE SECOND FORM's CARD OF 'hauberklaw25.SlotsApplied'. -/
def slotsAppliedUptoCard : Claim7 := { stood := { row := slotsAppliedUptoRow, standIns := [], harness := (true, "7c8527047ffb63bdbc7985bab493d381175d25fc55ed6eef943fa30bf11f58b5"), looks := true }, kinds := [], alts := [], laidByText := true, laidKinds := [.data], laidTests := true, laidLooks := .later }
def SlotsAppliedUptoCardSaid : Prop := Claim7.holds Tryd.pinned (.plain (OpenSpec.upto slotsAppliedSpec)) slotsAppliedUptoCard

/-- THE SECOND FORM's CARD OF 'hauberklaw21.LiveJunk'. -/
def liveJunkUptoCard : Claim7 := { stood := { row := liveJunkUptoRow, standIns := [], harness := (true, "7c8527047ffb63bdbc7985bab493d381175d25fc55ed6eef943fa30bf11f58b5"), looks := true }, kinds := [], alts := [], laidByText := true, laidKinds := [.data], laidTests := true, laidLooks := .later }
def LiveJunkUptoCardSaid : Prop := Claim7.holds Tryd.pinned (.plain (OpenSpec.upto liveJunkSpec)) liveJunkUptoCard

/-- THE SECOND FORM's CARD OF 'hauberklaw22.DeadMeans'. -/
def deadMeansUptoCard : Claim7 := { stood := { row := deadMeansUptoRow, standIns := [], harness := (true, "7c8527047ffb63bdbc7985bab493d381175d25fc55ed6eef943fa30bf11f58b5"), looks := true }, kinds := [], alts := [], laidByText := true, laidKinds := [.data], laidTests := true, laidLooks := .later }
def DeadMeansUptoCardSaid : Prop := Claim7.holds Tryd.pinned (.plain (OpenSpec.upto deadMeansSpec)) deadMeansUptoCard

/-- THE SECOND FORM's CARD OF 'hauberklaw25.SlotsMean'. -/
def slotsMeanUptoCard : Claim7 := { stood := { row := slotsMeanUptoRow, standIns := [], harness := (true, "7c8527047ffb63bdbc7985bab493d381175d25fc55ed6eef943fa30bf11f58b5"), looks := true }, kinds := [], alts := [], laidByText := true, laidKinds := [.data], laidTests := true, laidLooks := .later }
def SlotsMeanUptoCardSaid : Prop := Claim7.holds Tryd.pinned (.plain (OpenSpec.upto slotsMeanSpec)) slotsMeanUptoCard
end Rows
end Go.Proofs.YtkeoalhglkfbkaaDoor
