/-
  DERIVED. GIVEN WITH THE SEED: THE CARDS: each row of YtboaolnlajoanaaGreatDoorRows.lean that lists a variable, with what it lists TIED to the program's text (the seventh form; the later family's looks); each row that meets fmt, with fmt's text TOLD by the authors' own Lean function (tested against real Go, not proved from fmt's source: count such statements apart). THE CARD IS WHAT COUNTS. Prove the row's statement (the work); the ties are given (YtboaolnlajoanaaGreatDoorTie.lean); close each card by the builder's one call (the guide's Derived/Test/ToyasCard.lean, 'card_holds'). Laid BY PROGRAM, IN A SANDBOX (cutbox-door.mjs). By AI agents, Wed Nov 11 2026. No macro, syntax, notation, axiom, sorry.
-/
import Derived.Test.YtboaolnlajoanaaGreatDoorRows
import GoSem.ClaimSeven
namespace Go.Proofs.YtboaolnlajoanaaGreatDoor
namespace Rows

/-- THE TIED CARD OF 'norelaw01.ChartChecks'. -/
def chartChecksCard : Claim7 := { stood := { row := chartChecksRow, standIns := [], harness := (true, "fe90e43e0e68bd813640d3980dfd904f6efc8334222bbb5ce42bfbf07e5d28bf"), looks := true }, kinds := [], alts := [], laidByText := true, laidKinds := [.data, .data, .data, .data, .sentinel, .sentinel, .pinned], laidTests := true, laidLooks := .later }
def ChartChecksCardSaid : Prop := Claim7.holds Tryz.pinned (.plain (OpenSpec.ofChange chartChecksSpec)) chartChecksCard

/-- THE TIED CARD OF 'norelaw01.ChartSands'. -/
def chartSandsCard : Claim7 := { stood := { row := chartSandsRow, standIns := [], harness := (true, "fe90e43e0e68bd813640d3980dfd904f6efc8334222bbb5ce42bfbf07e5d28bf"), looks := true }, kinds := [], alts := [], laidByText := true, laidKinds := [.data, .data, .data, .data, .sentinel, .sentinel, .pinned], laidTests := true, laidLooks := .later }
def ChartSandsCardSaid : Prop := Claim7.holds Tryz.pinned (.plain (OpenSpec.ofChange chartSandsSpec)) chartSandsCard

/-- THE TIED CARD OF 'norelaw01.ChartMarks'. -/
def chartMarksCard : Claim7 := { stood := { row := chartMarksRow, standIns := [], harness := (true, "fe90e43e0e68bd813640d3980dfd904f6efc8334222bbb5ce42bfbf07e5d28bf"), looks := true }, kinds := [], alts := [], laidByText := true, laidKinds := [.data, .data, .data, .data, .sentinel, .sentinel, .pinned], laidTests := true, laidLooks := .later }
def ChartMarksCardSaid : Prop := Claim7.holds Tryz.pinned (.plain (OpenSpec.ofChange chartMarksSpec)) chartMarksCard

/-- THE TIED CARD OF 'norelaw01.ChartTexts'. -/
def chartTextsCard : Claim7 := { stood := { row := chartTextsRow, standIns := [], harness := (true, "fe90e43e0e68bd813640d3980dfd904f6efc8334222bbb5ce42bfbf07e5d28bf"), looks := true }, kinds := [], alts := [], laidByText := true, laidKinds := [.data, .data, .data, .data, .sentinel, .sentinel, .pinned], laidTests := true, laidLooks := .later }
def ChartTextsCardSaid : Prop := Claim7.holds Tryz.pinned (.plain (OpenSpec.ofChange chartTextsSpec)) chartTextsCard

/-- THE TIED CARD OF 'norelaw01.ChartKnown'. -/
def chartKnownCard : Claim7 := { stood := { row := chartKnownRow, standIns := [], harness := (true, "fe90e43e0e68bd813640d3980dfd904f6efc8334222bbb5ce42bfbf07e5d28bf"), looks := true }, kinds := [], alts := [], laidByText := true, laidKinds := [.data, .data, .data, .data, .sentinel, .sentinel, .pinned], laidTests := true, laidLooks := .later }
def ChartKnownCardSaid : Prop := Claim7.holds Tryz.pinned (.plain (OpenSpec.ofChange chartKnownSpec)) chartKnownCard

/-- THE TIED CARD OF 'norelaw01.ChartTrue'. -/
def chartTrueCard : Claim7 := { stood := { row := chartTrueRow, standIns := [], harness := (true, "fe90e43e0e68bd813640d3980dfd904f6efc8334222bbb5ce42bfbf07e5d28bf"), looks := true }, kinds := [], alts := [], laidByText := true, laidKinds := [.data, .data, .data, .data, .sentinel, .sentinel, .pinned], laidTests := true, laidLooks := .later }
def ChartTrueCardSaid : Prop := Claim7.holds Tryz.pinned (.plain (OpenSpec.ofChange chartTrueSpec)) chartTrueCard

/-- THE TIED CARD OF 'norelaw01.ChartClear'. -/
def chartClearCard : Claim7 := { stood := { row := chartClearRow, standIns := [], harness := (true, "fe90e43e0e68bd813640d3980dfd904f6efc8334222bbb5ce42bfbf07e5d28bf"), looks := true }, kinds := [], alts := [], laidByText := true, laidKinds := [.data, .data, .data, .data, .sentinel, .sentinel, .pinned], laidTests := true, laidLooks := .later }
def ChartClearCardSaid : Prop := Claim7.holds Tryz.pinned (.plain (OpenSpec.ofChange chartClearSpec)) chartClearCard

/-- THE TIED CARD OF 'norelaw01.ChartWider'. -/
def chartWiderCard : Claim7 := { stood := { row := chartWiderRow, standIns := [], harness := (true, "fe90e43e0e68bd813640d3980dfd904f6efc8334222bbb5ce42bfbf07e5d28bf"), looks := true }, kinds := [], alts := [], laidByText := true, laidKinds := [.data, .data, .data, .data, .sentinel, .sentinel, .pinned], laidTests := true, laidLooks := .later }
def ChartWiderCardSaid : Prop := Claim7.holds Tryz.pinned (.plain (OpenSpec.ofChange chartWiderSpec)) chartWiderCard

/-- THE TIED CARD OF 'norelaw01.ChartTurned'. -/
def chartTurnedCard : Claim7 := { stood := { row := chartTurnedRow, standIns := [], harness := (true, "fe90e43e0e68bd813640d3980dfd904f6efc8334222bbb5ce42bfbf07e5d28bf"), looks := true }, kinds := [], alts := [], laidByText := true, laidKinds := [.data, .data, .data, .data, .sentinel, .sentinel, .pinned], laidTests := true, laidLooks := .later }
def ChartTurnedCardSaid : Prop := Claim7.holds Tryz.pinned (.plain (OpenSpec.ofChange chartTurnedSpec)) chartTurnedCard

/-- THE TIED CARD OF 'norelaw01.ChartMoved'. -/
def chartMovedCard : Claim7 := { stood := { row := chartMovedRow, standIns := [], harness := (true, "fe90e43e0e68bd813640d3980dfd904f6efc8334222bbb5ce42bfbf07e5d28bf"), looks := true }, kinds := [], alts := [], laidByText := true, laidKinds := [.data, .data, .data, .data, .sentinel, .sentinel, .pinned], laidTests := true, laidLooks := .later }
def ChartMovedCardSaid : Prop := Claim7.holds Tryz.pinned (.plain (OpenSpec.ofChange chartMovedSpec)) chartMovedCard

/-- THE TIED CARD OF 'norelaw01.ChartBoxes'. -/
def chartBoxesCard : Claim7 := { stood := { row := chartBoxesRow, standIns := [], harness := (true, "fe90e43e0e68bd813640d3980dfd904f6efc8334222bbb5ce42bfbf07e5d28bf"), looks := true }, kinds := [], alts := [], laidByText := true, laidKinds := [.data, .data, .data, .data, .sentinel, .sentinel, .pinned], laidTests := true, laidLooks := .later }
def ChartBoxesCardSaid : Prop := Claim7.holds Tryz.pinned (.plain (OpenSpec.ofChange chartBoxesSpec)) chartBoxesCard

/-- THE TIED CARD OF 'norelaw01.ChartBack'. -/
def chartBackCard : Claim7 := { stood := { row := chartBackRow, standIns := [], harness := (true, "fe90e43e0e68bd813640d3980dfd904f6efc8334222bbb5ce42bfbf07e5d28bf"), looks := true }, kinds := [], alts := [], laidByText := true, laidKinds := [.data, .data, .data, .data, .sentinel, .sentinel, .pinned], laidTests := true, laidLooks := .later }
def ChartBackCardSaid : Prop := Claim7.holds Tryz.pinned (.plain (OpenSpec.ofChange chartBackSpec)) chartBackCard

/-- THE TIED CARD OF 'norelaw01.ChartRound'. -/
def chartRoundCard : Claim7 := { stood := { row := chartRoundRow, standIns := [], harness := (true, "fe90e43e0e68bd813640d3980dfd904f6efc8334222bbb5ce42bfbf07e5d28bf"), looks := true }, kinds := [], alts := [], laidByText := true, laidKinds := [.data, .data, .data, .data, .sentinel, .sentinel, .pinned], laidTests := true, laidLooks := .later }
def ChartRoundCardSaid : Prop := Claim7.holds Tryz.pinned (.plain (OpenSpec.ofChange chartRoundSpec)) chartRoundCard

/-- THE SECOND FORM's CARD OF 'norelaw01.ChartChecks'. -/
def chartChecksUptoCard : Claim7 := { stood := { row := chartChecksUptoRow, standIns := [], harness := (true, "fe90e43e0e68bd813640d3980dfd904f6efc8334222bbb5ce42bfbf07e5d28bf"), looks := true }, kinds := [], alts := [], laidByText := true, laidKinds := [.data, .data, .data, .data, .sentinel, .sentinel, .pinned], laidTests := true, laidLooks := .later }
def ChartChecksUptoCardSaid : Prop := Claim7.holds Tryz.pinned (.plain (OpenSpec.upto chartChecksSpec)) chartChecksUptoCard

/-- THE SECOND FORM's CARD OF 'norelaw01.ChartSands'. -/
def chartSandsUptoCard : Claim7 := { stood := { row := chartSandsUptoRow, standIns := [], harness := (true, "fe90e43e0e68bd813640d3980dfd904f6efc8334222bbb5ce42bfbf07e5d28bf"), looks := true }, kinds := [], alts := [], laidByText := true, laidKinds := [.data, .data, .data, .data, .sentinel, .sentinel, .pinned], laidTests := true, laidLooks := .later }
def ChartSandsUptoCardSaid : Prop := Claim7.holds Tryz.pinned (.plain (OpenSpec.upto chartSandsSpec)) chartSandsUptoCard

/-- THE SECOND FORM's CARD OF 'norelaw01.ChartMarks'. -/
def chartMarksUptoCard : Claim7 := { stood := { row := chartMarksUptoRow, standIns := [], harness := (true, "fe90e43e0e68bd813640d3980dfd904f6efc8334222bbb5ce42bfbf07e5d28bf"), looks := true }, kinds := [], alts := [], laidByText := true, laidKinds := [.data, .data, .data, .data, .sentinel, .sentinel, .pinned], laidTests := true, laidLooks := .later }
def ChartMarksUptoCardSaid : Prop := Claim7.holds Tryz.pinned (.plain (OpenSpec.upto chartMarksSpec)) chartMarksUptoCard

/-- THE SECOND FORM's CARD OF 'norelaw01.ChartTexts'. -/
def chartTextsUptoCard : Claim7 := { stood := { row := chartTextsUptoRow, standIns := [], harness := (true, "fe90e43e0e68bd813640d3980dfd904f6efc8334222bbb5ce42bfbf07e5d28bf"), looks := true }, kinds := [], alts := [], laidByText := true, laidKinds := [.data, .data, .data, .data, .sentinel, .sentinel, .pinned], laidTests := true, laidLooks := .later }
def ChartTextsUptoCardSaid : Prop := Claim7.holds Tryz.pinned (.plain (OpenSpec.upto chartTextsSpec)) chartTextsUptoCard

/-- THE SECOND FORM's CARD OF 'norelaw01.ChartKnown'. -/
def chartKnownUptoCard : Claim7 := { stood := { row := chartKnownUptoRow, standIns := [], harness := (true, "fe90e43e0e68bd813640d3980dfd904f6efc8334222bbb5ce42bfbf07e5d28bf"), looks := true }, kinds := [], alts := [], laidByText := true, laidKinds := [.data, .data, .data, .data, .sentinel, .sentinel, .pinned], laidTests := true, laidLooks := .later }
def ChartKnownUptoCardSaid : Prop := Claim7.holds Tryz.pinned (.plain (OpenSpec.upto chartKnownSpec)) chartKnownUptoCard

/-- THE SECOND FORM's CARD OF 'norelaw01.ChartTrue'. -/
def chartTrueUptoCard : Claim7 := { stood := { row := chartTrueUptoRow, standIns := [], harness := (true, "fe90e43e0e68bd813640d3980dfd904f6efc8334222bbb5ce42bfbf07e5d28bf"), looks := true }, kinds := [], alts := [], laidByText := true, laidKinds := [.data, .data, .data, .data, .sentinel, .sentinel, .pinned], laidTests := true, laidLooks := .later }
def ChartTrueUptoCardSaid : Prop := Claim7.holds Tryz.pinned (.plain (OpenSpec.upto chartTrueSpec)) chartTrueUptoCard

/-- THE SECOND FORM's CARD OF 'norelaw01.ChartClear'. -/
def chartClearUptoCard : Claim7 := { stood := { row := chartClearUptoRow, standIns := [], harness := (true, "fe90e43e0e68bd813640d3980dfd904f6efc8334222bbb5ce42bfbf07e5d28bf"), looks := true }, kinds := [], alts := [], laidByText := true, laidKinds := [.data, .data, .data, .data, .sentinel, .sentinel, .pinned], laidTests := true, laidLooks := .later }
def ChartClearUptoCardSaid : Prop := Claim7.holds Tryz.pinned (.plain (OpenSpec.upto chartClearSpec)) chartClearUptoCard

/-- THE SECOND FORM's CARD OF 'norelaw01.ChartWider'. -/
def chartWiderUptoCard : Claim7 := { stood := { row := chartWiderUptoRow, standIns := [], harness := (true, "fe90e43e0e68bd813640d3980dfd904f6efc8334222bbb5ce42bfbf07e5d28bf"), looks := true }, kinds := [], alts := [], laidByText := true, laidKinds := [.data, .data, .data, .data, .sentinel, .sentinel, .pinned], laidTests := true, laidLooks := .later }
def ChartWiderUptoCardSaid : Prop := Claim7.holds Tryz.pinned (.plain (OpenSpec.upto chartWiderSpec)) chartWiderUptoCard

/-- THE SECOND FORM's CARD OF 'norelaw01.ChartTurned'. -/
def chartTurnedUptoCard : Claim7 := { stood := { row := chartTurnedUptoRow, standIns := [], harness := (true, "fe90e43e0e68bd813640d3980dfd904f6efc8334222bbb5ce42bfbf07e5d28bf"), looks := true }, kinds := [], alts := [], laidByText := true, laidKinds := [.data, .data, .data, .data, .sentinel, .sentinel, .pinned], laidTests := true, laidLooks := .later }
def ChartTurnedUptoCardSaid : Prop := Claim7.holds Tryz.pinned (.plain (OpenSpec.upto chartTurnedSpec)) chartTurnedUptoCard

/-- THE SECOND FORM's CARD OF 'norelaw01.ChartMoved'. -/
def chartMovedUptoCard : Claim7 := { stood := { row := chartMovedUptoRow, standIns := [], harness := (true, "fe90e43e0e68bd813640d3980dfd904f6efc8334222bbb5ce42bfbf07e5d28bf"), looks := true }, kinds := [], alts := [], laidByText := true, laidKinds := [.data, .data, .data, .data, .sentinel, .sentinel, .pinned], laidTests := true, laidLooks := .later }
def ChartMovedUptoCardSaid : Prop := Claim7.holds Tryz.pinned (.plain (OpenSpec.upto chartMovedSpec)) chartMovedUptoCard

/-- THE SECOND FORM's CARD OF 'norelaw01.ChartBoxes'. -/
def chartBoxesUptoCard : Claim7 := { stood := { row := chartBoxesUptoRow, standIns := [], harness := (true, "fe90e43e0e68bd813640d3980dfd904f6efc8334222bbb5ce42bfbf07e5d28bf"), looks := true }, kinds := [], alts := [], laidByText := true, laidKinds := [.data, .data, .data, .data, .sentinel, .sentinel, .pinned], laidTests := true, laidLooks := .later }
def ChartBoxesUptoCardSaid : Prop := Claim7.holds Tryz.pinned (.plain (OpenSpec.upto chartBoxesSpec)) chartBoxesUptoCard

/-- THE SECOND FORM's CARD OF 'norelaw01.ChartBack'. -/
def chartBackUptoCard : Claim7 := { stood := { row := chartBackUptoRow, standIns := [], harness := (true, "fe90e43e0e68bd813640d3980dfd904f6efc8334222bbb5ce42bfbf07e5d28bf"), looks := true }, kinds := [], alts := [], laidByText := true, laidKinds := [.data, .data, .data, .data, .sentinel, .sentinel, .pinned], laidTests := true, laidLooks := .later }
def ChartBackUptoCardSaid : Prop := Claim7.holds Tryz.pinned (.plain (OpenSpec.upto chartBackSpec)) chartBackUptoCard

/-- THE SECOND FORM's CARD OF 'norelaw01.ChartRound'. -/
def chartRoundUptoCard : Claim7 := { stood := { row := chartRoundUptoRow, standIns := [], harness := (true, "fe90e43e0e68bd813640d3980dfd904f6efc8334222bbb5ce42bfbf07e5d28bf"), looks := true }, kinds := [], alts := [], laidByText := true, laidKinds := [.data, .data, .data, .data, .sentinel, .sentinel, .pinned], laidTests := true, laidLooks := .later }
def ChartRoundUptoCardSaid : Prop := Claim7.holds Tryz.pinned (.plain (OpenSpec.upto chartRoundSpec)) chartRoundUptoCard
end Rows
end Go.Proofs.YtboaolnlajoanaaGreatDoor
