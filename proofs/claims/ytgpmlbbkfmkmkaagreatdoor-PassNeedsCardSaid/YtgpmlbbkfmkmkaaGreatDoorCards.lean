/-
  DERIVED. GIVEN WITH THE SEED: THE CARDS: each row of YtgpmlbbkfmkmkaaGreatDoorRows.lean that lists a variable, with what it lists TIED to the program's text (the seventh form; the later family's looks); each row that meets fmt, with fmt's text TOLD by the authors' own Lean function (tested against real Go, not proved from fmt's source: count such statements apart). THE CARD IS WHAT COUNTS. Prove the row's statement (the work); the ties are given (YtgpmlbbkfmkmkaaGreatDoorTie.lean); close each card by the builder's one call (the guide's Derived/Test/ToyasCard.lean, 'card_holds'). Laid BY PROGRAM, IN A SANDBOX (cutbox-door.mjs). By AI agents, Wed Nov 11 2026. No macro, syntax, notation, axiom, sorry.
-/
import Derived.Test.YtgpmlbbkfmkmkaaGreatDoorRows
import GoSem.ClaimSeven
namespace Go.Proofs.YtgpmlbbkfmkmkaaGreatDoor
namespace Rows

/-- THE TIED CARD OF 'norelaw11.PassFits'. -/
def passFitsCard : Claim7 := { stood := { row := passFitsRow, standIns := [], harness := (true, "90b45fb562ff722763237ebbf2b701f5236fca1073619ecb4d8d313225d786db"), looks := true }, kinds := [], alts := [], laidByText := true, laidKinds := [.data, .data, .data, .data, .sentinel, .sentinel, .pinned], laidTests := true, laidLooks := .later }
def PassFitsCardSaid : Prop := Claim7.holds Tryz.pinned (.plain (OpenSpec.ofChange passFitsSpec)) passFitsCard

/-- THE TIED CARD OF 'norelaw11.PassApart'. -/
def passApartCard : Claim7 := { stood := { row := passApartRow, standIns := [], harness := (true, "90b45fb562ff722763237ebbf2b701f5236fca1073619ecb4d8d313225d786db"), looks := true }, kinds := [], alts := [], laidByText := true, laidKinds := [.data, .data, .data, .data, .sentinel, .sentinel, .pinned], laidTests := true, laidLooks := .later }
def PassApartCardSaid : Prop := Claim7.holds Tryz.pinned (.plain (OpenSpec.ofChange passApartSpec)) passApartCard

/-- THE TIED CARD OF 'norelaw11.PassNeeds'. -/
def passNeedsCard : Claim7 := { stood := { row := passNeedsRow, standIns := [], harness := (true, "90b45fb562ff722763237ebbf2b701f5236fca1073619ecb4d8d313225d786db"), looks := true }, kinds := [], alts := [], laidByText := true, laidKinds := [.data, .data, .data, .data, .sentinel, .sentinel, .pinned], laidTests := true, laidLooks := .later }
def PassNeedsCardSaid : Prop := Claim7.holds Tryz.pinned (.plain (OpenSpec.ofChange passNeedsSpec)) passNeedsCard

/-- THE TIED CARD OF 'norelaw11.PassTexts'. -/
def passTextsCard : Claim7 := { stood := { row := passTextsRow, standIns := [], harness := (true, "90b45fb562ff722763237ebbf2b701f5236fca1073619ecb4d8d313225d786db"), looks := true }, kinds := [], alts := [], laidByText := true, laidKinds := [.data, .data, .data, .data, .sentinel, .sentinel, .pinned], laidTests := true, laidLooks := .later }
def PassTextsCardSaid : Prop := Claim7.holds Tryz.pinned (.plain (OpenSpec.ofChange passTextsSpec)) passTextsCard

/-- THE TIED CARD OF 'norelaw11.PassKnown'. -/
def passKnownCard : Claim7 := { stood := { row := passKnownRow, standIns := [], harness := (true, "90b45fb562ff722763237ebbf2b701f5236fca1073619ecb4d8d313225d786db"), looks := true }, kinds := [], alts := [], laidByText := true, laidKinds := [.data, .data, .data, .data, .sentinel, .sentinel, .pinned], laidTests := true, laidLooks := .later }
def PassKnownCardSaid : Prop := Claim7.holds Tryz.pinned (.plain (OpenSpec.ofChange passKnownSpec)) passKnownCard

/-- THE TIED CARD OF 'norelaw11.PassTrue'. -/
def passTrueCard : Claim7 := { stood := { row := passTrueRow, standIns := [], harness := (true, "90b45fb562ff722763237ebbf2b701f5236fca1073619ecb4d8d313225d786db"), looks := true }, kinds := [], alts := [], laidByText := true, laidKinds := [.data, .data, .data, .data, .sentinel, .sentinel, .pinned], laidTests := true, laidLooks := .later }
def PassTrueCardSaid : Prop := Claim7.holds Tryz.pinned (.plain (OpenSpec.ofChange passTrueSpec)) passTrueCard

/-- THE TIED CARD OF 'norelaw11.PassReached'. -/
def passReachedCard : Claim7 := { stood := { row := passReachedRow, standIns := [], harness := (true, "90b45fb562ff722763237ebbf2b701f5236fca1073619ecb4d8d313225d786db"), looks := true }, kinds := [], alts := [], laidByText := true, laidKinds := [.data, .data, .data, .data, .sentinel, .sentinel, .pinned], laidTests := true, laidLooks := .later }
def PassReachedCardSaid : Prop := Claim7.holds Tryz.pinned (.plain (OpenSpec.ofChange passReachedSpec)) passReachedCard

/-- THE TIED CARD OF 'norelaw11.PassFurther'. -/
def passFurtherCard : Claim7 := { stood := { row := passFurtherRow, standIns := [], harness := (true, "90b45fb562ff722763237ebbf2b701f5236fca1073619ecb4d8d313225d786db"), looks := true }, kinds := [], alts := [], laidByText := true, laidKinds := [.data, .data, .data, .data, .sentinel, .sentinel, .pinned], laidTests := true, laidLooks := .later }
def PassFurtherCardSaid : Prop := Claim7.holds Tryz.pinned (.plain (OpenSpec.ofChange passFurtherSpec)) passFurtherCard

/-- THE TIED CARD OF 'norelaw11.PassNeeded'. -/
def passNeededCard : Claim7 := { stood := { row := passNeededRow, standIns := [], harness := (true, "90b45fb562ff722763237ebbf2b701f5236fca1073619ecb4d8d313225d786db"), looks := true }, kinds := [], alts := [], laidByText := true, laidKinds := [.data, .data, .data, .data, .sentinel, .sentinel, .pinned], laidTests := true, laidLooks := .later }
def PassNeededCardSaid : Prop := Claim7.holds Tryz.pinned (.plain (OpenSpec.ofChange passNeededSpec)) passNeededCard

/-- THE TIED CARD OF 'norelaw11.PassConfused'. -/
def passConfusedCard : Claim7 := { stood := { row := passConfusedRow, standIns := [], harness := (true, "90b45fb562ff722763237ebbf2b701f5236fca1073619ecb4d8d313225d786db"), looks := true }, kinds := [], alts := [], laidByText := true, laidKinds := [.data, .data, .data, .data, .sentinel, .sentinel, .pinned], laidTests := true, laidLooks := .later }
def PassConfusedCardSaid : Prop := Claim7.holds Tryz.pinned (.plain (OpenSpec.ofChange passConfusedSpec)) passConfusedCard

/-- THE TIED CARD OF 'norelaw11.PassMore'. -/
def passMoreCard : Claim7 := { stood := { row := passMoreRow, standIns := [], harness := (true, "90b45fb562ff722763237ebbf2b701f5236fca1073619ecb4d8d313225d786db"), looks := true }, kinds := [], alts := [], laidByText := true, laidKinds := [.data, .data, .data, .data, .sentinel, .sentinel, .pinned], laidTests := true, laidLooks := .later }
def PassMoreCardSaid : Prop := Claim7.holds Tryz.pinned (.plain (OpenSpec.ofChange passMoreSpec)) passMoreCard

/-- THE TIED CARD OF 'norelaw11.PassLater'. -/
def passLaterCard : Claim7 := { stood := { row := passLaterRow, standIns := [], harness := (true, "90b45fb562ff722763237ebbf2b701f5236fca1073619ecb4d8d313225d786db"), looks := true }, kinds := [], alts := [], laidByText := true, laidKinds := [.data, .data, .data, .data, .sentinel, .sentinel, .pinned], laidTests := true, laidLooks := .later }
def PassLaterCardSaid : Prop := Claim7.holds Tryz.pinned (.plain (OpenSpec.ofChange passLaterSpec)) passLaterCard

/-- THE TIED CARD OF 'norelaw11.PassReports'. -/
def passReportsCard : Claim7 := { stood := { row := passReportsRow, standIns := [], harness := (true, "90b45fb562ff722763237ebbf2b701f5236fca1073619ecb4d8d313225d786db"), looks := true }, kinds := [], alts := [], laidByText := true, laidKinds := [.data, .data, .data, .data, .sentinel, .sentinel, .pinned], laidTests := true, laidLooks := .later }
def PassReportsCardSaid : Prop := Claim7.holds Tryz.pinned (.plain (OpenSpec.ofChange passReportsSpec)) passReportsCard

/-- THE TIED CARD OF 'norelaw11.PassRound'. -/
def passRoundCard : Claim7 := { stood := { row := passRoundRow, standIns := [], harness := (true, "90b45fb562ff722763237ebbf2b701f5236fca1073619ecb4d8d313225d786db"), looks := true }, kinds := [], alts := [], laidByText := true, laidKinds := [.data, .data, .data, .data, .sentinel, .sentinel, .pinned], laidTests := true, laidLooks := .later }
def PassRoundCardSaid : Prop := Claim7.holds Tryz.pinned (.plain (OpenSpec.ofChange passRoundSpec)) passRoundCard

/-- THE SECOND FORM's CARD OF 'norelaw11.PassFits'. -/
def passFitsUptoCard : Claim7 := { stood := { row := passFitsUptoRow, standIns := [], harness := (true, "90b45fb562ff722763237ebbf2b701f5236fca1073619ecb4d8d313225d786db"), looks := true }, kinds := [], alts := [], laidByText := true, laidKinds := [.data, .data, .data, .data, .sentinel, .sentinel, .pinned], laidTests := true, laidLooks := .later }
def PassFitsUptoCardSaid : Prop := Claim7.holds Tryz.pinned (.plain (OpenSpec.upto passFitsSpec)) passFitsUptoCard

/-- THE SECOND FORM's CARD OF 'norelaw11.PassApart'. -/
def passApartUptoCard : Claim7 := { stood := { row := passApartUptoRow, standIns := [], harness := (true, "90b45fb562ff722763237ebbf2b701f5236fca1073619ecb4d8d313225d786db"), looks := true }, kinds := [], alts := [], laidByText := true, laidKinds := [.data, .data, .data, .data, .sentinel, .sentinel, .pinned], laidTests := true, laidLooks := .later }
def PassApartUptoCardSaid : Prop := Claim7.holds Tryz.pinned (.plain (OpenSpec.upto passApartSpec)) passApartUptoCard

/-- THE SECOND FORM's CARD OF 'norelaw11.PassNeeds'. -/
def passNeedsUptoCard : Claim7 := { stood := { row := passNeedsUptoRow, standIns := [], harness := (true, "90b45fb562ff722763237ebbf2b701f5236fca1073619ecb4d8d313225d786db"), looks := true }, kinds := [], alts := [], laidByText := true, laidKinds := [.data, .data, .data, .data, .sentinel, .sentinel, .pinned], laidTests := true, laidLooks := .later }
def PassNeedsUptoCardSaid : Prop := Claim7.holds Tryz.pinned (.plain (OpenSpec.upto passNeedsSpec)) passNeedsUptoCard

/-- THE SECOND FORM's CARD OF 'norelaw11.PassTexts'. -/
def passTextsUptoCard : Claim7 := { stood := { row := passTextsUptoRow, standIns := [], harness := (true, "90b45fb562ff722763237ebbf2b701f5236fca1073619ecb4d8d313225d786db"), looks := true }, kinds := [], alts := [], laidByText := true, laidKinds := [.data, .data, .data, .data, .sentinel, .sentinel, .pinned], laidTests := true, laidLooks := .later }
def PassTextsUptoCardSaid : Prop := Claim7.holds Tryz.pinned (.plain (OpenSpec.upto passTextsSpec)) passTextsUptoCard

/-- THE SECOND FORM's CARD OF 'norelaw11.PassKnown'. -/
def passKnownUptoCard : Claim7 := { stood := { row := passKnownUptoRow, standIns := [], harness := (true, "90b45fb562ff722763237ebbf2b701f5236fca1073619ecb4d8d313225d786db"), looks := true }, kinds := [], alts := [], laidByText := true, laidKinds := [.data, .data, .data, .data, .sentinel, .sentinel, .pinned], laidTests := true, laidLooks := .later }
def PassKnownUptoCardSaid : Prop := Claim7.holds Tryz.pinned (.plain (OpenSpec.upto passKnownSpec)) passKnownUptoCard

/-- THE SECOND FORM's CARD OF 'norelaw11.PassTrue'. -/
def passTrueUptoCard : Claim7 := { stood := { row := passTrueUptoRow, standIns := [], harness := (true, "90b45fb562ff722763237ebbf2b701f5236fca1073619ecb4d8d313225d786db"), looks := true }, kinds := [], alts := [], laidByText := true, laidKinds := [.data, .data, .data, .data, .sentinel, .sentinel, .pinned], laidTests := true, laidLooks := .later }
def PassTrueUptoCardSaid : Prop := Claim7.holds Tryz.pinned (.plain (OpenSpec.upto passTrueSpec)) passTrueUptoCard

/-- THE SECOND FORM's CARD OF 'norelaw11.PassReached'. -/
def passReachedUptoCard : Claim7 := { stood := { row := passReachedUptoRow, standIns := [], harness := (true, "90b45fb562ff722763237ebbf2b701f5236fca1073619ecb4d8d313225d786db"), looks := true }, kinds := [], alts := [], laidByText := true, laidKinds := [.data, .data, .data, .data, .sentinel, .sentinel, .pinned], laidTests := true, laidLooks := .later }
def PassReachedUptoCardSaid : Prop := Claim7.holds Tryz.pinned (.plain (OpenSpec.upto passReachedSpec)) passReachedUptoCard

/-- THE SECOND FORM's CARD OF 'norelaw11.PassFurther'. -/
def passFurtherUptoCard : Claim7 := { stood := { row := passFurtherUptoRow, standIns := [], harness := (true, "90b45fb562ff722763237ebbf2b701f5236fca1073619ecb4d8d313225d786db"), looks := true }, kinds := [], alts := [], laidByText := true, laidKinds := [.data, .data, .data, .data, .sentinel, .sentinel, .pinned], laidTests := true, laidLooks := .later }
def PassFurtherUptoCardSaid : Prop := Claim7.holds Tryz.pinned (.plain (OpenSpec.upto passFurtherSpec)) passFurtherUptoCard

/-- THE SECOND FORM's CARD OF 'norelaw11.PassNeeded'. -/
def passNeededUptoCard : Claim7 := { stood := { row := passNeededUptoRow, standIns := [], harness := (true, "90b45fb562ff722763237ebbf2b701f5236fca1073619ecb4d8d313225d786db"), looks := true }, kinds := [], alts := [], laidByText := true, laidKinds := [.data, .data, .data, .data, .sentinel, .sentinel, .pinned], laidTests := true, laidLooks := .later }
def PassNeededUptoCardSaid : Prop := Claim7.holds Tryz.pinned (.plain (OpenSpec.upto passNeededSpec)) passNeededUptoCard

/-- THE SECOND FORM's CARD OF 'norelaw11.PassConfused'. -/
def passConfusedUptoCard : Claim7 := { stood := { row := passConfusedUptoRow, standIns := [], harness := (true, "90b45fb562ff722763237ebbf2b701f5236fca1073619ecb4d8d313225d786db"), looks := true }, kinds := [], alts := [], laidByText := true, laidKinds := [.data, .data, .data, .data, .sentinel, .sentinel, .pinned], laidTests := true, laidLooks := .later }
def PassConfusedUptoCardSaid : Prop := Claim7.holds Tryz.pinned (.plain (OpenSpec.upto passConfusedSpec)) passConfusedUptoCard

/-- THE SECOND FORM's CARD OF 'norelaw11.PassMore'. -/
def passMoreUptoCard : Claim7 := { stood := { row := passMoreUptoRow, standIns := [], harness := (true, "90b45fb562ff722763237ebbf2b701f5236fca1073619ecb4d8d313225d786db"), looks := true }, kinds := [], alts := [], laidByText := true, laidKinds := [.data, .data, .data, .data, .sentinel, .sentinel, .pinned], laidTests := true, laidLooks := .later }
def PassMoreUptoCardSaid : Prop := Claim7.holds Tryz.pinned (.plain (OpenSpec.upto passMoreSpec)) passMoreUptoCard

/-- THE SECOND FORM's CARD OF 'norelaw11.PassLater'. -/
def passLaterUptoCard : Claim7 := { stood := { row := passLaterUptoRow, standIns := [], harness := (true, "90b45fb562ff722763237ebbf2b701f5236fca1073619ecb4d8d313225d786db"), looks := true }, kinds := [], alts := [], laidByText := true, laidKinds := [.data, .data, .data, .data, .sentinel, .sentinel, .pinned], laidTests := true, laidLooks := .later }
def PassLaterUptoCardSaid : Prop := Claim7.holds Tryz.pinned (.plain (OpenSpec.upto passLaterSpec)) passLaterUptoCard

/-- THE SECOND FORM's CARD OF 'norelaw11.PassReports'. -/
def passReportsUptoCard : Claim7 := { stood := { row := passReportsUptoRow, standIns := [], harness := (true, "90b45fb562ff722763237ebbf2b701f5236fca1073619ecb4d8d313225d786db"), looks := true }, kinds := [], alts := [], laidByText := true, laidKinds := [.data, .data, .data, .data, .sentinel, .sentinel, .pinned], laidTests := true, laidLooks := .later }
def PassReportsUptoCardSaid : Prop := Claim7.holds Tryz.pinned (.plain (OpenSpec.upto passReportsSpec)) passReportsUptoCard

/-- THE SECOND FORM's CARD OF 'norelaw11.PassRound'. -/
def passRoundUptoCard : Claim7 := { stood := { row := passRoundUptoRow, standIns := [], harness := (true, "90b45fb562ff722763237ebbf2b701f5236fca1073619ecb4d8d313225d786db"), looks := true }, kinds := [], alts := [], laidByText := true, laidKinds := [.data, .data, .data, .data, .sentinel, .sentinel, .pinned], laidTests := true, laidLooks := .later }
def PassRoundUptoCardSaid : Prop := Claim7.holds Tryz.pinned (.plain (OpenSpec.upto passRoundSpec)) passRoundUptoCard
end Rows
end Go.Proofs.YtgpmlbbkfmkmkaaGreatDoor
