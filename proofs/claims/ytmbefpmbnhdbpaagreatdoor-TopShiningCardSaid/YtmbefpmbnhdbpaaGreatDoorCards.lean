/-
  DERIVED. GIVEN WITH THE SEED: THE CARDS: each row of YtmbefpmbnhdbpaaGreatDoorRows.lean that lists a variable, with what it lists TIED to the program's text (the seventh form; the later family's looks); each row that meets fmt, with fmt's text TOLD by the authors' own Lean function (tested against real Go, not proved from fmt's source: count such statements apart). THE CARD IS WHAT COUNTS. Prove the row's statement (the work); the ties are given (YtmbefpmbnhdbpaaGreatDoorTie.lean); close each card by the builder's one call (the guide's Derived/Test/ToyasCard.lean, 'card_holds'). Laid BY PROGRAM, IN A SANDBOX (cutbox-door.mjs). By AI agents, Wed Nov 11 2026. No macro, syntax, notation, axiom, sorry.
-/
import Derived.Test.YtmbefpmbnhdbpaaGreatDoorRows
import GoSem.ClaimSeven
namespace Go.Proofs.YtmbefpmbnhdbpaaGreatDoor
namespace Rows

/-- THE TIED CARD OF 'noretop.TopStood'. -/
def topStoodCard : Claim7 := { stood := { row := topStoodRow, standIns := [], harness := (true, "f701387d0af9c7eec2d7ff0c35ba208c12851f160270143d8c17c5ec2f6ae7b4"), looks := true }, kinds := [], alts := [], laidByText := true, laidKinds := [.data, .data, .data, .data, .sentinel, .sentinel, .pinned], laidTests := true, laidLooks := .later }
def TopStoodCardSaid : Prop := Claim7.holds Tryz.pinned (.plain (OpenSpec.ofChange topStoodSpec)) topStoodCard

/-- THE TIED CARD OF 'noretop.TopShining'. -/
def topShiningCard : Claim7 := { stood := { row := topShiningRow, standIns := [], harness := (true, "f701387d0af9c7eec2d7ff0c35ba208c12851f160270143d8c17c5ec2f6ae7b4"), looks := true }, kinds := [], alts := [], laidByText := true, laidKinds := [.data, .data, .data, .data, .sentinel, .sentinel, .pinned], laidTests := true, laidLooks := .later }
def TopShiningCardSaid : Prop := Claim7.holds Tryz.pinned (.plain (OpenSpec.ofChange topShiningSpec)) topShiningCard

/-- THE SECOND FORM's CARD OF 'noretop.TopStood'. -/
def topStoodUptoCard : Claim7 := { stood := { row := topStoodUptoRow, standIns := [], harness := (true, "f701387d0af9c7eec2d7ff0c35ba208c12851f160270143d8c17c5ec2f6ae7b4"), looks := true }, kinds := [], alts := [], laidByText := true, laidKinds := [.data, .data, .data, .data, .sentinel, .sentinel, .pinned], laidTests := true, laidLooks := .later }
def TopStoodUptoCardSaid : Prop := Claim7.holds Tryz.pinned (.plain (OpenSpec.upto topStoodSpec)) topStoodUptoCard

/-- THE SECOND FORM's CARD OF 'noretop.TopShining'. -/
def topShiningUptoCard : Claim7 := { stood := { row := topShiningUptoRow, standIns := [], harness := (true, "f701387d0af9c7eec2d7ff0c35ba208c12851f160270143d8c17c5ec2f6ae7b4"), looks := true }, kinds := [], alts := [], laidByText := true, laidKinds := [.data, .data, .data, .data, .sentinel, .sentinel, .pinned], laidTests := true, laidLooks := .later }
def TopShiningUptoCardSaid : Prop := Claim7.holds Tryz.pinned (.plain (OpenSpec.upto topShiningSpec)) topShiningUptoCard
end Rows
end Go.Proofs.YtmbefpmbnhdbpaaGreatDoor
