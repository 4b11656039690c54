/-
  No cell of these rows narrows 'for every input' (looked for: loops, veiled, ifaces, maps, wideKeys, modest, calm, conditions, laid).
  DERIVED. THE GIVEN ROWS OF THIS SEAT. 12 by the template 'for every input the law returns true; each argument reads behind the call as it read before'; 0 by the template 'total and deterministic' (their statements: YtpocldjdlookjaaTotals.lean).
  GIVEN WITH THE SEED: the statements are not yours to turn. If you find one false, say at which input.
  Laid BY PROGRAM, IN A SANDBOX (cutbox-rows.mjs): the forced cells as the released guide's own fill.sh prints them over the translation 4879d8cfff500a80… (all of the seat's roots in one cut). By AI agents, Wed Nov 11 2026. No macro, syntax, notation, axiom, sorry.
-/
import Derived.Test.YtpocldjdlookjaaChecked
import GoSem.Claim
import GoSem.ClaimJoined
import GoSem.ClaimMapViews
import Derived.JoinedTies
import Derived.KernelRfl
namespace Go.Proofs.Ytpocldjdlookjaa
/- THE CELL 'sum', in the pinned program and in every row, IS THE sha256 OF THE DUMP (.gsa) THAT YtpocldjdlookjaaProg.lean LOADS. Nothing in Lean hashes anything: it is a label: what it is worth is what the hold of that sum in a sandbox is worth. -/
noncomputable def Try.pinned : Pinned := { name := "ytpocldjdlookjaa", sum := "4879d8cfff500a808683db4aed933964f0534e16a276e211141d82c2731a6b04", checked := Try.checked }
namespace Rows
def none {H : Type} : Left H := { results := [], args := [] }

/-- 'norelaw07.WatchRows': WHATEVER THE INPUT: true; the input reads as it did. -/
def watchRowsSpec : ChangeSpec := { name := "watchRows", fn := fun _ => fun
  | [d1, d2] => { results := [.lit (.bool true)], args := [d1, d2] }
  | _ => none }
def watchRowsRow : OpenClaim := { program := "ytpocldjdlookjaa", sum := "4879d8cfff500a808683db4aed933964f0534e16a276e211141d82c2731a6b04", func := "nore/norelaw07.WatchRows", spec := "watchRows", unfollowed := true, recurses := true, plainKeys := false, apart := false }
def WatchRowsSaid : Prop := watchRowsRow.holds Try.pinned (OpenSpec.ofChange watchRowsSpec)

/-- ITS FALSE NEIGHBOUR: 'it returns false'. Refute it at one input. -/
def watchRowsWrong : ChangeSpec := { name := "watchRows", fn := fun _ => fun
  | [d1, d2] => { results := [.lit (.bool false)], args := [d1, d2] }
  | _ => none }
def WatchRowsWrongFalsely : Prop := watchRowsRow.holds Try.pinned (OpenSpec.ofChange watchRowsWrong)

/-- 'norelaw07.WatchEver': WHATEVER THE INPUT: true; the input reads as it did. -/
def watchEverSpec : ChangeSpec := { name := "watchEver", fn := fun _ => fun
  | [d] => { results := [.lit (.bool true)], args := [d] }
  | _ => none }
def watchEverRow : OpenClaim := { program := "ytpocldjdlookjaa", sum := "4879d8cfff500a808683db4aed933964f0534e16a276e211141d82c2731a6b04", func := "nore/norelaw07.WatchEver", spec := "watchEver", unfollowed := true, recurses := true, plainKeys := false, apart := false }
def WatchEverSaid : Prop := watchEverRow.holds Try.pinned (OpenSpec.ofChange watchEverSpec)

/-- ITS FALSE NEIGHBOUR: 'it returns false'. Refute it at one input. -/
def watchEverWrong : ChangeSpec := { name := "watchEver", fn := fun _ => fun
  | [d] => { results := [.lit (.bool false)], args := [d] }
  | _ => none }
def WatchEverWrongFalsely : Prop := watchEverRow.holds Try.pinned (OpenSpec.ofChange watchEverWrong)

/-- 'norelaw07.WatchFills': WHATEVER THE INPUT: true; the input reads as it did. -/
def watchFillsSpec : ChangeSpec := { name := "watchFills", fn := fun _ => fun
  | [d1, d2, d3] => { results := [.lit (.bool true)], args := [d1, d2, d3] }
  | _ => none }
def watchFillsRow : OpenClaim := { program := "ytpocldjdlookjaa", sum := "4879d8cfff500a808683db4aed933964f0534e16a276e211141d82c2731a6b04", func := "nore/norelaw07.WatchFills", spec := "watchFills", unfollowed := true, recurses := true, plainKeys := false, apart := false }
def WatchFillsSaid : Prop := watchFillsRow.holds Try.pinned (OpenSpec.ofChange watchFillsSpec)

/-- ITS FALSE NEIGHBOUR: 'it returns false'. Refute it at one input. -/
def watchFillsWrong : ChangeSpec := { name := "watchFills", fn := fun _ => fun
  | [d1, d2, d3] => { results := [.lit (.bool false)], args := [d1, d2, d3] }
  | _ => none }
def WatchFillsWrongFalsely : Prop := watchFillsRow.holds Try.pinned (OpenSpec.ofChange watchFillsWrong)

/-- 'norelaw07.WatchKnown': WHATEVER THE INPUT: true; the input reads as it did. -/
def watchKnownSpec : ChangeSpec := { name := "watchKnown", fn := fun _ => fun
  | [] => { results := [.lit (.bool true)], args := [] }
  | _ => none }
def watchKnownRow : OpenClaim := { program := "ytpocldjdlookjaa", sum := "4879d8cfff500a808683db4aed933964f0534e16a276e211141d82c2731a6b04", func := "nore/norelaw07.WatchKnown", spec := "watchKnown", unfollowed := true, recurses := true, plainKeys := false, apart := false }
def WatchKnownSaid : Prop := watchKnownRow.holds Try.pinned (OpenSpec.ofChange watchKnownSpec)

/-- ITS FALSE NEIGHBOUR: 'it returns false'. Refute it at one input. -/
def watchKnownWrong : ChangeSpec := { name := "watchKnown", fn := fun _ => fun
  | [] => { results := [.lit (.bool false)], args := [] }
  | _ => none }
def WatchKnownWrongFalsely : Prop := watchKnownRow.holds Try.pinned (OpenSpec.ofChange watchKnownWrong)

/-- 'norelaw07.WatchKept': WHATEVER THE INPUT: true; the input reads as it did. -/
def watchKeptSpec : ChangeSpec := { name := "watchKept", fn := fun _ => fun
  | [d1, d2] => { results := [.lit (.bool true)], args := [d1, d2] }
  | _ => none }
def watchKeptRow : OpenClaim := { program := "ytpocldjdlookjaa", sum := "4879d8cfff500a808683db4aed933964f0534e16a276e211141d82c2731a6b04", func := "nore/norelaw07.WatchKept", spec := "watchKept", unfollowed := true, recurses := true, plainKeys := false, apart := false }
def WatchKeptSaid : Prop := watchKeptRow.holds Try.pinned (OpenSpec.ofChange watchKeptSpec)

/-- ITS FALSE NEIGHBOUR: 'it returns false'. Refute it at one input. -/
def watchKeptWrong : ChangeSpec := { name := "watchKept", fn := fun _ => fun
  | [d1, d2] => { results := [.lit (.bool false)], args := [d1, d2] }
  | _ => none }
def WatchKeptWrongFalsely : Prop := watchKeptRow.holds Try.pinned (OpenSpec.ofChange watchKeptWrong)

/-- 'norelaw07.WatchFewest': WHATEVER THE INPUT: true; the input reads as it did. -/
def watchFewestSpec : ChangeSpec := { name := "watchFewest", fn := fun _ => fun
  | [d1, d2] => { results := [.lit (.bool true)], args := [d1, d2] }
  | _ => none }
def watchFewestRow : OpenClaim := { program := "ytpocldjdlookjaa", sum := "4879d8cfff500a808683db4aed933964f0534e16a276e211141d82c2731a6b04", func := "nore/norelaw07.WatchFewest", spec := "watchFewest", unfollowed := true, recurses := true, plainKeys := false, apart := false }
def WatchFewestSaid : Prop := watchFewestRow.holds Try.pinned (OpenSpec.ofChange watchFewestSpec)

/-- ITS FALSE NEIGHBOUR: 'it returns false'. Refute it at one input. -/
def watchFewestWrong : ChangeSpec := { name := "watchFewest", fn := fun _ => fun
  | [d1, d2] => { results := [.lit (.bool false)], args := [d1, d2] }
  | _ => none }
def WatchFewestWrongFalsely : Prop := watchFewestRow.holds Try.pinned (OpenSpec.ofChange watchFewestWrong)

/-- 'norelaw07.WatchLongest': WHATEVER THE INPUT: true; the input reads as it did. -/
def watchLongestSpec : ChangeSpec := { name := "watchLongest", fn := fun _ => fun
  | [d1, d2] => { results := [.lit (.bool true)], args := [d1, d2] }
  | _ => none }
def watchLongestRow : OpenClaim := { program := "ytpocldjdlookjaa", sum := "4879d8cfff500a808683db4aed933964f0534e16a276e211141d82c2731a6b04", func := "nore/norelaw07.WatchLongest", spec := "watchLongest", unfollowed := true, recurses := true, plainKeys := false, apart := false }
def WatchLongestSaid : Prop := watchLongestRow.holds Try.pinned (OpenSpec.ofChange watchLongestSpec)

/-- ITS FALSE NEIGHBOUR: 'it returns false'. Refute it at one input. -/
def watchLongestWrong : ChangeSpec := { name := "watchLongest", fn := fun _ => fun
  | [d1, d2] => { results := [.lit (.bool false)], args := [d1, d2] }
  | _ => none }
def WatchLongestWrongFalsely : Prop := watchLongestRow.holds Try.pinned (OpenSpec.ofChange watchLongestWrong)

/-- 'norelaw07.WatchNeeded': WHATEVER THE INPUT: true; the input reads as it did. -/
def watchNeededSpec : ChangeSpec := { name := "watchNeeded", fn := fun _ => fun
  | [d1, d2] => { results := [.lit (.bool true)], args := [d1, d2] }
  | _ => none }
def watchNeededRow : OpenClaim := { program := "ytpocldjdlookjaa", sum := "4879d8cfff500a808683db4aed933964f0534e16a276e211141d82c2731a6b04", func := "nore/norelaw07.WatchNeeded", spec := "watchNeeded", unfollowed := true, recurses := true, plainKeys := false, apart := false }
def WatchNeededSaid : Prop := watchNeededRow.holds Try.pinned (OpenSpec.ofChange watchNeededSpec)

/-- ITS FALSE NEIGHBOUR: 'it returns false'. Refute it at one input. -/
def watchNeededWrong : ChangeSpec := { name := "watchNeeded", fn := fun _ => fun
  | [d1, d2] => { results := [.lit (.bool false)], args := [d1, d2] }
  | _ => none }
def WatchNeededWrongFalsely : Prop := watchNeededRow.holds Try.pinned (OpenSpec.ofChange watchNeededWrong)

/-- 'norelaw07.WatchFilled': WHATEVER THE INPUT: true; the input reads as it did. -/
def watchFilledSpec : ChangeSpec := { name := "watchFilled", fn := fun _ => fun
  | [d1, d2] => { results := [.lit (.bool true)], args := [d1, d2] }
  | _ => none }
def watchFilledRow : OpenClaim := { program := "ytpocldjdlookjaa", sum := "4879d8cfff500a808683db4aed933964f0534e16a276e211141d82c2731a6b04", func := "nore/norelaw07.WatchFilled", spec := "watchFilled", unfollowed := true, recurses := true, plainKeys := false, apart := false }
def WatchFilledSaid : Prop := watchFilledRow.holds Try.pinned (OpenSpec.ofChange watchFilledSpec)

/-- ITS FALSE NEIGHBOUR: 'it returns false'. Refute it at one input. -/
def watchFilledWrong : ChangeSpec := { name := "watchFilled", fn := fun _ => fun
  | [d1, d2] => { results := [.lit (.bool false)], args := [d1, d2] }
  | _ => none }
def WatchFilledWrongFalsely : Prop := watchFilledRow.holds Try.pinned (OpenSpec.ofChange watchFilledWrong)

/-- 'norelaw07.WatchMissing': WHATEVER THE INPUT: true; the input reads as it did. -/
def watchMissingSpec : ChangeSpec := { name := "watchMissing", fn := fun _ => fun
  | [d1, d2, d3] => { results := [.lit (.bool true)], args := [d1, d2, d3] }
  | _ => none }
def watchMissingRow : OpenClaim := { program := "ytpocldjdlookjaa", sum := "4879d8cfff500a808683db4aed933964f0534e16a276e211141d82c2731a6b04", func := "nore/norelaw07.WatchMissing", spec := "watchMissing", unfollowed := true, recurses := true, plainKeys := false, apart := false }
def WatchMissingSaid : Prop := watchMissingRow.holds Try.pinned (OpenSpec.ofChange watchMissingSpec)

/-- ITS FALSE NEIGHBOUR: 'it returns false'. Refute it at one input. -/
def watchMissingWrong : ChangeSpec := { name := "watchMissing", fn := fun _ => fun
  | [d1, d2, d3] => { results := [.lit (.bool false)], args := [d1, d2, d3] }
  | _ => none }
def WatchMissingWrongFalsely : Prop := watchMissingRow.holds Try.pinned (OpenSpec.ofChange watchMissingWrong)

/-- 'norelaw07.WatchEasier': WHATEVER THE INPUT: true; the input reads as it did. -/
def watchEasierSpec : ChangeSpec := { name := "watchEasier", fn := fun _ => fun
  | [d1, d2, d3] => { results := [.lit (.bool true)], args := [d1, d2, d3] }
  | _ => none }
def watchEasierRow : OpenClaim := { program := "ytpocldjdlookjaa", sum := "4879d8cfff500a808683db4aed933964f0534e16a276e211141d82c2731a6b04", func := "nore/norelaw07.WatchEasier", spec := "watchEasier", unfollowed := true, recurses := true, plainKeys := false, apart := false }
def WatchEasierSaid : Prop := watchEasierRow.holds Try.pinned (OpenSpec.ofChange watchEasierSpec)

/-- ITS FALSE NEIGHBOUR: 'it returns false'. Refute it at one input. -/
def watchEasierWrong : ChangeSpec := { name := "watchEasier", fn := fun _ => fun
  | [d1, d2, d3] => { results := [.lit (.bool false)], args := [d1, d2, d3] }
  | _ => none }
def WatchEasierWrongFalsely : Prop := watchEasierRow.holds Try.pinned (OpenSpec.ofChange watchEasierWrong)

/-- 'norelaw07.WatchFurther': WHATEVER THE INPUT: true; the input reads as it did. -/
def watchFurtherSpec : ChangeSpec := { name := "watchFurther", fn := fun _ => fun
  | [d1, d2, d3] => { results := [.lit (.bool true)], args := [d1, d2, d3] }
  | _ => none }
def watchFurtherRow : OpenClaim := { program := "ytpocldjdlookjaa", sum := "4879d8cfff500a808683db4aed933964f0534e16a276e211141d82c2731a6b04", func := "nore/norelaw07.WatchFurther", spec := "watchFurther", unfollowed := true, recurses := true, plainKeys := false, apart := false }
def WatchFurtherSaid : Prop := watchFurtherRow.holds Try.pinned (OpenSpec.ofChange watchFurtherSpec)

/-- ITS FALSE NEIGHBOUR: 'it returns false'. Refute it at one input. -/
def watchFurtherWrong : ChangeSpec := { name := "watchFurther", fn := fun _ => fun
  | [d1, d2, d3] => { results := [.lit (.bool false)], args := [d1, d2, d3] }
  | _ => none }
def WatchFurtherWrongFalsely : Prop := watchFurtherRow.holds Try.pinned (OpenSpec.ofChange watchFurtherWrong)

/- THE SECOND FORM. 'bulk': how many values and letters a reading holds, each counted each time it is reached (what is shared counts as often as it is met; a slice's spare places count too). A statement '..UptoSaid' is the law's where the arguments, and the package variables that the reading takes, are together of bulk at most 1048576: NARROWER than '..Said'. Prove '..Said' where nothing that the law and all that it calls make is longer than what came in: it says more and counts as full. Else prove '..UptoSaid'. A law counts once. -/
mutual
def uptoBulk {H : Type} : DataW H → Nat
  | .lit (.string bytes) => bytes.length + 1
  | .lit _ => 1
  | .nil => 1
  | .ptr d => uptoBulk d + 1
  | .slice elems spare => uptoBulkAll elems + uptoBulkAll spare + 1
  | .agg parts => uptoBulkAll parts + 1
  | .iface _ d => uptoBulk d + 1
  | .map entries => uptoBulkEntries entries + 1
  | .held _ => 1
def uptoBulkAll {H : Type} : List (DataW H) → Nat
  | [] => 0
  | d :: r => uptoBulk d + uptoBulkAll r
def uptoBulkEntries {H : Type} : List (Lit × DataW H) → Nat
  | [] => 0
  | x :: r => uptoBulkEntry x + uptoBulkEntries r
def uptoBulkEntry {H : Type} : Lit × DataW H → Nat
  | (.string bytes, d) => bytes.length + uptoBulk d + 1
  | (_, d) => uptoBulk d + 1
 end
def uptoSmall : (H : Type) → List (DataW H) → Bool := fun _ ds => decide (uptoBulkAll ds ≤ 1048576)
def OpenSpec.upto (s : _root_.Go.ChangeSpec) : _root_.Go.OpenSpec := { _root_.Go.OpenSpec.ofChange s with cond := some uptoSmall }

/-- 'norelaw07.WatchRows', WHERE WHAT IT READS IS OF BULK AT MOST 1048576: true; the input reads as it did. -/
def watchRowsUptoRow : OpenClaim := { program := "ytpocldjdlookjaa", sum := "4879d8cfff500a808683db4aed933964f0534e16a276e211141d82c2731a6b04", func := "nore/norelaw07.WatchRows", spec := "watchRows", unfollowed := true, recurses := true, plainKeys := false, apart := false, narrowed := true }
def WatchRowsUptoSaid : Prop := watchRowsUptoRow.holds Try.pinned (OpenSpec.upto watchRowsSpec)

/-- 'norelaw07.WatchEver', WHERE WHAT IT READS IS OF BULK AT MOST 1048576: true; the input reads as it did. -/
def watchEverUptoRow : OpenClaim := { program := "ytpocldjdlookjaa", sum := "4879d8cfff500a808683db4aed933964f0534e16a276e211141d82c2731a6b04", func := "nore/norelaw07.WatchEver", spec := "watchEver", unfollowed := true, recurses := true, plainKeys := false, apart := false, narrowed := true }
def WatchEverUptoSaid : Prop := watchEverUptoRow.holds Try.pinned (OpenSpec.upto watchEverSpec)

/-- 'norelaw07.WatchFills', WHERE WHAT IT READS IS OF BULK AT MOST 1048576: true; the input reads as it did. -/
def watchFillsUptoRow : OpenClaim := { program := "ytpocldjdlookjaa", sum := "4879d8cfff500a808683db4aed933964f0534e16a276e211141d82c2731a6b04", func := "nore/norelaw07.WatchFills", spec := "watchFills", unfollowed := true, recurses := true, plainKeys := false, apart := false, narrowed := true }
def WatchFillsUptoSaid : Prop := watchFillsUptoRow.holds Try.pinned (OpenSpec.upto watchFillsSpec)

/-- 'norelaw07.WatchKnown', WHERE WHAT IT READS IS OF BULK AT MOST 1048576: true; the input reads as it did. -/
def watchKnownUptoRow : OpenClaim := { program := "ytpocldjdlookjaa", sum := "4879d8cfff500a808683db4aed933964f0534e16a276e211141d82c2731a6b04", func := "nore/norelaw07.WatchKnown", spec := "watchKnown", unfollowed := true, recurses := true, plainKeys := false, apart := false, narrowed := true }
def WatchKnownUptoSaid : Prop := watchKnownUptoRow.holds Try.pinned (OpenSpec.upto watchKnownSpec)

/-- 'norelaw07.WatchKept', WHERE WHAT IT READS IS OF BULK AT MOST 1048576: true; the input reads as it did. -/
def watchKeptUptoRow : OpenClaim := { program := "ytpocldjdlookjaa", sum := "4879d8cfff500a808683db4aed933964f0534e16a276e211141d82c2731a6b04", func := "nore/norelaw07.WatchKept", spec := "watchKept", unfollowed := true, recurses := true, plainKeys := false, apart := false, narrowed := true }
def WatchKeptUptoSaid : Prop := watchKeptUptoRow.holds Try.pinned (OpenSpec.upto watchKeptSpec)

/-- 'norelaw07.WatchFewest', WHERE WHAT IT READS IS OF BULK AT MOST 1048576: true; the input reads as it did. -/
def watchFewestUptoRow : OpenClaim := { program := "ytpocldjdlookjaa", sum := "4879d8cfff500a808683db4aed933964f0534e16a276e211141d82c2731a6b04", func := "nore/norelaw07.WatchFewest", spec := "watchFewest", unfollowed := true, recurses := true, plainKeys := false, apart := false, narrowed := true }
def WatchFewestUptoSaid : Prop := watchFewestUptoRow.holds Try.pinned (OpenSpec.upto watchFewestSpec)

/-- 'norelaw07.WatchLongest', WHERE WHAT IT READS IS OF BULK AT MOST 1048576: true; the input reads as it did. -/
def watchLongestUptoRow : OpenClaim := { program := "ytpocldjdlookjaa", sum := "4879d8cfff500a808683db4aed933964f0534e16a276e211141d82c2731a6b04", func := "nore/norelaw07.WatchLongest", spec := "watchLongest", unfollowed := true, recurses := true, plainKeys := false, apart := false, narrowed := true }
def WatchLongestUptoSaid : Prop := watchLongestUptoRow.holds Try.pinned (OpenSpec.upto watchLongestSpec)

/-- 'norelaw07.WatchNeeded', WHERE WHAT IT READS IS OF BULK AT MOST 1048576: true; the input reads as it did. -/
def watchNeededUptoRow : OpenClaim := { program := "ytpocldjdlookjaa", sum := "4879d8cfff500a808683db4aed933964f0534e16a276e211141d82c2731a6b04", func := "nore/norelaw07.WatchNeeded", spec := "watchNeeded", unfollowed := true, recurses := true, plainKeys := false, apart := false, narrowed := true }
def WatchNeededUptoSaid : Prop := watchNeededUptoRow.holds Try.pinned (OpenSpec.upto watchNeededSpec)

/-- 'norelaw07.WatchFilled', WHERE WHAT IT READS IS OF BULK AT MOST 1048576: true; the input reads as it did. -/
def watchFilledUptoRow : OpenClaim := { program := "ytpocldjdlookjaa", sum := "4879d8cfff500a808683db4aed933964f0534e16a276e211141d82c2731a6b04", func := "nore/norelaw07.WatchFilled", spec := "watchFilled", unfollowed := true, recurses := true, plainKeys := false, apart := false, narrowed := true }
def WatchFilledUptoSaid : Prop := watchFilledUptoRow.holds Try.pinned (OpenSpec.upto watchFilledSpec)

/-- 'norelaw07.WatchMissing', WHERE WHAT IT READS IS OF BULK AT MOST 1048576: true; the input reads as it did. -/
def watchMissingUptoRow : OpenClaim := { program := "ytpocldjdlookjaa", sum := "4879d8cfff500a808683db4aed933964f0534e16a276e211141d82c2731a6b04", func := "nore/norelaw07.WatchMissing", spec := "watchMissing", unfollowed := true, recurses := true, plainKeys := false, apart := false, narrowed := true }
def WatchMissingUptoSaid : Prop := watchMissingUptoRow.holds Try.pinned (OpenSpec.upto watchMissingSpec)

/-- 'norelaw07.WatchEasier', WHERE WHAT IT READS IS OF BULK AT MOST 1048576: true; the input reads as it did. -/
def watchEasierUptoRow : OpenClaim := { program := "ytpocldjdlookjaa", sum := "4879d8cfff500a808683db4aed933964f0534e16a276e211141d82c2731a6b04", func := "nore/norelaw07.WatchEasier", spec := "watchEasier", unfollowed := true, recurses := true, plainKeys := false, apart := false, narrowed := true }
def WatchEasierUptoSaid : Prop := watchEasierUptoRow.holds Try.pinned (OpenSpec.upto watchEasierSpec)

/-- 'norelaw07.WatchFurther', WHERE WHAT IT READS IS OF BULK AT MOST 1048576: true; the input reads as it did. -/
def watchFurtherUptoRow : OpenClaim := { program := "ytpocldjdlookjaa", sum := "4879d8cfff500a808683db4aed933964f0534e16a276e211141d82c2731a6b04", func := "nore/norelaw07.WatchFurther", spec := "watchFurther", unfollowed := true, recurses := true, plainKeys := false, apart := false, narrowed := true }
def WatchFurtherUptoSaid : Prop := watchFurtherUptoRow.holds Try.pinned (OpenSpec.upto watchFurtherSpec)

end Rows
end Go.Proofs.Ytpocldjdlookjaa
