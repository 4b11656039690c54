/-
  No cell of these rows narrows 'for every input' (looked for: loops, veiled, ifaces, maps, wideKeys, modest, calm, conditions, laid).
  DERIVED. THE GIVEN ROWS OF THIS SEAT. 12 by the template 'for every input the law returns true; each argument reads behind the call as it read before'; 0 by the template 'total and deterministic' (their statements: YtiflhdanniajdaaTotals.lean).
  GIVEN WITH THE SEED: the statements are not yours to turn. If you find one false, say at which input.
  Laid BY PROGRAM, IN A SANDBOX (cutbox-rows.mjs): the forced cells as the released guide's own fill.sh prints them over the translation d39f30351b3988e9… (all of the seat's roots in one cut). By AI agents, Wed Nov 11 2026. No macro, syntax, notation, axiom, sorry.
-/
import Derived.Test.YtiflhdanniajdaaChecked
import GoSem.Claim
import GoSem.ClaimJoined
import GoSem.ClaimMapViews
import Derived.JoinedTies
import Derived.KernelRfl
namespace Go.Proofs.Ytiflhdanniajdaa
/- THE CELL 'sum', in the pinned program and in every row, IS THE sha256 OF THE DUMP (.gsa) THAT YtiflhdanniajdaaProg.lean LOADS. Nothing in Lean hashes anything: it is a label: what it is worth is what the hold of that sum in a sandbox is worth. -/
noncomputable def Try.pinned : Pinned := { name := "ytiflhdanniajdaa", sum := "d39f30351b3988e915c2ad0bcfb50e294f599209360b33384f20a0eefad6ee0d", checked := Try.checked }
namespace Rows
def none {H : Type} : Left H := { results := [], args := [] }

/-- 'norelaw05.LampShows': WHATEVER THE INPUT: true; the input reads as it did. -/
def lampShowsSpec : ChangeSpec := { name := "lampShows", fn := fun _ => fun
  | [d1, d2, d3] => { results := [.lit (.bool true)], args := [d1, d2, d3] }
  | _ => none }
def lampShowsRow : OpenClaim := { program := "ytiflhdanniajdaa", sum := "d39f30351b3988e915c2ad0bcfb50e294f599209360b33384f20a0eefad6ee0d", func := "nore/norelaw05.LampShows", spec := "lampShows", unfollowed := true, recurses := true, plainKeys := false, apart := false }
def LampShowsSaid : Prop := lampShowsRow.holds Try.pinned (OpenSpec.ofChange lampShowsSpec)

/-- ITS FALSE NEIGHBOUR: 'it returns false'. Refute it at one input. -/
def lampShowsWrong : ChangeSpec := { name := "lampShows", fn := fun _ => fun
  | [d1, d2, d3] => { results := [.lit (.bool false)], args := [d1, d2, d3] }
  | _ => none }
def LampShowsWrongFalsely : Prop := lampShowsRow.holds Try.pinned (OpenSpec.ofChange lampShowsWrong)

/-- 'norelaw05.LampKnows': WHATEVER THE INPUT: true; the input reads as it did. -/
def lampKnowsSpec : ChangeSpec := { name := "lampKnows", fn := fun _ => fun
  | [d1, d2] => { results := [.lit (.bool true)], args := [d1, d2] }
  | _ => none }
def lampKnowsRow : OpenClaim := { program := "ytiflhdanniajdaa", sum := "d39f30351b3988e915c2ad0bcfb50e294f599209360b33384f20a0eefad6ee0d", func := "nore/norelaw05.LampKnows", spec := "lampKnows", unfollowed := true, recurses := true, plainKeys := false, apart := false }
def LampKnowsSaid : Prop := lampKnowsRow.holds Try.pinned (OpenSpec.ofChange lampKnowsSpec)

/-- ITS FALSE NEIGHBOUR: 'it returns false'. Refute it at one input. -/
def lampKnowsWrong : ChangeSpec := { name := "lampKnows", fn := fun _ => fun
  | [d1, d2] => { results := [.lit (.bool false)], args := [d1, d2] }
  | _ => none }
def LampKnowsWrongFalsely : Prop := lampKnowsRow.holds Try.pinned (OpenSpec.ofChange lampKnowsWrong)

/-- 'norelaw05.LampKeeps': WHATEVER THE INPUT: true; the input reads as it did. -/
def lampKeepsSpec : ChangeSpec := { name := "lampKeeps", fn := fun _ => fun
  | [d1, d2, d3] => { results := [.lit (.bool true)], args := [d1, d2, d3] }
  | _ => none }
def lampKeepsRow : OpenClaim := { program := "ytiflhdanniajdaa", sum := "d39f30351b3988e915c2ad0bcfb50e294f599209360b33384f20a0eefad6ee0d", func := "nore/norelaw05.LampKeeps", spec := "lampKeeps", unfollowed := true, recurses := true, plainKeys := false, apart := false }
def LampKeepsSaid : Prop := lampKeepsRow.holds Try.pinned (OpenSpec.ofChange lampKeepsSpec)

/-- ITS FALSE NEIGHBOUR: 'it returns false'. Refute it at one input. -/
def lampKeepsWrong : ChangeSpec := { name := "lampKeeps", fn := fun _ => fun
  | [d1, d2, d3] => { results := [.lit (.bool false)], args := [d1, d2, d3] }
  | _ => none }
def LampKeepsWrongFalsely : Prop := lampKeepsRow.holds Try.pinned (OpenSpec.ofChange lampKeepsWrong)

/-- 'norelaw05.LampWinds': WHATEVER THE INPUT: true; the input reads as it did. -/
def lampWindsSpec : ChangeSpec := { name := "lampWinds", fn := fun _ => fun
  | [d1, d2] => { results := [.lit (.bool true)], args := [d1, d2] }
  | _ => none }
def lampWindsRow : OpenClaim := { program := "ytiflhdanniajdaa", sum := "d39f30351b3988e915c2ad0bcfb50e294f599209360b33384f20a0eefad6ee0d", func := "nore/norelaw05.LampWinds", spec := "lampWinds", unfollowed := true, recurses := true, plainKeys := false, apart := false }
def LampWindsSaid : Prop := lampWindsRow.holds Try.pinned (OpenSpec.ofChange lampWindsSpec)

/-- ITS FALSE NEIGHBOUR: 'it returns false'. Refute it at one input. -/
def lampWindsWrong : ChangeSpec := { name := "lampWinds", fn := fun _ => fun
  | [d1, d2] => { results := [.lit (.bool false)], args := [d1, d2] }
  | _ => none }
def LampWindsWrongFalsely : Prop := lampWindsRow.holds Try.pinned (OpenSpec.ofChange lampWindsWrong)

/-- 'norelaw05.LampKnown': WHATEVER THE INPUT: true; the input reads as it did. -/
def lampKnownSpec : ChangeSpec := { name := "lampKnown", fn := fun _ => fun
  | [] => { results := [.lit (.bool true)], args := [] }
  | _ => none }
def lampKnownRow : OpenClaim := { program := "ytiflhdanniajdaa", sum := "d39f30351b3988e915c2ad0bcfb50e294f599209360b33384f20a0eefad6ee0d", func := "nore/norelaw05.LampKnown", spec := "lampKnown", unfollowed := true, recurses := true, plainKeys := false, apart := false }
def LampKnownSaid : Prop := lampKnownRow.holds Try.pinned (OpenSpec.ofChange lampKnownSpec)

/-- ITS FALSE NEIGHBOUR: 'it returns false'. Refute it at one input. -/
def lampKnownWrong : ChangeSpec := { name := "lampKnown", fn := fun _ => fun
  | [] => { results := [.lit (.bool false)], args := [] }
  | _ => none }
def LampKnownWrongFalsely : Prop := lampKnownRow.holds Try.pinned (OpenSpec.ofChange lampKnownWrong)

/-- 'norelaw05.LampTrue': WHATEVER THE INPUT: true; the input reads as it did. -/
def lampTrueSpec : ChangeSpec := { name := "lampTrue", fn := fun _ => fun
  | [d1, d2, d3] => { results := [.lit (.bool true)], args := [d1, d2, d3] }
  | _ => none }
def lampTrueRow : OpenClaim := { program := "ytiflhdanniajdaa", sum := "d39f30351b3988e915c2ad0bcfb50e294f599209360b33384f20a0eefad6ee0d", func := "nore/norelaw05.LampTrue", spec := "lampTrue", unfollowed := true, recurses := true, plainKeys := false, apart := false }
def LampTrueSaid : Prop := lampTrueRow.holds Try.pinned (OpenSpec.ofChange lampTrueSpec)

/-- ITS FALSE NEIGHBOUR: 'it returns false'. Refute it at one input. -/
def lampTrueWrong : ChangeSpec := { name := "lampTrue", fn := fun _ => fun
  | [d1, d2, d3] => { results := [.lit (.bool false)], args := [d1, d2, d3] }
  | _ => none }
def LampTrueWrongFalsely : Prop := lampTrueRow.holds Try.pinned (OpenSpec.ofChange lampTrueWrong)

/-- 'norelaw05.LampKept': WHATEVER THE INPUT: true; the input reads as it did. -/
def lampKeptSpec : ChangeSpec := { name := "lampKept", fn := fun _ => fun
  | [d1, d2, d3] => { results := [.lit (.bool true)], args := [d1, d2, d3] }
  | _ => none }
def lampKeptRow : OpenClaim := { program := "ytiflhdanniajdaa", sum := "d39f30351b3988e915c2ad0bcfb50e294f599209360b33384f20a0eefad6ee0d", func := "nore/norelaw05.LampKept", spec := "lampKept", unfollowed := true, recurses := true, plainKeys := false, apart := false }
def LampKeptSaid : Prop := lampKeptRow.holds Try.pinned (OpenSpec.ofChange lampKeptSpec)

/-- ITS FALSE NEIGHBOUR: 'it returns false'. Refute it at one input. -/
def lampKeptWrong : ChangeSpec := { name := "lampKept", fn := fun _ => fun
  | [d1, d2, d3] => { results := [.lit (.bool false)], args := [d1, d2, d3] }
  | _ => none }
def LampKeptWrongFalsely : Prop := lampKeptRow.holds Try.pinned (OpenSpec.ofChange lampKeptWrong)

/-- 'norelaw05.LampWrong': WHATEVER THE INPUT: true; the input reads as it did. -/
def lampWrongSpec : ChangeSpec := { name := "lampWrong", fn := fun _ => fun
  | [d1, d2] => { results := [.lit (.bool true)], args := [d1, d2] }
  | _ => none }
def lampWrongRow : OpenClaim := { program := "ytiflhdanniajdaa", sum := "d39f30351b3988e915c2ad0bcfb50e294f599209360b33384f20a0eefad6ee0d", func := "nore/norelaw05.LampWrong", spec := "lampWrong", unfollowed := true, recurses := true, plainKeys := false, apart := false }
def LampWrongSaid : Prop := lampWrongRow.holds Try.pinned (OpenSpec.ofChange lampWrongSpec)

/-- ITS FALSE NEIGHBOUR: 'it returns false'. Refute it at one input. -/
def lampWrongWrong : ChangeSpec := { name := "lampWrong", fn := fun _ => fun
  | [d1, d2] => { results := [.lit (.bool false)], args := [d1, d2] }
  | _ => none }
def LampWrongWrongFalsely : Prop := lampWrongRow.holds Try.pinned (OpenSpec.ofChange lampWrongWrong)

/-- 'norelaw05.LampWound': WHATEVER THE INPUT: true; the input reads as it did. -/
def lampWoundSpec : ChangeSpec := { name := "lampWound", fn := fun _ => fun
  | [d1, d2, d3] => { results := [.lit (.bool true)], args := [d1, d2, d3] }
  | _ => none }
def lampWoundRow : OpenClaim := { program := "ytiflhdanniajdaa", sum := "d39f30351b3988e915c2ad0bcfb50e294f599209360b33384f20a0eefad6ee0d", func := "nore/norelaw05.LampWound", spec := "lampWound", unfollowed := true, recurses := true, plainKeys := false, apart := false }
def LampWoundSaid : Prop := lampWoundRow.holds Try.pinned (OpenSpec.ofChange lampWoundSpec)

/-- ITS FALSE NEIGHBOUR: 'it returns false'. Refute it at one input. -/
def lampWoundWrong : ChangeSpec := { name := "lampWound", fn := fun _ => fun
  | [d1, d2, d3] => { results := [.lit (.bool false)], args := [d1, d2, d3] }
  | _ => none }
def LampWoundWrongFalsely : Prop := lampWoundRow.holds Try.pinned (OpenSpec.ofChange lampWoundWrong)

/-- 'norelaw05.LampMore': WHATEVER THE INPUT: true; the input reads as it did. -/
def lampMoreSpec : ChangeSpec := { name := "lampMore", fn := fun _ => fun
  | [d1, d2, d3] => { results := [.lit (.bool true)], args := [d1, d2, d3] }
  | _ => none }
def lampMoreRow : OpenClaim := { program := "ytiflhdanniajdaa", sum := "d39f30351b3988e915c2ad0bcfb50e294f599209360b33384f20a0eefad6ee0d", func := "nore/norelaw05.LampMore", spec := "lampMore", unfollowed := true, recurses := true, plainKeys := false, apart := false }
def LampMoreSaid : Prop := lampMoreRow.holds Try.pinned (OpenSpec.ofChange lampMoreSpec)

/-- ITS FALSE NEIGHBOUR: 'it returns false'. Refute it at one input. -/
def lampMoreWrong : ChangeSpec := { name := "lampMore", fn := fun _ => fun
  | [d1, d2, d3] => { results := [.lit (.bool false)], args := [d1, d2, d3] }
  | _ => none }
def LampMoreWrongFalsely : Prop := lampMoreRow.holds Try.pinned (OpenSpec.ofChange lampMoreWrong)

/-- 'norelaw05.LampWider': WHATEVER THE INPUT: true; the input reads as it did. -/
def lampWiderSpec : ChangeSpec := { name := "lampWider", fn := fun _ => fun
  | [d1, d2, d3] => { results := [.lit (.bool true)], args := [d1, d2, d3] }
  | _ => none }
def lampWiderRow : OpenClaim := { program := "ytiflhdanniajdaa", sum := "d39f30351b3988e915c2ad0bcfb50e294f599209360b33384f20a0eefad6ee0d", func := "nore/norelaw05.LampWider", spec := "lampWider", unfollowed := true, recurses := true, plainKeys := false, apart := false }
def LampWiderSaid : Prop := lampWiderRow.holds Try.pinned (OpenSpec.ofChange lampWiderSpec)

/-- ITS FALSE NEIGHBOUR: 'it returns false'. Refute it at one input. -/
def lampWiderWrong : ChangeSpec := { name := "lampWider", fn := fun _ => fun
  | [d1, d2, d3] => { results := [.lit (.bool false)], args := [d1, d2, d3] }
  | _ => none }
def LampWiderWrongFalsely : Prop := lampWiderRow.holds Try.pinned (OpenSpec.ofChange lampWiderWrong)

/-- 'norelaw05.LampTurned': WHATEVER THE INPUT: true; the input reads as it did. -/
def lampTurnedSpec : ChangeSpec := { name := "lampTurned", fn := fun _ => fun
  | [d1, d2, d3] => { results := [.lit (.bool true)], args := [d1, d2, d3] }
  | _ => none }
def lampTurnedRow : OpenClaim := { program := "ytiflhdanniajdaa", sum := "d39f30351b3988e915c2ad0bcfb50e294f599209360b33384f20a0eefad6ee0d", func := "nore/norelaw05.LampTurned", spec := "lampTurned", unfollowed := true, recurses := true, plainKeys := false, apart := false }
def LampTurnedSaid : Prop := lampTurnedRow.holds Try.pinned (OpenSpec.ofChange lampTurnedSpec)

/-- ITS FALSE NEIGHBOUR: 'it returns false'. Refute it at one input. -/
def lampTurnedWrong : ChangeSpec := { name := "lampTurned", fn := fun _ => fun
  | [d1, d2, d3] => { results := [.lit (.bool false)], args := [d1, d2, d3] }
  | _ => none }
def LampTurnedWrongFalsely : Prop := lampTurnedRow.holds Try.pinned (OpenSpec.ofChange lampTurnedWrong)

/- THE SECOND FORM. 'bulk': how many values and letters a reading holds, each counted each time it is reached (what is shared counts as often as it is met; a slice's spare places count too). A statement '..UptoSaid' is the law's where the arguments, and the package variables that the reading takes, are together of bulk at most 1048576: NARROWER than '..Said'. Prove '..Said' where nothing that the law and all that it calls make is longer than what came in: it says more and counts as full. Else prove '..UptoSaid'. A law counts once. -/
mutual
def uptoBulk {H : Type} : DataW H → Nat
  | .lit (.string bytes) => bytes.length + 1
  | .lit _ => 1
  | .nil => 1
  | .ptr d => uptoBulk d + 1
  | .slice elems spare => uptoBulkAll elems + uptoBulkAll spare + 1
  | .agg parts => uptoBulkAll parts + 1
  | .iface _ d => uptoBulk d + 1
  | .map entries => uptoBulkEntries entries + 1
  | .held _ => 1
def uptoBulkAll {H : Type} : List (DataW H) → Nat
  | [] => 0
  | d :: r => uptoBulk d + uptoBulkAll r
def uptoBulkEntries {H : Type} : List (Lit × DataW H) → Nat
  | [] => 0
  | x :: r => uptoBulkEntry x + uptoBulkEntries r
def uptoBulkEntry {H : Type} : Lit × DataW H → Nat
  | (.string bytes, d) => bytes.length + uptoBulk d + 1
  | (_, d) => uptoBulk d + 1
 end
def uptoSmall : (H : Type) → List (DataW H) → Bool := fun _ ds => decide (uptoBulkAll ds ≤ 1048576)
def OpenSpec.upto (s : _root_.Go.ChangeSpec) : _root_.Go.OpenSpec := { _root_.Go.OpenSpec.ofChange s with cond := some uptoSmall }

/-- 'norelaw05.LampShows', WHERE WHAT IT READS IS OF BULK AT MOST 1048576: true; the input reads as it did. -/
def lampShowsUptoRow : OpenClaim := { program := "ytiflhdanniajdaa", sum := "d39f30351b3988e915c2ad0bcfb50e294f599209360b33384f20a0eefad6ee0d", func := "nore/norelaw05.LampShows", spec := "lampShows", unfollowed := true, recurses := true, plainKeys := false, apart := false, narrowed := true }
def LampShowsUptoSaid : Prop := lampShowsUptoRow.holds Try.pinned (OpenSpec.upto lampShowsSpec)

/-- 'norelaw05.LampKnows', WHERE WHAT IT READS IS OF BULK AT MOST 1048576: true; the input reads as it did. -/
def lampKnowsUptoRow : OpenClaim := { program := "ytiflhdanniajdaa", sum := "d39f30351b3988e915c2ad0bcfb50e294f599209360b33384f20a0eefad6ee0d", func := "nore/norelaw05.LampKnows", spec := "lampKnows", unfollowed := true, recurses := true, plainKeys := false, apart := false, narrowed := true }
def LampKnowsUptoSaid : Prop := lampKnowsUptoRow.holds Try.pinned (OpenSpec.upto lampKnowsSpec)

/-- 'norelaw05.LampKeeps', WHERE WHAT IT READS IS OF BULK AT MOST 1048576: true; the input reads as it did. -/
def lampKeepsUptoRow : OpenClaim := { program := "ytiflhdanniajdaa", sum := "d39f30351b3988e915c2ad0bcfb50e294f599209360b33384f20a0eefad6ee0d", func := "nore/norelaw05.LampKeeps", spec := "lampKeeps", unfollowed := true, recurses := true, plainKeys := false, apart := false, narrowed := true }
def LampKeepsUptoSaid : Prop := lampKeepsUptoRow.holds Try.pinned (OpenSpec.upto lampKeepsSpec)

/-- 'norelaw05.LampWinds', WHERE WHAT IT READS IS OF BULK AT MOST 1048576: true; the input reads as it did. -/
def lampWindsUptoRow : OpenClaim := { program := "ytiflhdanniajdaa", sum := "d39f30351b3988e915c2ad0bcfb50e294f599209360b33384f20a0eefad6ee0d", func := "nore/norelaw05.LampWinds", spec := "lampWinds", unfollowed := true, recurses := true, plainKeys := false, apart := false, narrowed := true }
def LampWindsUptoSaid : Prop := lampWindsUptoRow.holds Try.pinned (OpenSpec.upto lampWindsSpec)

/-- 'norelaw05.LampKnown', WHERE WHAT IT READS IS OF BULK AT MOST 1048576: true; the input reads as it did. -/
def lampKnownUptoRow : OpenClaim := { program := "ytiflhdanniajdaa", sum := "d39f30351b3988e915c2ad0bcfb50e294f599209360b33384f20a0eefad6ee0d", func := "nore/norelaw05.LampKnown", spec := "lampKnown", unfollowed := true, recurses := true, plainKeys := false, apart := false, narrowed := true }
def LampKnownUptoSaid : Prop := lampKnownUptoRow.holds Try.pinned (OpenSpec.upto lampKnownSpec)

/-- 'norelaw05.LampTrue', WHERE WHAT IT READS IS OF BULK AT MOST 1048576: true; the input reads as it did. -/
def lampTrueUptoRow : OpenClaim := { program := "ytiflhdanniajdaa", sum := "d39f30351b3988e915c2ad0bcfb50e294f599209360b33384f20a0eefad6ee0d", func := "nore/norelaw05.LampTrue", spec := "lampTrue", unfollowed := true, recurses := true, plainKeys := false, apart := false, narrowed := true }
def LampTrueUptoSaid : Prop := lampTrueUptoRow.holds Try.pinned (OpenSpec.upto lampTrueSpec)

/-- 'norelaw05.LampKept', WHERE WHAT IT READS IS OF BULK AT MOST 1048576: true; the input reads as it did. -/
def lampKeptUptoRow : OpenClaim := { program := "ytiflhdanniajdaa", sum := "d39f30351b3988e915c2ad0bcfb50e294f599209360b33384f20a0eefad6ee0d", func := "nore/norelaw05.LampKept", spec := "lampKept", unfollowed := true, recurses := true, plainKeys := false, apart := false, narrowed := true }
def LampKeptUptoSaid : Prop := lampKeptUptoRow.holds Try.pinned (OpenSpec.upto lampKeptSpec)

/-- 'norelaw05.LampWrong', WHERE WHAT IT READS IS OF BULK AT MOST 1048576: true; the input reads as it did. -/
def lampWrongUptoRow : OpenClaim := { program := "ytiflhdanniajdaa", sum := "d39f30351b3988e915c2ad0bcfb50e294f599209360b33384f20a0eefad6ee0d", func := "nore/norelaw05.LampWrong", spec := "lampWrong", unfollowed := true, recurses := true, plainKeys := false, apart := false, narrowed := true }
def LampWrongUptoSaid : Prop := lampWrongUptoRow.holds Try.pinned (OpenSpec.upto lampWrongSpec)

/-- 'norelaw05.LampWound', WHERE WHAT IT READS IS OF BULK AT MOST 1048576: true; the input reads as it did. -/
def lampWoundUptoRow : OpenClaim := { program := "ytiflhdanniajdaa", sum := "d39f30351b3988e915c2ad0bcfb50e294f599209360b33384f20a0eefad6ee0d", func := "nore/norelaw05.LampWound", spec := "lampWound", unfollowed := true, recurses := true, plainKeys := false, apart := false, narrowed := true }
def LampWoundUptoSaid : Prop := lampWoundUptoRow.holds Try.pinned (OpenSpec.upto lampWoundSpec)

/-- 'norelaw05.LampMore', WHERE WHAT IT READS IS OF BULK AT MOST 1048576: true; the input reads as it did. -/
def lampMoreUptoRow : OpenClaim := { program := "ytiflhdanniajdaa", sum := "d39f30351b3988e915c2ad0bcfb50e294f599209360b33384f20a0eefad6ee0d", func := "nore/norelaw05.LampMore", spec := "lampMore", unfollowed := true, recurses := true, plainKeys := false, apart := false, narrowed := true }
def LampMoreUptoSaid : Prop := lampMoreUptoRow.holds Try.pinned (OpenSpec.upto lampMoreSpec)

/-- 'norelaw05.LampWider', WHERE WHAT IT READS IS OF BULK AT MOST 1048576: true; the input reads as it did. -/
def lampWiderUptoRow : OpenClaim := { program := "ytiflhdanniajdaa", sum := "d39f30351b3988e915c2ad0bcfb50e294f599209360b33384f20a0eefad6ee0d", func := "nore/norelaw05.LampWider", spec := "lampWider", unfollowed := true, recurses := true, plainKeys := false, apart := false, narrowed := true }
def LampWiderUptoSaid : Prop := lampWiderUptoRow.holds Try.pinned (OpenSpec.upto lampWiderSpec)

/-- 'norelaw05.LampTurned', WHERE WHAT IT READS IS OF BULK AT MOST 1048576: true; the input reads as it did. -/
def lampTurnedUptoRow : OpenClaim := { program := "ytiflhdanniajdaa", sum := "d39f30351b3988e915c2ad0bcfb50e294f599209360b33384f20a0eefad6ee0d", func := "nore/norelaw05.LampTurned", spec := "lampTurned", unfollowed := true, recurses := true, plainKeys := false, apart := false, narrowed := true }
def LampTurnedUptoSaid : Prop := lampTurnedUptoRow.holds Try.pinned (OpenSpec.upto lampTurnedSpec)

end Rows
end Go.Proofs.Ytiflhdanniajdaa
