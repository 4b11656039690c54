/-
  No cell of these rows narrows 'for every input' (looked for: loops, veiled, ifaces, maps, wideKeys, modest, calm, conditions, laid).
  DERIVED. THE GIVEN ROWS OF THIS SEAT. 10 by the template 'for every input the law returns true; each argument reads behind the call as it read before'; 0 by the template 'total and deterministic' (their statements: YtifbnniijibfgaaTotals.lean).
  GIVEN WITH THE SEED: the statements are not yours to turn. If you find one false, say at which input.
  Laid BY PROGRAM, IN A SANDBOX (cutbox-rows.mjs): the forced cells as the released guide's own fill.sh prints them over the translation cf06aee410953755… (all of the seat's roots in one cut). By AI agents, Wed Nov 11 2026. No macro, syntax, notation, axiom, sorry.
-/
import Derived.Test.YtifbnniijibfgaaChecked
import GoSem.Claim
import GoSem.ClaimJoined
import GoSem.ClaimMapViews
import Derived.JoinedTies
import Derived.KernelRfl
namespace Go.Proofs.Ytifbnniijibfgaa
/- THE CELL 'sum', in the pinned program and in every row, IS THE sha256 OF THE DUMP (.gsa) THAT YtifbnniijibfgaaProg.lean LOADS. Nothing in Lean hashes anything: it is a label: what it is worth is what the hold of that sum in a sandbox is worth. -/
noncomputable def Try.pinned : Pinned := { name := "ytifbnniijibfgaa", sum := "cf06aee410953755ca28bbe8379e365136c584bd0579ab86f4dfd74a2cac2016", checked := Try.checked }
namespace Rows
def none {H : Type} : Left H := { results := [], args := [] }

/-- 'norelaw03.ChainGauges': WHATEVER THE INPUT: true; the input reads as it did. -/
def chainGaugesSpec : ChangeSpec := { name := "chainGauges", fn := fun _ => fun
  | [d1, d2, d3] => { results := [.lit (.bool true)], args := [d1, d2, d3] }
  | _ => none }
def chainGaugesRow : OpenClaim := { program := "ytifbnniijibfgaa", sum := "cf06aee410953755ca28bbe8379e365136c584bd0579ab86f4dfd74a2cac2016", func := "nore/norelaw03.ChainGauges", spec := "chainGauges", unfollowed := true, recurses := true, apart := false }
def ChainGaugesSaid : Prop := chainGaugesRow.holds Try.pinned (OpenSpec.ofChange chainGaugesSpec)

/-- ITS FALSE NEIGHBOUR: 'it returns false'. Refute it at one input. -/
def chainGaugesWrong : ChangeSpec := { name := "chainGauges", fn := fun _ => fun
  | [d1, d2, d3] => { results := [.lit (.bool false)], args := [d1, d2, d3] }
  | _ => none }
def ChainGaugesWrongFalsely : Prop := chainGaugesRow.holds Try.pinned (OpenSpec.ofChange chainGaugesWrong)

/-- 'norelaw03.ChainKnown': WHATEVER THE INPUT: true; the input reads as it did. -/
def chainKnownSpec : ChangeSpec := { name := "chainKnown", fn := fun _ => fun
  | [] => { results := [.lit (.bool true)], args := [] }
  | _ => none }
def chainKnownRow : OpenClaim := { program := "ytifbnniijibfgaa", sum := "cf06aee410953755ca28bbe8379e365136c584bd0579ab86f4dfd74a2cac2016", func := "nore/norelaw03.ChainKnown", spec := "chainKnown", unfollowed := true, recurses := true, apart := false }
def ChainKnownSaid : Prop := chainKnownRow.holds Try.pinned (OpenSpec.ofChange chainKnownSpec)

/-- ITS FALSE NEIGHBOUR: 'it returns false'. Refute it at one input. -/
def chainKnownWrong : ChangeSpec := { name := "chainKnown", fn := fun _ => fun
  | [] => { results := [.lit (.bool false)], args := [] }
  | _ => none }
def ChainKnownWrongFalsely : Prop := chainKnownRow.holds Try.pinned (OpenSpec.ofChange chainKnownWrong)

/-- 'norelaw03.ChainTrue': WHATEVER THE INPUT: true; the input reads as it did. -/
def chainTrueSpec : ChangeSpec := { name := "chainTrue", fn := fun _ => fun
  | [d1, d2, d3] => { results := [.lit (.bool true)], args := [d1, d2, d3] }
  | _ => none }
def chainTrueRow : OpenClaim := { program := "ytifbnniijibfgaa", sum := "cf06aee410953755ca28bbe8379e365136c584bd0579ab86f4dfd74a2cac2016", func := "nore/norelaw03.ChainTrue", spec := "chainTrue", unfollowed := true, recurses := true, apart := false }
def ChainTrueSaid : Prop := chainTrueRow.holds Try.pinned (OpenSpec.ofChange chainTrueSpec)

/-- ITS FALSE NEIGHBOUR: 'it returns false'. Refute it at one input. -/
def chainTrueWrong : ChangeSpec := { name := "chainTrue", fn := fun _ => fun
  | [d1, d2, d3] => { results := [.lit (.bool false)], args := [d1, d2, d3] }
  | _ => none }
def ChainTrueWrongFalsely : Prop := chainTrueRow.holds Try.pinned (OpenSpec.ofChange chainTrueWrong)

/-- 'norelaw03.ChainDoubts': WHATEVER THE INPUT: true; the input reads as it did. -/
def chainDoubtsSpec : ChangeSpec := { name := "chainDoubts", fn := fun _ => fun
  | [d1, d2, d3] => { results := [.lit (.bool true)], args := [d1, d2, d3] }
  | _ => none }
def chainDoubtsRow : OpenClaim := { program := "ytifbnniijibfgaa", sum := "cf06aee410953755ca28bbe8379e365136c584bd0579ab86f4dfd74a2cac2016", func := "nore/norelaw03.ChainDoubts", spec := "chainDoubts", unfollowed := true, recurses := true, apart := false }
def ChainDoubtsSaid : Prop := chainDoubtsRow.holds Try.pinned (OpenSpec.ofChange chainDoubtsSpec)

/-- ITS FALSE NEIGHBOUR: 'it returns false'. Refute it at one input. -/
def chainDoubtsWrong : ChangeSpec := { name := "chainDoubts", fn := fun _ => fun
  | [d1, d2, d3] => { results := [.lit (.bool false)], args := [d1, d2, d3] }
  | _ => none }
def ChainDoubtsWrongFalsely : Prop := chainDoubtsRow.holds Try.pinned (OpenSpec.ofChange chainDoubtsWrong)

/-- 'norelaw03.ChainMore': WHATEVER THE INPUT: true; the input reads as it did. -/
def chainMoreSpec : ChangeSpec := { name := "chainMore", fn := fun _ => fun
  | [d1, d2, d3] => { results := [.lit (.bool true)], args := [d1, d2, d3] }
  | _ => none }
def chainMoreRow : OpenClaim := { program := "ytifbnniijibfgaa", sum := "cf06aee410953755ca28bbe8379e365136c584bd0579ab86f4dfd74a2cac2016", func := "nore/norelaw03.ChainMore", spec := "chainMore", unfollowed := true, recurses := true, apart := false }
def ChainMoreSaid : Prop := chainMoreRow.holds Try.pinned (OpenSpec.ofChange chainMoreSpec)

/-- ITS FALSE NEIGHBOUR: 'it returns false'. Refute it at one input. -/
def chainMoreWrong : ChangeSpec := { name := "chainMore", fn := fun _ => fun
  | [d1, d2, d3] => { results := [.lit (.bool false)], args := [d1, d2, d3] }
  | _ => none }
def ChainMoreWrongFalsely : Prop := chainMoreRow.holds Try.pinned (OpenSpec.ofChange chainMoreWrong)

/-- 'norelaw03.ChainAny': WHATEVER THE INPUT: true; the input reads as it did. -/
def chainAnySpec : ChangeSpec := { name := "chainAny", fn := fun _ => fun
  | [d1, d2, d3] => { results := [.lit (.bool true)], args := [d1, d2, d3] }
  | _ => none }
def chainAnyRow : OpenClaim := { program := "ytifbnniijibfgaa", sum := "cf06aee410953755ca28bbe8379e365136c584bd0579ab86f4dfd74a2cac2016", func := "nore/norelaw03.ChainAny", spec := "chainAny", unfollowed := true, recurses := true, apart := false }
def ChainAnySaid : Prop := chainAnyRow.holds Try.pinned (OpenSpec.ofChange chainAnySpec)

/-- ITS FALSE NEIGHBOUR: 'it returns false'. Refute it at one input. -/
def chainAnyWrong : ChangeSpec := { name := "chainAny", fn := fun _ => fun
  | [d1, d2, d3] => { results := [.lit (.bool false)], args := [d1, d2, d3] }
  | _ => none }
def ChainAnyWrongFalsely : Prop := chainAnyRow.holds Try.pinned (OpenSpec.ofChange chainAnyWrong)

/-- 'norelaw03.ChainShortest': WHATEVER THE INPUT: true; the input reads as it did. -/
def chainShortestSpec : ChangeSpec := { name := "chainShortest", fn := fun _ => fun
  | [d1, d2] => { results := [.lit (.bool true)], args := [d1, d2] }
  | _ => none }
def chainShortestRow : OpenClaim := { program := "ytifbnniijibfgaa", sum := "cf06aee410953755ca28bbe8379e365136c584bd0579ab86f4dfd74a2cac2016", func := "nore/norelaw03.ChainShortest", spec := "chainShortest", unfollowed := true, recurses := true, apart := false }
def ChainShortestSaid : Prop := chainShortestRow.holds Try.pinned (OpenSpec.ofChange chainShortestSpec)

/-- ITS FALSE NEIGHBOUR: 'it returns false'. Refute it at one input. -/
def chainShortestWrong : ChangeSpec := { name := "chainShortest", fn := fun _ => fun
  | [d1, d2] => { results := [.lit (.bool false)], args := [d1, d2] }
  | _ => none }
def ChainShortestWrongFalsely : Prop := chainShortestRow.holds Try.pinned (OpenSpec.ofChange chainShortestWrong)

/-- 'norelaw03.ChainRenew': WHATEVER THE INPUT: true; the input reads as it did. -/
def chainRenewSpec : ChangeSpec := { name := "chainRenew", fn := fun _ => fun
  | [d1, d2, d3] => { results := [.lit (.bool true)], args := [d1, d2, d3] }
  | _ => none }
def chainRenewRow : OpenClaim := { program := "ytifbnniijibfgaa", sum := "cf06aee410953755ca28bbe8379e365136c584bd0579ab86f4dfd74a2cac2016", func := "nore/norelaw03.ChainRenew", spec := "chainRenew", unfollowed := true, recurses := true, apart := false }
def ChainRenewSaid : Prop := chainRenewRow.holds Try.pinned (OpenSpec.ofChange chainRenewSpec)

/-- ITS FALSE NEIGHBOUR: 'it returns false'. Refute it at one input. -/
def chainRenewWrong : ChangeSpec := { name := "chainRenew", fn := fun _ => fun
  | [d1, d2, d3] => { results := [.lit (.bool false)], args := [d1, d2, d3] }
  | _ => none }
def ChainRenewWrongFalsely : Prop := chainRenewRow.holds Try.pinned (OpenSpec.ofChange chainRenewWrong)

/-- 'norelaw03.ChainCalmer': WHATEVER THE INPUT: true; the input reads as it did. -/
def chainCalmerSpec : ChangeSpec := { name := "chainCalmer", fn := fun _ => fun
  | [d1, d2, d3] => { results := [.lit (.bool true)], args := [d1, d2, d3] }
  | _ => none }
def chainCalmerRow : OpenClaim := { program := "ytifbnniijibfgaa", sum := "cf06aee410953755ca28bbe8379e365136c584bd0579ab86f4dfd74a2cac2016", func := "nore/norelaw03.ChainCalmer", spec := "chainCalmer", unfollowed := true, recurses := true, apart := false }
def ChainCalmerSaid : Prop := chainCalmerRow.holds Try.pinned (OpenSpec.ofChange chainCalmerSpec)

/-- ITS FALSE NEIGHBOUR: 'it returns false'. Refute it at one input. -/
def chainCalmerWrong : ChangeSpec := { name := "chainCalmer", fn := fun _ => fun
  | [d1, d2, d3] => { results := [.lit (.bool false)], args := [d1, d2, d3] }
  | _ => none }
def ChainCalmerWrongFalsely : Prop := chainCalmerRow.holds Try.pinned (OpenSpec.ofChange chainCalmerWrong)

/-- 'norelaw03.ChainTurned': WHATEVER THE INPUT: true; the input reads as it did. -/
def chainTurnedSpec : ChangeSpec := { name := "chainTurned", fn := fun _ => fun
  | [d] => { results := [.lit (.bool true)], args := [d] }
  | _ => none }
def chainTurnedRow : OpenClaim := { program := "ytifbnniijibfgaa", sum := "cf06aee410953755ca28bbe8379e365136c584bd0579ab86f4dfd74a2cac2016", func := "nore/norelaw03.ChainTurned", spec := "chainTurned", unfollowed := true, recurses := true, apart := false }
def ChainTurnedSaid : Prop := chainTurnedRow.holds Try.pinned (OpenSpec.ofChange chainTurnedSpec)

/-- ITS FALSE NEIGHBOUR: 'it returns false'. Refute it at one input. -/
def chainTurnedWrong : ChangeSpec := { name := "chainTurned", fn := fun _ => fun
  | [d] => { results := [.lit (.bool false)], args := [d] }
  | _ => none }
def ChainTurnedWrongFalsely : Prop := chainTurnedRow.holds Try.pinned (OpenSpec.ofChange chainTurnedWrong)

/- THE SECOND FORM. 'bulk': how many values and letters a reading holds, each counted each time it is reached (what is shared counts as often as it is met; a slice's spare places count too). A statement '..UptoSaid' is the law's where the arguments, and the package variables that the reading takes, are together of bulk at most 1048576: NARROWER than '..Said'. Prove '..Said' where nothing that the law and all that it calls make is longer than what came in: it says more and counts as full. Else prove '..UptoSaid'. A law counts once. -/
mutual
def uptoBulk {H : Type} : DataW H → Nat
  | .lit (.string bytes) => bytes.length + 1
  | .lit _ => 1
  | .nil => 1
  | .ptr d => uptoBulk d + 1
  | .slice elems spare => uptoBulkAll elems + uptoBulkAll spare + 1
  | .agg parts => uptoBulkAll parts + 1
  | .iface _ d => uptoBulk d + 1
  | .map entries => uptoBulkEntries entries + 1
  | .held _ => 1
def uptoBulkAll {H : Type} : List (DataW H) → Nat
  | [] => 0
  | d :: r => uptoBulk d + uptoBulkAll r
def uptoBulkEntries {H : Type} : List (Lit × DataW H) → Nat
  | [] => 0
  | x :: r => uptoBulkEntry x + uptoBulkEntries r
def uptoBulkEntry {H : Type} : Lit × DataW H → Nat
  | (.string bytes, d) => bytes.length + uptoBulk d + 1
  | (_, d) => uptoBulk d + 1
 end
def uptoSmall : (H : Type) → List (DataW H) → Bool := fun _ ds => decide (uptoBulkAll ds ≤ 1048576)
def OpenSpec.upto (s : _root_.Go.ChangeSpec) : _root_.Go.OpenSpec := { _root_.Go.OpenSpec.ofChange s with cond := some uptoSmall }

/-- 'norelaw03.ChainGauges', WHERE WHAT IT READS IS OF BULK AT MOST 1048576: true; the input reads as it did. -/
def chainGaugesUptoRow : OpenClaim := { program := "ytifbnniijibfgaa", sum := "cf06aee410953755ca28bbe8379e365136c584bd0579ab86f4dfd74a2cac2016", func := "nore/norelaw03.ChainGauges", spec := "chainGauges", unfollowed := true, recurses := true, apart := false, narrowed := true }
def ChainGaugesUptoSaid : Prop := chainGaugesUptoRow.holds Try.pinned (OpenSpec.upto chainGaugesSpec)

/-- 'norelaw03.ChainKnown', WHERE WHAT IT READS IS OF BULK AT MOST 1048576: true; the input reads as it did. -/
def chainKnownUptoRow : OpenClaim := { program := "ytifbnniijibfgaa", sum := "cf06aee410953755ca28bbe8379e365136c584bd0579ab86f4dfd74a2cac2016", func := "nore/norelaw03.ChainKnown", spec := "chainKnown", unfollowed := true, recurses := true, apart := false, narrowed := true }
def ChainKnownUptoSaid : Prop := chainKnownUptoRow.holds Try.pinned (OpenSpec.upto chainKnownSpec)

/-- 'norelaw03.ChainTrue', WHERE WHAT IT READS IS OF BULK AT MOST 1048576: true; the input reads as it did. -/
def chainTrueUptoRow : OpenClaim := { program := "ytifbnniijibfgaa", sum := "cf06aee410953755ca28bbe8379e365136c584bd0579ab86f4dfd74a2cac2016", func := "nore/norelaw03.ChainTrue", spec := "chainTrue", unfollowed := true, recurses := true, apart := false, narrowed := true }
def ChainTrueUptoSaid : Prop := chainTrueUptoRow.holds Try.pinned (OpenSpec.upto chainTrueSpec)

/-- 'norelaw03.ChainDoubts', WHERE WHAT IT READS IS OF BULK AT MOST 1048576: true; the input reads as it did. -/
def chainDoubtsUptoRow : OpenClaim := { program := "ytifbnniijibfgaa", sum := "cf06aee410953755ca28bbe8379e365136c584bd0579ab86f4dfd74a2cac2016", func := "nore/norelaw03.ChainDoubts", spec := "chainDoubts", unfollowed := true, recurses := true, apart := false, narrowed := true }
def ChainDoubtsUptoSaid : Prop := chainDoubtsUptoRow.holds Try.pinned (OpenSpec.upto chainDoubtsSpec)

/-- 'norelaw03.ChainMore', WHERE WHAT IT READS IS OF BULK AT MOST 1048576: true; the input reads as it did. -/
def chainMoreUptoRow : OpenClaim := { program := "ytifbnniijibfgaa", sum := "cf06aee410953755ca28bbe8379e365136c584bd0579ab86f4dfd74a2cac2016", func := "nore/norelaw03.ChainMore", spec := "chainMore", unfollowed := true, recurses := true, apart := false, narrowed := true }
def ChainMoreUptoSaid : Prop := chainMoreUptoRow.holds Try.pinned (OpenSpec.upto chainMoreSpec)

/-- 'norelaw03.ChainAny', WHERE WHAT IT READS IS OF BULK AT MOST 1048576: true; the input reads as it did. -/
def chainAnyUptoRow : OpenClaim := { program := "ytifbnniijibfgaa", sum := "cf06aee410953755ca28bbe8379e365136c584bd0579ab86f4dfd74a2cac2016", func := "nore/norelaw03.ChainAny", spec := "chainAny", unfollowed := true, recurses := true, apart := false, narrowed := true }
def ChainAnyUptoSaid : Prop := chainAnyUptoRow.holds Try.pinned (OpenSpec.upto chainAnySpec)

/-- 'norelaw03.ChainShortest', WHERE WHAT IT READS IS OF BULK AT MOST 1048576: true; the input reads as it did. -/
def chainShortestUptoRow : OpenClaim := { program := "ytifbnniijibfgaa", sum := "cf06aee410953755ca28bbe8379e365136c584bd0579ab86f4dfd74a2cac2016", func := "nore/norelaw03.ChainShortest", spec := "chainShortest", unfollowed := true, recurses := true, apart := false, narrowed := true }
def ChainShortestUptoSaid : Prop := chainShortestUptoRow.holds Try.pinned (OpenSpec.upto chainShortestSpec)

/-- 'norelaw03.ChainRenew', WHERE WHAT IT READS IS OF BULK AT MOST 1048576: true; the input reads as it did. -/
def chainRenewUptoRow : OpenClaim := { program := "ytifbnniijibfgaa", sum := "cf06aee410953755ca28bbe8379e365136c584bd0579ab86f4dfd74a2cac2016", func := "nore/norelaw03.ChainRenew", spec := "chainRenew", unfollowed := true, recurses := true, apart := false, narrowed := true }
def ChainRenewUptoSaid : Prop := chainRenewUptoRow.holds Try.pinned (OpenSpec.upto chainRenewSpec)

/-- 'norelaw03.ChainCalmer', WHERE WHAT IT READS IS OF BULK AT MOST 1048576: true; the input reads as it did. -/
def chainCalmerUptoRow : OpenClaim := { program := "ytifbnniijibfgaa", sum := "cf06aee410953755ca28bbe8379e365136c584bd0579ab86f4dfd74a2cac2016", func := "nore/norelaw03.ChainCalmer", spec := "chainCalmer", unfollowed := true, recurses := true, apart := false, narrowed := true }
def ChainCalmerUptoSaid : Prop := chainCalmerUptoRow.holds Try.pinned (OpenSpec.upto chainCalmerSpec)

/-- 'norelaw03.ChainTurned', WHERE WHAT IT READS IS OF BULK AT MOST 1048576: true; the input reads as it did. -/
def chainTurnedUptoRow : OpenClaim := { program := "ytifbnniijibfgaa", sum := "cf06aee410953755ca28bbe8379e365136c584bd0579ab86f4dfd74a2cac2016", func := "nore/norelaw03.ChainTurned", spec := "chainTurned", unfollowed := true, recurses := true, apart := false, narrowed := true }
def ChainTurnedUptoSaid : Prop := chainTurnedUptoRow.holds Try.pinned (OpenSpec.upto chainTurnedSpec)

end Rows
end Go.Proofs.Ytifbnniijibfgaa
