/-
  No cell of these rows narrows 'for every input' (looked for: loops, veiled, ifaces, maps, wideKeys, modest, calm, conditions, laid).
  DERIVED. THE GIVEN ROWS OF THIS SEAT. 7 by the template 'for every input the law returns true; each argument reads behind the call as it read before'; 0 by the template 'total and deterministic' (their statements: YtagnekdlhllndaaTotals.lean).
  GIVEN WITH THE SEED: the statements are not yours to turn. If you find one false, say at which input.
  Laid BY PROGRAM, IN A SANDBOX (cutbox-rows.mjs): the forced cells as the released guide's own fill.sh prints them over the translation fccedda962478c57… (all of the seat's roots in one cut). By AI agents, Wed Nov 11 2026. No macro, syntax, notation, axiom, sorry.
-/
import Derived.Test.YtagnekdlhllndaaChecked
import GoSem.Claim
import GoSem.ClaimJoined
import GoSem.ClaimMapViews
import Derived.JoinedTies
import Derived.KernelRfl
namespace Go.Proofs.Ytagnekdlhllndaa
/- THE CELL 'sum', in the pinned program and in every row, IS THE sha256 OF THE DUMP (.gsa) THAT YtagnekdlhllndaaProg.lean LOADS. Nothing in Lean hashes anything: it is a label: what it is worth is what the hold of that sum in a sandbox is worth. -/
noncomputable def Try.pinned : Pinned := { name := "ytagnekdlhllndaa", sum := "fccedda962478c5790f5f9887d42bb25d777721ebf238ea192c523968f732a8c", checked := Try.checked }
namespace Rows
def none {H : Type} : Left H := { results := [], args := [] }

/-- 'laws.FnFuel': WHATEVER THE INPUT: true; the input reads as it did. -/
def fnFuelSpec : ChangeSpec := { name := "fnFuel", fn := fun _ => fun
  | [d1, d2] => { results := [.lit (.bool true)], args := [d1, d2] }
  | _ => none }
def fnFuelRow : OpenClaim := { program := "ytagnekdlhllndaa", sum := "fccedda962478c5790f5f9887d42bb25d777721ebf238ea192c523968f732a8c", func := "loop.example/g01105/laws.FnFuel", spec := "fnFuel", unfollowed := true, recurses := true, apart := false }
def FnFuelSaid : Prop := fnFuelRow.holds Try.pinned (OpenSpec.ofChange fnFuelSpec)

/-- ITS FALSE NEIGHBOUR: 'it returns false'. Refute it at one input. -/
def fnFuelWrong : ChangeSpec := { name := "fnFuel", fn := fun _ => fun
  | [d1, d2] => { results := [.lit (.bool false)], args := [d1, d2] }
  | _ => none }
def FnFuelWrongFalsely : Prop := fnFuelRow.holds Try.pinned (OpenSpec.ofChange fnFuelWrong)

/-- 'laws.FnJoinedRuns': WHATEVER THE INPUT: true; the input reads as it did. -/
def fnJoinedRunsSpec : ChangeSpec := { name := "fnJoinedRuns", fn := fun _ => fun
  | [d1, d2] => { results := [.lit (.bool true)], args := [d1, d2] }
  | _ => none }
def fnJoinedRunsRow : OpenClaim := { program := "ytagnekdlhllndaa", sum := "fccedda962478c5790f5f9887d42bb25d777721ebf238ea192c523968f732a8c", func := "loop.example/g01105/laws.FnJoinedRuns", spec := "fnJoinedRuns", unfollowed := true, recurses := true, apart := false }
def FnJoinedRunsSaid : Prop := fnJoinedRunsRow.holds Try.pinned (OpenSpec.ofChange fnJoinedRunsSpec)

/-- ITS FALSE NEIGHBOUR: 'it returns false'. Refute it at one input. -/
def fnJoinedRunsWrong : ChangeSpec := { name := "fnJoinedRuns", fn := fun _ => fun
  | [d1, d2] => { results := [.lit (.bool false)], args := [d1, d2] }
  | _ => none }
def FnJoinedRunsWrongFalsely : Prop := fnJoinedRunsRow.holds Try.pinned (OpenSpec.ofChange fnJoinedRunsWrong)

/-- 'laws.FnExactNormalBody': WHATEVER THE INPUT: true; the input reads as it did. -/
def fnExactNormalBodySpec : ChangeSpec := { name := "fnExactNormalBody", fn := fun _ => fun
  | [d] => { results := [.lit (.bool true)], args := [d] }
  | _ => none }
def fnExactNormalBodyRow : OpenClaim := { program := "ytagnekdlhllndaa", sum := "fccedda962478c5790f5f9887d42bb25d777721ebf238ea192c523968f732a8c", func := "loop.example/g01105/laws.FnExactNormalBody", spec := "fnExactNormalBody", unfollowed := true, recurses := true, apart := false }
def FnExactNormalBodySaid : Prop := fnExactNormalBodyRow.holds Try.pinned (OpenSpec.ofChange fnExactNormalBodySpec)

/-- ITS FALSE NEIGHBOUR: 'it returns false'. Refute it at one input. -/
def fnExactNormalBodyWrong : ChangeSpec := { name := "fnExactNormalBody", fn := fun _ => fun
  | [d] => { results := [.lit (.bool false)], args := [d] }
  | _ => none }
def FnExactNormalBodyWrongFalsely : Prop := fnExactNormalBodyRow.holds Try.pinned (OpenSpec.ofChange fnExactNormalBodyWrong)

/-- 'laws.FnExactJoinPrograms': WHATEVER THE INPUT: true; the input reads as it did. -/
def fnExactJoinProgramsSpec : ChangeSpec := { name := "fnExactJoinPrograms", fn := fun _ => fun
  | [d1, d2] => { results := [.lit (.bool true)], args := [d1, d2] }
  | _ => none }
def fnExactJoinProgramsRow : OpenClaim := { program := "ytagnekdlhllndaa", sum := "fccedda962478c5790f5f9887d42bb25d777721ebf238ea192c523968f732a8c", func := "loop.example/g01105/laws.FnExactJoinPrograms", spec := "fnExactJoinPrograms", unfollowed := true, recurses := true, apart := false }
def FnExactJoinProgramsSaid : Prop := fnExactJoinProgramsRow.holds Try.pinned (OpenSpec.ofChange fnExactJoinProgramsSpec)

/-- ITS FALSE NEIGHBOUR: 'it returns false'. Refute it at one input. -/
def fnExactJoinProgramsWrong : ChangeSpec := { name := "fnExactJoinPrograms", fn := fun _ => fun
  | [d1, d2] => { results := [.lit (.bool false)], args := [d1, d2] }
  | _ => none }
def FnExactJoinProgramsWrongFalsely : Prop := fnExactJoinProgramsRow.holds Try.pinned (OpenSpec.ofChange fnExactJoinProgramsWrong)

/-- 'laws.FnSimplified': WHATEVER THE INPUT: true; the input reads as it did. -/
def fnSimplifiedSpec : ChangeSpec := { name := "fnSimplified", fn := fun _ => fun
  | [d1, d2] => { results := [.lit (.bool true)], args := [d1, d2] }
  | _ => none }
def fnSimplifiedRow : OpenClaim := { program := "ytagnekdlhllndaa", sum := "fccedda962478c5790f5f9887d42bb25d777721ebf238ea192c523968f732a8c", func := "loop.example/g01105/laws.FnSimplified", spec := "fnSimplified", unfollowed := true, recurses := true, apart := false }
def FnSimplifiedSaid : Prop := fnSimplifiedRow.holds Try.pinned (OpenSpec.ofChange fnSimplifiedSpec)

/-- ITS FALSE NEIGHBOUR: 'it returns false'. Refute it at one input. -/
def fnSimplifiedWrong : ChangeSpec := { name := "fnSimplified", fn := fun _ => fun
  | [d1, d2] => { results := [.lit (.bool false)], args := [d1, d2] }
  | _ => none }
def FnSimplifiedWrongFalsely : Prop := fnSimplifiedRow.holds Try.pinned (OpenSpec.ofChange fnSimplifiedWrong)

/-- 'laws.FnExactStepsOf': WHATEVER THE INPUT: true; the input reads as it did. -/
def fnExactStepsOfSpec : ChangeSpec := { name := "fnExactStepsOf", fn := fun _ => fun
  | [d1, d2, d3] => { results := [.lit (.bool true)], args := [d1, d2, d3] }
  | _ => none }
def fnExactStepsOfRow : OpenClaim := { program := "ytagnekdlhllndaa", sum := "fccedda962478c5790f5f9887d42bb25d777721ebf238ea192c523968f732a8c", func := "loop.example/g01105/laws.FnExactStepsOf", spec := "fnExactStepsOf", unfollowed := true, recurses := true, apart := false }
def FnExactStepsOfSaid : Prop := fnExactStepsOfRow.holds Try.pinned (OpenSpec.ofChange fnExactStepsOfSpec)

/-- ITS FALSE NEIGHBOUR: 'it returns false'. Refute it at one input. -/
def fnExactStepsOfWrong : ChangeSpec := { name := "fnExactStepsOf", fn := fun _ => fun
  | [d1, d2, d3] => { results := [.lit (.bool false)], args := [d1, d2, d3] }
  | _ => none }
def FnExactStepsOfWrongFalsely : Prop := fnExactStepsOfRow.holds Try.pinned (OpenSpec.ofChange fnExactStepsOfWrong)

/-- 'laws.FnExactSimplifyBody': WHATEVER THE INPUT: true; the input reads as it did. -/
def fnExactSimplifyBodySpec : ChangeSpec := { name := "fnExactSimplifyBody", fn := fun _ => fun
  | [d] => { results := [.lit (.bool true)], args := [d] }
  | _ => none }
def fnExactSimplifyBodyRow : OpenClaim := { program := "ytagnekdlhllndaa", sum := "fccedda962478c5790f5f9887d42bb25d777721ebf238ea192c523968f732a8c", func := "loop.example/g01105/laws.FnExactSimplifyBody", spec := "fnExactSimplifyBody", unfollowed := true, recurses := true, apart := false }
def FnExactSimplifyBodySaid : Prop := fnExactSimplifyBodyRow.holds Try.pinned (OpenSpec.ofChange fnExactSimplifyBodySpec)

/-- ITS FALSE NEIGHBOUR: 'it returns false'. Refute it at one input. -/
def fnExactSimplifyBodyWrong : ChangeSpec := { name := "fnExactSimplifyBody", fn := fun _ => fun
  | [d] => { results := [.lit (.bool false)], args := [d] }
  | _ => none }
def FnExactSimplifyBodyWrongFalsely : Prop := fnExactSimplifyBodyRow.holds Try.pinned (OpenSpec.ofChange fnExactSimplifyBodyWrong)

/- THE SECOND FORM. 'bulk': how many values and letters a reading holds, each counted each time it is reached (what is shared counts as often as it is met; a slice's spare places count too). A statement '..UptoSaid' is the law's where the arguments, and the package variables that the reading takes, are together of bulk at most 1048576: NARROWER than '..Said'. Prove '..Said' where nothing that the law and all that it calls make is longer than what came in: it says more and counts as full. Else prove '..UptoSaid'. A law counts once. -/
mutual
def uptoBulk {H : Type} : DataW H → Nat
  | .lit (.string bytes) => bytes.length + 1
  | .lit _ => 1
  | .nil => 1
  | .ptr d => uptoBulk d + 1
  | .slice elems spare => uptoBulkAll elems + uptoBulkAll spare + 1
  | .agg parts => uptoBulkAll parts + 1
  | .iface _ d => uptoBulk d + 1
  | .map entries => uptoBulkEntries entries + 1
  | .held _ => 1
def uptoBulkAll {H : Type} : List (DataW H) → Nat
  | [] => 0
  | d :: r => uptoBulk d + uptoBulkAll r
def uptoBulkEntries {H : Type} : List (Lit × DataW H) → Nat
  | [] => 0
  | x :: r => uptoBulkEntry x + uptoBulkEntries r
def uptoBulkEntry {H : Type} : Lit × DataW H → Nat
  | (.string bytes, d) => bytes.length + uptoBulk d + 1
  | (_, d) => uptoBulk d + 1
 end
def uptoSmall : (H : Type) → List (DataW H) → Bool := fun _ ds => decide (uptoBulkAll ds ≤ 1048576)
def OpenSpec.upto (s : _root_.Go.ChangeSpec) : _root_.Go.OpenSpec := { _root_.Go.OpenSpec.ofChange s with cond := some uptoSmall }

/-- 'laws.FnFuel', WHERE WHAT IT READS IS OF BULK AT MOST 1048576: true; the input reads as it did. -/
def fnFuelUptoRow : OpenClaim := { program := "ytagnekdlhllndaa", sum := "fccedda962478c5790f5f9887d42bb25d777721ebf238ea192c523968f732a8c", func := "loop.example/g01105/laws.FnFuel", spec := "fnFuel", unfollowed := true, recurses := true, apart := false, narrowed := true }
def FnFuelUptoSaid : Prop := fnFuelUptoRow.holds Try.pinned (OpenSpec.upto fnFuelSpec)

/-- 'laws.FnJoinedRuns', WHERE WHAT IT READS IS OF BULK AT MOST 1048576: true; the input reads as it did. -/
def fnJoinedRunsUptoRow : OpenClaim := { program := "ytagnekdlhllndaa", sum := "fccedda962478c5790f5f9887d42bb25d777721ebf238ea192c523968f732a8c", func := "loop.example/g01105/laws.FnJoinedRuns", spec := "fnJoinedRuns", unfollowed := true, recurses := true, apart := false, narrowed := true }
def FnJoinedRunsUptoSaid : Prop := fnJoinedRunsUptoRow.holds Try.pinned (OpenSpec.upto fnJoinedRunsSpec)

/-- 'laws.FnExactNormalBody', WHERE WHAT IT READS IS OF BULK AT MOST 1048576: true; the input reads as it did. -/
def fnExactNormalBodyUptoRow : OpenClaim := { program := "ytagnekdlhllndaa", sum := "fccedda962478c5790f5f9887d42bb25d777721ebf238ea192c523968f732a8c", func := "loop.example/g01105/laws.FnExactNormalBody", spec := "fnExactNormalBody", unfollowed := true, recurses := true, apart := false, narrowed := true }
def FnExactNormalBodyUptoSaid : Prop := fnExactNormalBodyUptoRow.holds Try.pinned (OpenSpec.upto fnExactNormalBodySpec)

/-- 'laws.FnExactJoinPrograms', WHERE WHAT IT READS IS OF BULK AT MOST 1048576: true; the input reads as it did. -/
def fnExactJoinProgramsUptoRow : OpenClaim := { program := "ytagnekdlhllndaa", sum := "fccedda962478c5790f5f9887d42bb25d777721ebf238ea192c523968f732a8c", func := "loop.example/g01105/laws.FnExactJoinPrograms", spec := "fnExactJoinPrograms", unfollowed := true, recurses := true, apart := false, narrowed := true }
def FnExactJoinProgramsUptoSaid : Prop := fnExactJoinProgramsUptoRow.holds Try.pinned (OpenSpec.upto fnExactJoinProgramsSpec)

/-- 'laws.FnSimplified', WHERE WHAT IT READS IS OF BULK AT MOST 1048576: true; the input reads as it did. -/
def fnSimplifiedUptoRow : OpenClaim := { program := "ytagnekdlhllndaa", sum := "fccedda962478c5790f5f9887d42bb25d777721ebf238ea192c523968f732a8c", func := "loop.example/g01105/laws.FnSimplified", spec := "fnSimplified", unfollowed := true, recurses := true, apart := false, narrowed := true }
def FnSimplifiedUptoSaid : Prop := fnSimplifiedUptoRow.holds Try.pinned (OpenSpec.upto fnSimplifiedSpec)

/-- 'laws.FnExactStepsOf', WHERE WHAT IT READS IS OF BULK AT MOST 1048576: true; the input reads as it did. -/
def fnExactStepsOfUptoRow : OpenClaim := { program := "ytagnekdlhllndaa", sum := "fccedda962478c5790f5f9887d42bb25d777721ebf238ea192c523968f732a8c", func := "loop.example/g01105/laws.FnExactStepsOf", spec := "fnExactStepsOf", unfollowed := true, recurses := true, apart := false, narrowed := true }
def FnExactStepsOfUptoSaid : Prop := fnExactStepsOfUptoRow.holds Try.pinned (OpenSpec.upto fnExactStepsOfSpec)

/-- 'laws.FnExactSimplifyBody', WHERE WHAT IT READS IS OF BULK AT MOST 1048576: true; the input reads as it did. -/
def fnExactSimplifyBodyUptoRow : OpenClaim := { program := "ytagnekdlhllndaa", sum := "fccedda962478c5790f5f9887d42bb25d777721ebf238ea192c523968f732a8c", func := "loop.example/g01105/laws.FnExactSimplifyBody", spec := "fnExactSimplifyBody", unfollowed := true, recurses := true, apart := false, narrowed := true }
def FnExactSimplifyBodyUptoSaid : Prop := fnExactSimplifyBodyUptoRow.holds Try.pinned (OpenSpec.upto fnExactSimplifyBodySpec)

end Rows
end Go.Proofs.Ytagnekdlhllndaa
