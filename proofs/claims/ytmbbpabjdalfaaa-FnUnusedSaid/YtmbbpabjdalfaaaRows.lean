/-
  No cell of these rows narrows 'for every input' (looked for: loops, veiled, ifaces, maps, wideKeys, modest, calm, conditions, laid).
  DERIVED. THE GIVEN ROWS OF THIS SEAT. 8 by the template 'for every input the law returns true; each argument reads behind the call as it read before'; 0 by the template 'total and deterministic' (their statements: YtmbbpabjdalfaaaTotals.lean).
  GIVEN WITH THE SEED: the statements are not yours to turn. If you find one false, say at which input.
  Laid BY PROGRAM, IN A SANDBOX (cutbox-rows.mjs): the forced cells as the released guide's own fill.sh prints them over the translation 4594bce221dc051b… (all of the seat's roots in one cut). By AI agents, Wed Nov 11 2026. No macro, syntax, notation, axiom, sorry.
-/
import Derived.Test.YtmbbpabjdalfaaaChecked
import GoSem.Claim
import GoSem.ClaimJoined
import GoSem.ClaimMapViews
import Derived.JoinedTies
import Derived.KernelRfl
namespace Go.Proofs.Ytmbbpabjdalfaaa
/- THE CELL 'sum', in the pinned program and in every row, IS THE sha256 OF THE DUMP (.gsa) THAT YtmbbpabjdalfaaaProg.lean LOADS. Nothing in Lean hashes anything: it is a label: what it is worth is what the hold of that sum in a sandbox is worth. -/
noncomputable def Try.pinned : Pinned := { name := "ytmbbpabjdalfaaa", sum := "4594bce221dc051b09361650f95f01942c7cd47052344272810436ce5ab7b1ab", checked := Try.checked }
namespace Rows
def none {H : Type} : Left H := { results := [], args := [] }

/-- 'laws.FnExactSubproofAt': WHATEVER THE INPUT: true; the input reads as it did. -/
def fnExactSubproofAtSpec : ChangeSpec := { name := "fnExactSubproofAt", fn := fun _ => fun
  | [d1, d2] => { results := [.lit (.bool true)], args := [d1, d2] }
  | _ => none }
def fnExactSubproofAtRow : OpenClaim := { program := "ytmbbpabjdalfaaa", sum := "4594bce221dc051b09361650f95f01942c7cd47052344272810436ce5ab7b1ab", func := "loop.example/g01105/laws.FnExactSubproofAt", spec := "fnExactSubproofAt", recurses := true, apart := false }
def FnExactSubproofAtSaid : Prop := fnExactSubproofAtRow.holds Try.pinned (OpenSpec.ofChange fnExactSubproofAtSpec)

/-- ITS FALSE NEIGHBOUR: 'it returns false'. Refute it at one input. -/
def fnExactSubproofAtWrong : ChangeSpec := { name := "fnExactSubproofAt", fn := fun _ => fun
  | [d1, d2] => { results := [.lit (.bool false)], args := [d1, d2] }
  | _ => none }
def FnExactSubproofAtWrongFalsely : Prop := fnExactSubproofAtRow.holds Try.pinned (OpenSpec.ofChange fnExactSubproofAtWrong)

/-- 'laws.FnExactTrivialProof': WHATEVER THE INPUT: true; the input reads as it did. -/
def fnExactTrivialProofSpec : ChangeSpec := { name := "fnExactTrivialProof", fn := fun _ => fun
  | [d] => { results := [.lit (.bool true)], args := [d] }
  | _ => none }
def fnExactTrivialProofRow : OpenClaim := { program := "ytmbbpabjdalfaaa", sum := "4594bce221dc051b09361650f95f01942c7cd47052344272810436ce5ab7b1ab", func := "loop.example/g01105/laws.FnExactTrivialProof", spec := "fnExactTrivialProof", apart := false }
def FnExactTrivialProofSaid : Prop := fnExactTrivialProofRow.holds Try.pinned (OpenSpec.ofChange fnExactTrivialProofSpec)

/-- ITS FALSE NEIGHBOUR: 'it returns false'. Refute it at one input. -/
def fnExactTrivialProofWrong : ChangeSpec := { name := "fnExactTrivialProof", fn := fun _ => fun
  | [d] => { results := [.lit (.bool false)], args := [d] }
  | _ => none }
def FnExactTrivialProofWrongFalsely : Prop := fnExactTrivialProofRow.holds Try.pinned (OpenSpec.ofChange fnExactTrivialProofWrong)

/-- 'laws.FnUnanswered': WHATEVER THE INPUT: true; the input reads as it did. -/
def fnUnansweredSpec : ChangeSpec := { name := "fnUnanswered", fn := fun _ => fun
  | [d1, d2] => { results := [.lit (.bool true)], args := [d1, d2] }
  | _ => none }
def fnUnansweredRow : OpenClaim := { program := "ytmbbpabjdalfaaa", sum := "4594bce221dc051b09361650f95f01942c7cd47052344272810436ce5ab7b1ab", func := "loop.example/g01105/laws.FnUnanswered", spec := "fnUnanswered", recurses := true, apart := false }
def FnUnansweredSaid : Prop := fnUnansweredRow.holds Try.pinned (OpenSpec.ofChange fnUnansweredSpec)

/-- ITS FALSE NEIGHBOUR: 'it returns false'. Refute it at one input. -/
def fnUnansweredWrong : ChangeSpec := { name := "fnUnanswered", fn := fun _ => fun
  | [d1, d2] => { results := [.lit (.bool false)], args := [d1, d2] }
  | _ => none }
def FnUnansweredWrongFalsely : Prop := fnUnansweredRow.holds Try.pinned (OpenSpec.ofChange fnUnansweredWrong)

/-- 'laws.FnWays': WHATEVER THE INPUT: true; the input reads as it did. -/
def fnWaysSpec : ChangeSpec := { name := "fnWays", fn := fun _ => fun
  | [d1, d2] => { results := [.lit (.bool true)], args := [d1, d2] }
  | _ => none }
def fnWaysRow : OpenClaim := { program := "ytmbbpabjdalfaaa", sum := "4594bce221dc051b09361650f95f01942c7cd47052344272810436ce5ab7b1ab", func := "loop.example/g01105/laws.FnWays", spec := "fnWays", recurses := true, apart := false }
def FnWaysSaid : Prop := fnWaysRow.holds Try.pinned (OpenSpec.ofChange fnWaysSpec)

/-- ITS FALSE NEIGHBOUR: 'it returns false'. Refute it at one input. -/
def fnWaysWrong : ChangeSpec := { name := "fnWays", fn := fun _ => fun
  | [d1, d2] => { results := [.lit (.bool false)], args := [d1, d2] }
  | _ => none }
def FnWaysWrongFalsely : Prop := fnWaysRow.holds Try.pinned (OpenSpec.ofChange fnWaysWrong)

/-- 'laws.FnLemmas': WHATEVER THE INPUT: true; the input reads as it did. -/
def fnLemmasSpec : ChangeSpec := { name := "fnLemmas", fn := fun _ => fun
  | [d1, d2] => { results := [.lit (.bool true)], args := [d1, d2] }
  | _ => none }
def fnLemmasRow : OpenClaim := { program := "ytmbbpabjdalfaaa", sum := "4594bce221dc051b09361650f95f01942c7cd47052344272810436ce5ab7b1ab", func := "loop.example/g01105/laws.FnLemmas", spec := "fnLemmas", unfollowed := true, recurses := true, apart := false }
def FnLemmasSaid : Prop := fnLemmasRow.holds Try.pinned (OpenSpec.ofChange fnLemmasSpec)

/-- ITS FALSE NEIGHBOUR: 'it returns false'. Refute it at one input. -/
def fnLemmasWrong : ChangeSpec := { name := "fnLemmas", fn := fun _ => fun
  | [d1, d2] => { results := [.lit (.bool false)], args := [d1, d2] }
  | _ => none }
def FnLemmasWrongFalsely : Prop := fnLemmasRow.holds Try.pinned (OpenSpec.ofChange fnLemmasWrong)

/-- 'laws.FnUnused': WHATEVER THE INPUT: true; the input reads as it did. -/
def fnUnusedSpec : ChangeSpec := { name := "fnUnused", fn := fun _ => fun
  | [d1, d2] => { results := [.lit (.bool true)], args := [d1, d2] }
  | _ => none }
def fnUnusedRow : OpenClaim := { program := "ytmbbpabjdalfaaa", sum := "4594bce221dc051b09361650f95f01942c7cd47052344272810436ce5ab7b1ab", func := "loop.example/g01105/laws.FnUnused", spec := "fnUnused", unfollowed := true, recurses := true, apart := false }
def FnUnusedSaid : Prop := fnUnusedRow.holds Try.pinned (OpenSpec.ofChange fnUnusedSpec)

/-- ITS FALSE NEIGHBOUR: 'it returns false'. Refute it at one input. -/
def fnUnusedWrong : ChangeSpec := { name := "fnUnused", fn := fun _ => fun
  | [d1, d2] => { results := [.lit (.bool false)], args := [d1, d2] }
  | _ => none }
def FnUnusedWrongFalsely : Prop := fnUnusedRow.holds Try.pinned (OpenSpec.ofChange fnUnusedWrong)

/-- 'laws.FnExactCheckProof': WHATEVER THE INPUT: true; the input reads as it did. -/
def fnExactCheckProofSpec : ChangeSpec := { name := "fnExactCheckProof", fn := fun _ => fun
  | [d1, d2] => { results := [.lit (.bool true)], args := [d1, d2] }
  | _ => none }
def fnExactCheckProofRow : OpenClaim := { program := "ytmbbpabjdalfaaa", sum := "4594bce221dc051b09361650f95f01942c7cd47052344272810436ce5ab7b1ab", func := "loop.example/g01105/laws.FnExactCheckProof", spec := "fnExactCheckProof", recurses := true, apart := false }
def FnExactCheckProofSaid : Prop := fnExactCheckProofRow.holds Try.pinned (OpenSpec.ofChange fnExactCheckProofSpec)

/-- ITS FALSE NEIGHBOUR: 'it returns false'. Refute it at one input. -/
def fnExactCheckProofWrong : ChangeSpec := { name := "fnExactCheckProof", fn := fun _ => fun
  | [d1, d2] => { results := [.lit (.bool false)], args := [d1, d2] }
  | _ => none }
def FnExactCheckProofWrongFalsely : Prop := fnExactCheckProofRow.holds Try.pinned (OpenSpec.ofChange fnExactCheckProofWrong)

/-- 'laws.FnExactFirstFlaw': WHATEVER THE INPUT: true; the input reads as it did. -/
def fnExactFirstFlawSpec : ChangeSpec := { name := "fnExactFirstFlaw", fn := fun _ => fun
  | [d1, d2] => { results := [.lit (.bool true)], args := [d1, d2] }
  | _ => none }
def fnExactFirstFlawRow : OpenClaim := { program := "ytmbbpabjdalfaaa", sum := "4594bce221dc051b09361650f95f01942c7cd47052344272810436ce5ab7b1ab", func := "loop.example/g01105/laws.FnExactFirstFlaw", spec := "fnExactFirstFlaw", recurses := true, apart := false }
def FnExactFirstFlawSaid : Prop := fnExactFirstFlawRow.holds Try.pinned (OpenSpec.ofChange fnExactFirstFlawSpec)

/-- ITS FALSE NEIGHBOUR: 'it returns false'. Refute it at one input. -/
def fnExactFirstFlawWrong : ChangeSpec := { name := "fnExactFirstFlaw", fn := fun _ => fun
  | [d1, d2] => { results := [.lit (.bool false)], args := [d1, d2] }
  | _ => none }
def FnExactFirstFlawWrongFalsely : Prop := fnExactFirstFlawRow.holds Try.pinned (OpenSpec.ofChange fnExactFirstFlawWrong)

/- THE SECOND FORM. 'bulk': how many values and letters a reading holds, each counted each time it is reached (what is shared counts as often as it is met; a slice's spare places count too). A statement '..UptoSaid' is the law's where the arguments, and the package variables that the reading takes, are together of bulk at most 1048576: NARROWER than '..Said'. Prove '..Said' where nothing that the law and all that it calls make is longer than what came in: it says more and counts as full. Else prove '..UptoSaid'. A law counts once. -/
mutual
def uptoBulk {H : Type} : DataW H → Nat
  | .lit (.string bytes) => bytes.length + 1
  | .lit _ => 1
  | .nil => 1
  | .ptr d => uptoBulk d + 1
  | .slice elems spare => uptoBulkAll elems + uptoBulkAll spare + 1
  | .agg parts => uptoBulkAll parts + 1
  | .iface _ d => uptoBulk d + 1
  | .map entries => uptoBulkEntries entries + 1
  | .held _ => 1
def uptoBulkAll {H : Type} : List (DataW H) → Nat
  | [] => 0
  | d :: r => uptoBulk d + uptoBulkAll r
def uptoBulkEntries {H : Type} : List (Lit × DataW H) → Nat
  | [] => 0
  | x :: r => uptoBulkEntry x + uptoBulkEntries r
def uptoBulkEntry {H : Type} : Lit × DataW H → Nat
  | (.string bytes, d) => bytes.length + uptoBulk d + 1
  | (_, d) => uptoBulk d + 1
 end
def uptoSmall : (H : Type) → List (DataW H) → Bool := fun _ ds => decide (uptoBulkAll ds ≤ 1048576)
def OpenSpec.upto (s : _root_.Go.ChangeSpec) : _root_.Go.OpenSpec := { _root_.Go.OpenSpec.ofChange s with cond := some uptoSmall }

/-- 'laws.FnExactSubproofAt', WHERE WHAT IT READS IS OF BULK AT MOST 1048576: true; the input reads as it did. -/
def fnExactSubproofAtUptoRow : OpenClaim := { program := "ytmbbpabjdalfaaa", sum := "4594bce221dc051b09361650f95f01942c7cd47052344272810436ce5ab7b1ab", func := "loop.example/g01105/laws.FnExactSubproofAt", spec := "fnExactSubproofAt", recurses := true, apart := false, narrowed := true }
def FnExactSubproofAtUptoSaid : Prop := fnExactSubproofAtUptoRow.holds Try.pinned (OpenSpec.upto fnExactSubproofAtSpec)

/-- 'laws.FnExactTrivialProof', WHERE WHAT IT READS IS OF BULK AT MOST 1048576: true; the input reads as it did. -/
def fnExactTrivialProofUptoRow : OpenClaim := { program := "ytmbbpabjdalfaaa", sum := "4594bce221dc051b09361650f95f01942c7cd47052344272810436ce5ab7b1ab", func := "loop.example/g01105/laws.FnExactTrivialProof", spec := "fnExactTrivialProof", apart := false, narrowed := true }
def FnExactTrivialProofUptoSaid : Prop := fnExactTrivialProofUptoRow.holds Try.pinned (OpenSpec.upto fnExactTrivialProofSpec)

/-- 'laws.FnUnanswered', WHERE WHAT IT READS IS OF BULK AT MOST 1048576: true; the input reads as it did. -/
def fnUnansweredUptoRow : OpenClaim := { program := "ytmbbpabjdalfaaa", sum := "4594bce221dc051b09361650f95f01942c7cd47052344272810436ce5ab7b1ab", func := "loop.example/g01105/laws.FnUnanswered", spec := "fnUnanswered", recurses := true, apart := false, narrowed := true }
def FnUnansweredUptoSaid : Prop := fnUnansweredUptoRow.holds Try.pinned (OpenSpec.upto fnUnansweredSpec)

/-- 'laws.FnWays', WHERE WHAT IT READS IS OF BULK AT MOST 1048576: true; the input reads as it did. -/
def fnWaysUptoRow : OpenClaim := { program := "ytmbbpabjdalfaaa", sum := "4594bce221dc051b09361650f95f01942c7cd47052344272810436ce5ab7b1ab", func := "loop.example/g01105/laws.FnWays", spec := "fnWays", recurses := true, apart := false, narrowed := true }
def FnWaysUptoSaid : Prop := fnWaysUptoRow.holds Try.pinned (OpenSpec.upto fnWaysSpec)

/-- 'laws.FnLemmas', WHERE WHAT IT READS IS OF BULK AT MOST 1048576: true; the input reads as it did. -/
def fnLemmasUptoRow : OpenClaim := { program := "ytmbbpabjdalfaaa", sum := "4594bce221dc051b09361650f95f01942c7cd47052344272810436ce5ab7b1ab", func := "loop.example/g01105/laws.FnLemmas", spec := "fnLemmas", unfollowed := true, recurses := true, apart := false, narrowed := true }
def FnLemmasUptoSaid : Prop := fnLemmasUptoRow.holds Try.pinned (OpenSpec.upto fnLemmasSpec)

/-- 'laws.FnUnused', WHERE WHAT IT READS IS OF BULK AT MOST 1048576: true; the input reads as it did. -/
def fnUnusedUptoRow : OpenClaim := { program := "ytmbbpabjdalfaaa", sum := "4594bce221dc051b09361650f95f01942c7cd47052344272810436ce5ab7b1ab", func := "loop.example/g01105/laws.FnUnused", spec := "fnUnused", unfollowed := true, recurses := true, apart := false, narrowed := true }
def FnUnusedUptoSaid : Prop := fnUnusedUptoRow.holds Try.pinned (OpenSpec.upto fnUnusedSpec)

/-- 'laws.FnExactCheckProof', WHERE WHAT IT READS IS OF BULK AT MOST 1048576: true; the input reads as it did. -/
def fnExactCheckProofUptoRow : OpenClaim := { program := "ytmbbpabjdalfaaa", sum := "4594bce221dc051b09361650f95f01942c7cd47052344272810436ce5ab7b1ab", func := "loop.example/g01105/laws.FnExactCheckProof", spec := "fnExactCheckProof", recurses := true, apart := false, narrowed := true }
def FnExactCheckProofUptoSaid : Prop := fnExactCheckProofUptoRow.holds Try.pinned (OpenSpec.upto fnExactCheckProofSpec)

/-- 'laws.FnExactFirstFlaw', WHERE WHAT IT READS IS OF BULK AT MOST 1048576: true; the input reads as it did. -/
def fnExactFirstFlawUptoRow : OpenClaim := { program := "ytmbbpabjdalfaaa", sum := "4594bce221dc051b09361650f95f01942c7cd47052344272810436ce5ab7b1ab", func := "loop.example/g01105/laws.FnExactFirstFlaw", spec := "fnExactFirstFlaw", recurses := true, apart := false, narrowed := true }
def FnExactFirstFlawUptoSaid : Prop := fnExactFirstFlawUptoRow.holds Try.pinned (OpenSpec.upto fnExactFirstFlawSpec)

end Rows
end Go.Proofs.Ytmbbpabjdalfaaa
