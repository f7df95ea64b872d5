/-
  No cell of these rows narrows 'for every input' (looked for: loops, veiled, ifaces, maps, wideKeys, modest, calm, conditions, laid).
  DERIVED. THE GIVEN ROWS OF THIS SEAT. 12 by the template 'for every input the law returns true; each argument reads behind the call as it read before'; 0 by the template 'total and deterministic' (their statements: YtlijhkhbdfgapaaTotals.lean).
  GIVEN WITH THE SEED: the statements are not yours to turn. If you find one false, say at which input.
  Laid BY PROGRAM, IN A SANDBOX (cutbox-rows.mjs): the forced cells as the released guide's own fill.sh prints them over the translation d2b1b77b4401306b… (all of the seat's roots in one cut). By AI agents, Wed Nov 11 2026. No macro, syntax, notation, axiom, sorry.
-/
import Derived.Test.YtlijhkhbdfgapaaChecked
import GoSem.Claim
import GoSem.ClaimJoined
import GoSem.ClaimMapViews
import Derived.JoinedTies
import Derived.KernelRfl
namespace Go.Proofs.Ytlijhkhbdfgapaa
/- THE CELL 'sum', in the pinned program and in every row, IS THE sha256 OF THE DUMP (.gsa) THAT YtlijhkhbdfgapaaProg.lean LOADS. Nothing in Lean hashes anything: it is a label: what it is worth is what the hold of that sum in a sandbox is worth. -/
noncomputable def Try.pinned : Pinned := { name := "ytlijhkhbdfgapaa", sum := "d2b1b77b4401306b2c2edbfd1dda35400db80e3cfe223901cf6bebf44667b7c4", checked := Try.checked }
namespace Rows
def none {H : Type} : Left H := { results := [], args := [] }

/-- 'laws.FnOpposite': WHATEVER THE INPUT: true; the input reads as it did. -/
def fnOppositeSpec : ChangeSpec := { name := "fnOpposite", fn := fun _ => fun
  | [d1, d2] => { results := [.lit (.bool true)], args := [d1, d2] }
  | _ => none }
def fnOppositeRow : OpenClaim := { program := "ytlijhkhbdfgapaa", sum := "d2b1b77b4401306b2c2edbfd1dda35400db80e3cfe223901cf6bebf44667b7c4", func := "loop.example/g01105/laws.FnOpposite", spec := "fnOpposite", apart := false }
def FnOppositeSaid : Prop := fnOppositeRow.holds Try.pinned (OpenSpec.ofChange fnOppositeSpec)

/-- ITS FALSE NEIGHBOUR: 'it returns false'. Refute it at one input. -/
def fnOppositeWrong : ChangeSpec := { name := "fnOpposite", fn := fun _ => fun
  | [d1, d2] => { results := [.lit (.bool false)], args := [d1, d2] }
  | _ => none }
def FnOppositeWrongFalsely : Prop := fnOppositeRow.holds Try.pinned (OpenSpec.ofChange fnOppositeWrong)

/-- 'laws.FnTightened': WHATEVER THE INPUT: true; the input reads as it did. -/
def fnTightenedSpec : ChangeSpec := { name := "fnTightened", fn := fun _ => fun
  | [d1, d2] => { results := [.lit (.bool true)], args := [d1, d2] }
  | _ => none }
def fnTightenedRow : OpenClaim := { program := "ytlijhkhbdfgapaa", sum := "d2b1b77b4401306b2c2edbfd1dda35400db80e3cfe223901cf6bebf44667b7c4", func := "loop.example/g01105/laws.FnTightened", spec := "fnTightened", apart := false }
def FnTightenedSaid : Prop := fnTightenedRow.holds Try.pinned (OpenSpec.ofChange fnTightenedSpec)

/-- ITS FALSE NEIGHBOUR: 'it returns false'. Refute it at one input. -/
def fnTightenedWrong : ChangeSpec := { name := "fnTightened", fn := fun _ => fun
  | [d1, d2] => { results := [.lit (.bool false)], args := [d1, d2] }
  | _ => none }
def FnTightenedWrongFalsely : Prop := fnTightenedRow.holds Try.pinned (OpenSpec.ofChange fnTightenedWrong)

/-- 'laws.FnExactAddTerms': WHATEVER THE INPUT: true; the input reads as it did. -/
def fnExactAddTermsSpec : ChangeSpec := { name := "fnExactAddTerms", fn := fun _ => fun
  | [d1, d2] => { results := [.lit (.bool true)], args := [d1, d2] }
  | _ => none }
def fnExactAddTermsRow : OpenClaim := { program := "ytlijhkhbdfgapaa", sum := "d2b1b77b4401306b2c2edbfd1dda35400db80e3cfe223901cf6bebf44667b7c4", func := "loop.example/g01105/laws.FnExactAddTerms", spec := "fnExactAddTerms", apart := false }
def FnExactAddTermsSaid : Prop := fnExactAddTermsRow.holds Try.pinned (OpenSpec.ofChange fnExactAddTermsSpec)

/-- ITS FALSE NEIGHBOUR: 'it returns false'. Refute it at one input. -/
def fnExactAddTermsWrong : ChangeSpec := { name := "fnExactAddTerms", fn := fun _ => fun
  | [d1, d2] => { results := [.lit (.bool false)], args := [d1, d2] }
  | _ => none }
def FnExactAddTermsWrongFalsely : Prop := fnExactAddTermsRow.holds Try.pinned (OpenSpec.ofChange fnExactAddTermsWrong)

/-- 'laws.FnExactScaleTerm': WHATEVER THE INPUT: true; the input reads as it did. -/
def fnExactScaleTermSpec : ChangeSpec := { name := "fnExactScaleTerm", fn := fun _ => fun
  | [d1, d2] => { results := [.lit (.bool true)], args := [d1, d2] }
  | _ => none }
def fnExactScaleTermRow : OpenClaim := { program := "ytlijhkhbdfgapaa", sum := "d2b1b77b4401306b2c2edbfd1dda35400db80e3cfe223901cf6bebf44667b7c4", func := "loop.example/g01105/laws.FnExactScaleTerm", spec := "fnExactScaleTerm", apart := false }
def FnExactScaleTermSaid : Prop := fnExactScaleTermRow.holds Try.pinned (OpenSpec.ofChange fnExactScaleTermSpec)

/-- ITS FALSE NEIGHBOUR: 'it returns false'. Refute it at one input. -/
def fnExactScaleTermWrong : ChangeSpec := { name := "fnExactScaleTerm", fn := fun _ => fun
  | [d1, d2] => { results := [.lit (.bool false)], args := [d1, d2] }
  | _ => none }
def FnExactScaleTermWrongFalsely : Prop := fnExactScaleTermRow.holds Try.pinned (OpenSpec.ofChange fnExactScaleTermWrong)

/-- 'laws.FnTerms': WHATEVER THE INPUT: true; the input reads as it did. -/
def fnTermsSpec : ChangeSpec := { name := "fnTerms", fn := fun _ => fun
  | [d1, d2] => { results := [.lit (.bool true)], args := [d1, d2] }
  | _ => none }
def fnTermsRow : OpenClaim := { program := "ytlijhkhbdfgapaa", sum := "d2b1b77b4401306b2c2edbfd1dda35400db80e3cfe223901cf6bebf44667b7c4", func := "loop.example/g01105/laws.FnTerms", spec := "fnTerms", apart := false }
def FnTermsSaid : Prop := fnTermsRow.holds Try.pinned (OpenSpec.ofChange fnTermsSpec)

/-- ITS FALSE NEIGHBOUR: 'it returns false'. Refute it at one input. -/
def fnTermsWrong : ChangeSpec := { name := "fnTerms", fn := fun _ => fun
  | [d1, d2] => { results := [.lit (.bool false)], args := [d1, d2] }
  | _ => none }
def FnTermsWrongFalsely : Prop := fnTermsRow.holds Try.pinned (OpenSpec.ofChange fnTermsWrong)

/-- 'laws.FnExactOppositeOf': WHATEVER THE INPUT: true; the input reads as it did. -/
def fnExactOppositeOfSpec : ChangeSpec := { name := "fnExactOppositeOf", fn := fun _ => fun
  | [d] => { results := [.lit (.bool true)], args := [d] }
  | _ => none }
def fnExactOppositeOfRow : OpenClaim := { program := "ytlijhkhbdfgapaa", sum := "d2b1b77b4401306b2c2edbfd1dda35400db80e3cfe223901cf6bebf44667b7c4", func := "loop.example/g01105/laws.FnExactOppositeOf", spec := "fnExactOppositeOf", apart := false }
def FnExactOppositeOfSaid : Prop := fnExactOppositeOfRow.holds Try.pinned (OpenSpec.ofChange fnExactOppositeOfSpec)

/-- ITS FALSE NEIGHBOUR: 'it returns false'. Refute it at one input. -/
def fnExactOppositeOfWrong : ChangeSpec := { name := "fnExactOppositeOf", fn := fun _ => fun
  | [d] => { results := [.lit (.bool false)], args := [d] }
  | _ => none }
def FnExactOppositeOfWrongFalsely : Prop := fnExactOppositeOfRow.holds Try.pinned (OpenSpec.ofChange fnExactOppositeOfWrong)

/-- 'laws.FnCombined': WHATEVER THE INPUT: true; the input reads as it did. -/
def fnCombinedSpec : ChangeSpec := { name := "fnCombined", fn := fun _ => fun
  | [d1, d2] => { results := [.lit (.bool true)], args := [d1, d2] }
  | _ => none }
def fnCombinedRow : OpenClaim := { program := "ytlijhkhbdfgapaa", sum := "d2b1b77b4401306b2c2edbfd1dda35400db80e3cfe223901cf6bebf44667b7c4", func := "loop.example/g01105/laws.FnCombined", spec := "fnCombined", apart := false }
def FnCombinedSaid : Prop := fnCombinedRow.holds Try.pinned (OpenSpec.ofChange fnCombinedSpec)

/-- ITS FALSE NEIGHBOUR: 'it returns false'. Refute it at one input. -/
def fnCombinedWrong : ChangeSpec := { name := "fnCombined", fn := fun _ => fun
  | [d1, d2] => { results := [.lit (.bool false)], args := [d1, d2] }
  | _ => none }
def FnCombinedWrongFalsely : Prop := fnCombinedRow.holds Try.pinned (OpenSpec.ofChange fnCombinedWrong)

/-- 'laws.FnExactTightenTerm': WHATEVER THE INPUT: true; the input reads as it did. -/
def fnExactTightenTermSpec : ChangeSpec := { name := "fnExactTightenTerm", fn := fun _ => fun
  | [d] => { results := [.lit (.bool true)], args := [d] }
  | _ => none }
def fnExactTightenTermRow : OpenClaim := { program := "ytlijhkhbdfgapaa", sum := "d2b1b77b4401306b2c2edbfd1dda35400db80e3cfe223901cf6bebf44667b7c4", func := "loop.example/g01105/laws.FnExactTightenTerm", spec := "fnExactTightenTerm", apart := false }
def FnExactTightenTermSaid : Prop := fnExactTightenTermRow.holds Try.pinned (OpenSpec.ofChange fnExactTightenTermSpec)

/-- ITS FALSE NEIGHBOUR: 'it returns false'. Refute it at one input. -/
def fnExactTightenTermWrong : ChangeSpec := { name := "fnExactTightenTerm", fn := fun _ => fun
  | [d] => { results := [.lit (.bool false)], args := [d] }
  | _ => none }
def FnExactTightenTermWrongFalsely : Prop := fnExactTightenTermRow.holds Try.pinned (OpenSpec.ofChange fnExactTightenTermWrong)

/-- 'laws.FnExactIsRefuted': WHATEVER THE INPUT: true; the input reads as it did. -/
def fnExactIsRefutedSpec : ChangeSpec := { name := "fnExactIsRefuted", fn := fun _ => fun
  | [d1, d2] => { results := [.lit (.bool true)], args := [d1, d2] }
  | _ => none }
def fnExactIsRefutedRow : OpenClaim := { program := "ytlijhkhbdfgapaa", sum := "d2b1b77b4401306b2c2edbfd1dda35400db80e3cfe223901cf6bebf44667b7c4", func := "loop.example/g01105/laws.FnExactIsRefuted", spec := "fnExactIsRefuted", apart := false }
def FnExactIsRefutedSaid : Prop := fnExactIsRefutedRow.holds Try.pinned (OpenSpec.ofChange fnExactIsRefutedSpec)

/-- ITS FALSE NEIGHBOUR: 'it returns false'. Refute it at one input. -/
def fnExactIsRefutedWrong : ChangeSpec := { name := "fnExactIsRefuted", fn := fun _ => fun
  | [d1, d2] => { results := [.lit (.bool false)], args := [d1, d2] }
  | _ => none }
def FnExactIsRefutedWrongFalsely : Prop := fnExactIsRefutedRow.holds Try.pinned (OpenSpec.ofChange fnExactIsRefutedWrong)

/-- 'laws.FnExactCombineTerms': WHATEVER THE INPUT: true; the input reads as it did. -/
def fnExactCombineTermsSpec : ChangeSpec := { name := "fnExactCombineTerms", fn := fun _ => fun
  | [d1, d2] => { results := [.lit (.bool true)], args := [d1, d2] }
  | _ => none }
def fnExactCombineTermsRow : OpenClaim := { program := "ytlijhkhbdfgapaa", sum := "d2b1b77b4401306b2c2edbfd1dda35400db80e3cfe223901cf6bebf44667b7c4", func := "loop.example/g01105/laws.FnExactCombineTerms", spec := "fnExactCombineTerms", apart := false }
def FnExactCombineTermsSaid : Prop := fnExactCombineTermsRow.holds Try.pinned (OpenSpec.ofChange fnExactCombineTermsSpec)

/-- ITS FALSE NEIGHBOUR: 'it returns false'. Refute it at one input. -/
def fnExactCombineTermsWrong : ChangeSpec := { name := "fnExactCombineTerms", fn := fun _ => fun
  | [d1, d2] => { results := [.lit (.bool false)], args := [d1, d2] }
  | _ => none }
def FnExactCombineTermsWrongFalsely : Prop := fnExactCombineTermsRow.holds Try.pinned (OpenSpec.ofChange fnExactCombineTermsWrong)

/-- 'laws.FnExactSubstituteTerm': WHATEVER THE INPUT: true; the input reads as it did. -/
def fnExactSubstituteTermSpec : ChangeSpec := { name := "fnExactSubstituteTerm", fn := fun _ => fun
  | [d1, d2] => { results := [.lit (.bool true)], args := [d1, d2] }
  | _ => none }
def fnExactSubstituteTermRow : OpenClaim := { program := "ytlijhkhbdfgapaa", sum := "d2b1b77b4401306b2c2edbfd1dda35400db80e3cfe223901cf6bebf44667b7c4", func := "loop.example/g01105/laws.FnExactSubstituteTerm", spec := "fnExactSubstituteTerm", apart := false }
def FnExactSubstituteTermSaid : Prop := fnExactSubstituteTermRow.holds Try.pinned (OpenSpec.ofChange fnExactSubstituteTermSpec)

/-- ITS FALSE NEIGHBOUR: 'it returns false'. Refute it at one input. -/
def fnExactSubstituteTermWrong : ChangeSpec := { name := "fnExactSubstituteTerm", fn := fun _ => fun
  | [d1, d2] => { results := [.lit (.bool false)], args := [d1, d2] }
  | _ => none }
def FnExactSubstituteTermWrongFalsely : Prop := fnExactSubstituteTermRow.holds Try.pinned (OpenSpec.ofChange fnExactSubstituteTermWrong)

/-- 'laws.FnExactContextOf': WHATEVER THE INPUT: true; the input reads as it did. -/
def fnExactContextOfSpec : ChangeSpec := { name := "fnExactContextOf", fn := fun _ => fun
  | [d] => { results := [.lit (.bool true)], args := [d] }
  | _ => none }
def fnExactContextOfRow : OpenClaim := { program := "ytlijhkhbdfgapaa", sum := "d2b1b77b4401306b2c2edbfd1dda35400db80e3cfe223901cf6bebf44667b7c4", func := "loop.example/g01105/laws.FnExactContextOf", spec := "fnExactContextOf", apart := false }
def FnExactContextOfSaid : Prop := fnExactContextOfRow.holds Try.pinned (OpenSpec.ofChange fnExactContextOfSpec)

/-- ITS FALSE NEIGHBOUR: 'it returns false'. Refute it at one input. -/
def fnExactContextOfWrong : ChangeSpec := { name := "fnExactContextOf", fn := fun _ => fun
  | [d] => { results := [.lit (.bool false)], args := [d] }
  | _ => none }
def FnExactContextOfWrongFalsely : Prop := fnExactContextOfRow.holds Try.pinned (OpenSpec.ofChange fnExactContextOfWrong)

/- THE SECOND FORM. 'bulk': how many values and letters a reading holds, each counted each time it is reached (what is shared counts as often as it is met; a slice's spare places count too). A statement '..UptoSaid' is the law's where the arguments, and the package variables that the reading takes, are together of bulk at most 1048576: NARROWER than '..Said'. Prove '..Said' where nothing that the law and all that it calls make is longer than what came in: it says more and counts as full. Else prove '..UptoSaid'. A law counts once. -/
mutual
def uptoBulk {H : Type} : DataW H → Nat
  | .lit (.string bytes) => bytes.length + 1
  | .lit _ => 1
  | .nil => 1
  | .ptr d => uptoBulk d + 1
  | .slice elems spare => uptoBulkAll elems + uptoBulkAll spare + 1
  | .agg parts => uptoBulkAll parts + 1
  | .iface _ d => uptoBulk d + 1
  | .map entries => uptoBulkEntries entries + 1
  | .held _ => 1
def uptoBulkAll {H : Type} : List (DataW H) → Nat
  | [] => 0
  | d :: r => uptoBulk d + uptoBulkAll r
def uptoBulkEntries {H : Type} : List (Lit × DataW H) → Nat
  | [] => 0
  | x :: r => uptoBulkEntry x + uptoBulkEntries r
def uptoBulkEntry {H : Type} : Lit × DataW H → Nat
  | (.string bytes, d) => bytes.length + uptoBulk d + 1
  | (_, d) => uptoBulk d + 1
 end
def uptoSmall : (H : Type) → List (DataW H) → Bool := fun _ ds => decide (uptoBulkAll ds ≤ 1048576)
def OpenSpec.upto (s : _root_.Go.ChangeSpec) : _root_.Go.OpenSpec := { _root_.Go.OpenSpec.ofChange s with cond := some uptoSmall }

/-- 'laws.FnOpposite', WHERE WHAT IT READS IS OF BULK AT MOST 1048576: true; the input reads as it did. -/
def fnOppositeUptoRow : OpenClaim := { program := "ytlijhkhbdfgapaa", sum := "d2b1b77b4401306b2c2edbfd1dda35400db80e3cfe223901cf6bebf44667b7c4", func := "loop.example/g01105/laws.FnOpposite", spec := "fnOpposite", apart := false, narrowed := true }
def FnOppositeUptoSaid : Prop := fnOppositeUptoRow.holds Try.pinned (OpenSpec.upto fnOppositeSpec)

/-- 'laws.FnTightened', WHERE WHAT IT READS IS OF BULK AT MOST 1048576: true; the input reads as it did. -/
def fnTightenedUptoRow : OpenClaim := { program := "ytlijhkhbdfgapaa", sum := "d2b1b77b4401306b2c2edbfd1dda35400db80e3cfe223901cf6bebf44667b7c4", func := "loop.example/g01105/laws.FnTightened", spec := "fnTightened", apart := false, narrowed := true }
def FnTightenedUptoSaid : Prop := fnTightenedUptoRow.holds Try.pinned (OpenSpec.upto fnTightenedSpec)

/-- 'laws.FnExactAddTerms', WHERE WHAT IT READS IS OF BULK AT MOST 1048576: true; the input reads as it did. -/
def fnExactAddTermsUptoRow : OpenClaim := { program := "ytlijhkhbdfgapaa", sum := "d2b1b77b4401306b2c2edbfd1dda35400db80e3cfe223901cf6bebf44667b7c4", func := "loop.example/g01105/laws.FnExactAddTerms", spec := "fnExactAddTerms", apart := false, narrowed := true }
def FnExactAddTermsUptoSaid : Prop := fnExactAddTermsUptoRow.holds Try.pinned (OpenSpec.upto fnExactAddTermsSpec)

/-- 'laws.FnExactScaleTerm', WHERE WHAT IT READS IS OF BULK AT MOST 1048576: true; the input reads as it did. -/
def fnExactScaleTermUptoRow : OpenClaim := { program := "ytlijhkhbdfgapaa", sum := "d2b1b77b4401306b2c2edbfd1dda35400db80e3cfe223901cf6bebf44667b7c4", func := "loop.example/g01105/laws.FnExactScaleTerm", spec := "fnExactScaleTerm", apart := false, narrowed := true }
def FnExactScaleTermUptoSaid : Prop := fnExactScaleTermUptoRow.holds Try.pinned (OpenSpec.upto fnExactScaleTermSpec)

/-- 'laws.FnTerms', WHERE WHAT IT READS IS OF BULK AT MOST 1048576: true; the input reads as it did. -/
def fnTermsUptoRow : OpenClaim := { program := "ytlijhkhbdfgapaa", sum := "d2b1b77b4401306b2c2edbfd1dda35400db80e3cfe223901cf6bebf44667b7c4", func := "loop.example/g01105/laws.FnTerms", spec := "fnTerms", apart := false, narrowed := true }
def FnTermsUptoSaid : Prop := fnTermsUptoRow.holds Try.pinned (OpenSpec.upto fnTermsSpec)

/-- 'laws.FnExactOppositeOf', WHERE WHAT IT READS IS OF BULK AT MOST 1048576: true; the input reads as it did. -/
def fnExactOppositeOfUptoRow : OpenClaim := { program := "ytlijhkhbdfgapaa", sum := "d2b1b77b4401306b2c2edbfd1dda35400db80e3cfe223901cf6bebf44667b7c4", func := "loop.example/g01105/laws.FnExactOppositeOf", spec := "fnExactOppositeOf", apart := false, narrowed := true }
def FnExactOppositeOfUptoSaid : Prop := fnExactOppositeOfUptoRow.holds Try.pinned (OpenSpec.upto fnExactOppositeOfSpec)

/-- 'laws.FnCombined', WHERE WHAT IT READS IS OF BULK AT MOST 1048576: true; the input reads as it did. -/
def fnCombinedUptoRow : OpenClaim := { program := "ytlijhkhbdfgapaa", sum := "d2b1b77b4401306b2c2edbfd1dda35400db80e3cfe223901cf6bebf44667b7c4", func := "loop.example/g01105/laws.FnCombined", spec := "fnCombined", apart := false, narrowed := true }
def FnCombinedUptoSaid : Prop := fnCombinedUptoRow.holds Try.pinned (OpenSpec.upto fnCombinedSpec)

/-- 'laws.FnExactTightenTerm', WHERE WHAT IT READS IS OF BULK AT MOST 1048576: true; the input reads as it did. -/
def fnExactTightenTermUptoRow : OpenClaim := { program := "ytlijhkhbdfgapaa", sum := "d2b1b77b4401306b2c2edbfd1dda35400db80e3cfe223901cf6bebf44667b7c4", func := "loop.example/g01105/laws.FnExactTightenTerm", spec := "fnExactTightenTerm", apart := false, narrowed := true }
def FnExactTightenTermUptoSaid : Prop := fnExactTightenTermUptoRow.holds Try.pinned (OpenSpec.upto fnExactTightenTermSpec)

/-- 'laws.FnExactIsRefuted', WHERE WHAT IT READS IS OF BULK AT MOST 1048576: true; the input reads as it did. -/
def fnExactIsRefutedUptoRow : OpenClaim := { program := "ytlijhkhbdfgapaa", sum := "d2b1b77b4401306b2c2edbfd1dda35400db80e3cfe223901cf6bebf44667b7c4", func := "loop.example/g01105/laws.FnExactIsRefuted", spec := "fnExactIsRefuted", apart := false, narrowed := true }
def FnExactIsRefutedUptoSaid : Prop := fnExactIsRefutedUptoRow.holds Try.pinned (OpenSpec.upto fnExactIsRefutedSpec)

/-- 'laws.FnExactCombineTerms', WHERE WHAT IT READS IS OF BULK AT MOST 1048576: true; the input reads as it did. -/
def fnExactCombineTermsUptoRow : OpenClaim := { program := "ytlijhkhbdfgapaa", sum := "d2b1b77b4401306b2c2edbfd1dda35400db80e3cfe223901cf6bebf44667b7c4", func := "loop.example/g01105/laws.FnExactCombineTerms", spec := "fnExactCombineTerms", apart := false, narrowed := true }
def FnExactCombineTermsUptoSaid : Prop := fnExactCombineTermsUptoRow.holds Try.pinned (OpenSpec.upto fnExactCombineTermsSpec)

/-- 'laws.FnExactSubstituteTerm', WHERE WHAT IT READS IS OF BULK AT MOST 1048576: true; the input reads as it did. -/
def fnExactSubstituteTermUptoRow : OpenClaim := { program := "ytlijhkhbdfgapaa", sum := "d2b1b77b4401306b2c2edbfd1dda35400db80e3cfe223901cf6bebf44667b7c4", func := "loop.example/g01105/laws.FnExactSubstituteTerm", spec := "fnExactSubstituteTerm", apart := false, narrowed := true }
def FnExactSubstituteTermUptoSaid : Prop := fnExactSubstituteTermUptoRow.holds Try.pinned (OpenSpec.upto fnExactSubstituteTermSpec)

/-- 'laws.FnExactContextOf', WHERE WHAT IT READS IS OF BULK AT MOST 1048576: true; the input reads as it did. -/
def fnExactContextOfUptoRow : OpenClaim := { program := "ytlijhkhbdfgapaa", sum := "d2b1b77b4401306b2c2edbfd1dda35400db80e3cfe223901cf6bebf44667b7c4", func := "loop.example/g01105/laws.FnExactContextOf", spec := "fnExactContextOf", apart := false, narrowed := true }
def FnExactContextOfUptoSaid : Prop := fnExactContextOfUptoRow.holds Try.pinned (OpenSpec.upto fnExactContextOfSpec)

end Rows
end Go.Proofs.Ytlijhkhbdfgapaa
