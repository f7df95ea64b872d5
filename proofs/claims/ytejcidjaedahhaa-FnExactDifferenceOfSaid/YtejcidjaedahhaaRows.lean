/-
  No cell of these rows narrows 'for every input' (looked for: loops, veiled, ifaces, maps, wideKeys, modest, calm, conditions, laid).
  DERIVED. THE GIVEN ROWS OF THIS SEAT. 6 by the template 'for every input the law returns true; each argument reads behind the call as it read before'; 0 by the template 'total and deterministic' (their statements: YtejcidjaedahhaaTotals.lean).
  GIVEN WITH THE SEED: the statements are not yours to turn. If you find one false, say at which input.
  Laid BY PROGRAM, IN A SANDBOX (cutbox-rows.mjs): the forced cells as the released guide's own fill.sh prints them over the translation afdaf84a4d5761df… (all of the seat's roots in one cut). By AI agents, Wed Nov 11 2026. No macro, syntax, notation, axiom, sorry.
-/
import Derived.Test.YtejcidjaedahhaaChecked
import GoSem.Claim
import GoSem.ClaimJoined
import GoSem.ClaimMapViews
import Derived.JoinedTies
import Derived.KernelRfl
namespace Go.Proofs.Ytejcidjaedahhaa
/- THE CELL 'sum', in the pinned program and in every row, IS THE sha256 OF THE DUMP (.gsa) THAT YtejcidjaedahhaaProg.lean LOADS. Nothing in Lean hashes anything: it is a label: what it is worth is what the hold of that sum in a sandbox is worth. -/
noncomputable def Try.pinned : Pinned := { name := "ytejcidjaedahhaa", sum := "afdaf84a4d5761df75a1d836399452d3d88ef4d2c32f992e5786e2ef5366fdc9", checked := Try.checked }
namespace Rows
def none {H : Type} : Left H := { results := [], args := [] }

/-- 'laws.FnExactValidPolicy': WHATEVER THE INPUT: true; the input reads as it did. -/
def fnExactValidPolicySpec : ChangeSpec := { name := "fnExactValidPolicy", fn := fun _ => fun
  | [d] => { results := [.lit (.bool true)], args := [d] }
  | _ => none }
def fnExactValidPolicyRow : OpenClaim := { program := "ytejcidjaedahhaa", sum := "afdaf84a4d5761df75a1d836399452d3d88ef4d2c32f992e5786e2ef5366fdc9", func := "loop.example/g01105/laws.FnExactValidPolicy", spec := "fnExactValidPolicy", plainKeys := false, apart := false }
def FnExactValidPolicySaid : Prop := fnExactValidPolicyRow.holds Try.pinned (OpenSpec.ofChange fnExactValidPolicySpec)

/-- ITS FALSE NEIGHBOUR: 'it returns false'. Refute it at one input. -/
def fnExactValidPolicyWrong : ChangeSpec := { name := "fnExactValidPolicy", fn := fun _ => fun
  | [d] => { results := [.lit (.bool false)], args := [d] }
  | _ => none }
def FnExactValidPolicyWrongFalsely : Prop := fnExactValidPolicyRow.holds Try.pinned (OpenSpec.ofChange fnExactValidPolicyWrong)

/-- 'laws.FnExactStepPolicy': WHATEVER THE INPUT: true; the input reads as it did. -/
def fnExactStepPolicySpec : ChangeSpec := { name := "fnExactStepPolicy", fn := fun _ => fun
  | [d1, d2, d3] => { results := [.lit (.bool true)], args := [d1, d2, d3] }
  | _ => none }
def fnExactStepPolicyRow : OpenClaim := { program := "ytejcidjaedahhaa", sum := "afdaf84a4d5761df75a1d836399452d3d88ef4d2c32f992e5786e2ef5366fdc9", func := "loop.example/g01105/laws.FnExactStepPolicy", spec := "fnExactStepPolicy", plainKeys := false, apart := false }
def FnExactStepPolicySaid : Prop := fnExactStepPolicyRow.holds Try.pinned (OpenSpec.ofChange fnExactStepPolicySpec)

/-- ITS FALSE NEIGHBOUR: 'it returns false'. Refute it at one input. -/
def fnExactStepPolicyWrong : ChangeSpec := { name := "fnExactStepPolicy", fn := fun _ => fun
  | [d1, d2, d3] => { results := [.lit (.bool false)], args := [d1, d2, d3] }
  | _ => none }
def FnExactStepPolicyWrongFalsely : Prop := fnExactStepPolicyRow.holds Try.pinned (OpenSpec.ofChange fnExactStepPolicyWrong)

/-- 'laws.FnExactRunPolicy': WHATEVER THE INPUT: true; the input reads as it did. -/
def fnExactRunPolicySpec : ChangeSpec := { name := "fnExactRunPolicy", fn := fun _ => fun
  | [d1, d2] => { results := [.lit (.bool true)], args := [d1, d2] }
  | _ => none }
def fnExactRunPolicyRow : OpenClaim := { program := "ytejcidjaedahhaa", sum := "afdaf84a4d5761df75a1d836399452d3d88ef4d2c32f992e5786e2ef5366fdc9", func := "loop.example/g01105/laws.FnExactRunPolicy", spec := "fnExactRunPolicy", plainKeys := false, apart := false }
def FnExactRunPolicySaid : Prop := fnExactRunPolicyRow.holds Try.pinned (OpenSpec.ofChange fnExactRunPolicySpec)

/-- ITS FALSE NEIGHBOUR: 'it returns false'. Refute it at one input. -/
def fnExactRunPolicyWrong : ChangeSpec := { name := "fnExactRunPolicy", fn := fun _ => fun
  | [d1, d2] => { results := [.lit (.bool false)], args := [d1, d2] }
  | _ => none }
def FnExactRunPolicyWrongFalsely : Prop := fnExactRunPolicyRow.holds Try.pinned (OpenSpec.ofChange fnExactRunPolicyWrong)

/-- 'laws.FnExactIsStricter': WHATEVER THE INPUT: true; the input reads as it did. -/
def fnExactIsStricterSpec : ChangeSpec := { name := "fnExactIsStricter", fn := fun _ => fun
  | [d1, d2] => { results := [.lit (.bool true)], args := [d1, d2] }
  | _ => none }
def fnExactIsStricterRow : OpenClaim := { program := "ytejcidjaedahhaa", sum := "afdaf84a4d5761df75a1d836399452d3d88ef4d2c32f992e5786e2ef5366fdc9", func := "loop.example/g01105/laws.FnExactIsStricter", spec := "fnExactIsStricter", unfollowed := true, recurses := true, plainKeys := false, apart := false }
def FnExactIsStricterSaid : Prop := fnExactIsStricterRow.holds Try.pinned (OpenSpec.ofChange fnExactIsStricterSpec)

/-- ITS FALSE NEIGHBOUR: 'it returns false'. Refute it at one input. -/
def fnExactIsStricterWrong : ChangeSpec := { name := "fnExactIsStricter", fn := fun _ => fun
  | [d1, d2] => { results := [.lit (.bool false)], args := [d1, d2] }
  | _ => none }
def FnExactIsStricterWrongFalsely : Prop := fnExactIsStricterRow.holds Try.pinned (OpenSpec.ofChange fnExactIsStricterWrong)

/-- 'laws.FnExactDifferenceOf': WHATEVER THE INPUT: true; the input reads as it did. -/
def fnExactDifferenceOfSpec : ChangeSpec := { name := "fnExactDifferenceOf", fn := fun _ => fun
  | [d1, d2] => { results := [.lit (.bool true)], args := [d1, d2] }
  | _ => none }
def fnExactDifferenceOfRow : OpenClaim := { program := "ytejcidjaedahhaa", sum := "afdaf84a4d5761df75a1d836399452d3d88ef4d2c32f992e5786e2ef5366fdc9", func := "loop.example/g01105/laws.FnExactDifferenceOf", spec := "fnExactDifferenceOf", unfollowed := true, recurses := true, plainKeys := false, apart := false }
def FnExactDifferenceOfSaid : Prop := fnExactDifferenceOfRow.holds Try.pinned (OpenSpec.ofChange fnExactDifferenceOfSpec)

/-- ITS FALSE NEIGHBOUR: 'it returns false'. Refute it at one input. -/
def fnExactDifferenceOfWrong : ChangeSpec := { name := "fnExactDifferenceOf", fn := fun _ => fun
  | [d1, d2] => { results := [.lit (.bool false)], args := [d1, d2] }
  | _ => none }
def FnExactDifferenceOfWrongFalsely : Prop := fnExactDifferenceOfRow.holds Try.pinned (OpenSpec.ofChange fnExactDifferenceOfWrong)

/-- 'laws.FnExactReachedStates': WHATEVER THE INPUT: true; the input reads as it did. -/
def fnExactReachedStatesSpec : ChangeSpec := { name := "fnExactReachedStates", fn := fun _ => fun
  | [d] => { results := [.lit (.bool true)], args := [d] }
  | _ => none }
def fnExactReachedStatesRow : OpenClaim := { program := "ytejcidjaedahhaa", sum := "afdaf84a4d5761df75a1d836399452d3d88ef4d2c32f992e5786e2ef5366fdc9", func := "loop.example/g01105/laws.FnExactReachedStates", spec := "fnExactReachedStates", plainKeys := false, apart := false }
def FnExactReachedStatesSaid : Prop := fnExactReachedStatesRow.holds Try.pinned (OpenSpec.ofChange fnExactReachedStatesSpec)

/-- ITS FALSE NEIGHBOUR: 'it returns false'. Refute it at one input. -/
def fnExactReachedStatesWrong : ChangeSpec := { name := "fnExactReachedStates", fn := fun _ => fun
  | [d] => { results := [.lit (.bool false)], args := [d] }
  | _ => none }
def FnExactReachedStatesWrongFalsely : Prop := fnExactReachedStatesRow.holds Try.pinned (OpenSpec.ofChange fnExactReachedStatesWrong)

/- THE SECOND FORM. 'bulk': how many values and letters a reading holds, each counted each time it is reached (what is shared counts as often as it is met; a slice's spare places count too). A statement '..UptoSaid' is the law's where the arguments, and the package variables that the reading takes, are together of bulk at most 1048576: NARROWER than '..Said'. Prove '..Said' where nothing that the law and all that it calls make is longer than what came in: it says more and counts as full. Else prove '..UptoSaid'. A law counts once. -/
mutual
def uptoBulk {H : Type} : DataW H → Nat
  | .lit (.string bytes) => bytes.length + 1
  | .lit _ => 1
  | .nil => 1
  | .ptr d => uptoBulk d + 1
  | .slice elems spare => uptoBulkAll elems + uptoBulkAll spare + 1
  | .agg parts => uptoBulkAll parts + 1
  | .iface _ d => uptoBulk d + 1
  | .map entries => uptoBulkEntries entries + 1
  | .held _ => 1
def uptoBulkAll {H : Type} : List (DataW H) → Nat
  | [] => 0
  | d :: r => uptoBulk d + uptoBulkAll r
def uptoBulkEntries {H : Type} : List (Lit × DataW H) → Nat
  | [] => 0
  | x :: r => uptoBulkEntry x + uptoBulkEntries r
def uptoBulkEntry {H : Type} : Lit × DataW H → Nat
  | (.string bytes, d) => bytes.length + uptoBulk d + 1
  | (_, d) => uptoBulk d + 1
 end
def uptoSmall : (H : Type) → List (DataW H) → Bool := fun _ ds => decide (uptoBulkAll ds ≤ 1048576)
def OpenSpec.upto (s : _root_.Go.ChangeSpec) : _root_.Go.OpenSpec := { _root_.Go.OpenSpec.ofChange s with cond := some uptoSmall }

/-- 'laws.FnExactValidPolicy', WHERE WHAT IT READS IS OF BULK AT MOST 1048576: true; the input reads as it did. -/
def fnExactValidPolicyUptoRow : OpenClaim := { program := "ytejcidjaedahhaa", sum := "afdaf84a4d5761df75a1d836399452d3d88ef4d2c32f992e5786e2ef5366fdc9", func := "loop.example/g01105/laws.FnExactValidPolicy", spec := "fnExactValidPolicy", plainKeys := false, apart := false, narrowed := true }
def FnExactValidPolicyUptoSaid : Prop := fnExactValidPolicyUptoRow.holds Try.pinned (OpenSpec.upto fnExactValidPolicySpec)

/-- 'laws.FnExactStepPolicy', WHERE WHAT IT READS IS OF BULK AT MOST 1048576: true; the input reads as it did. -/
def fnExactStepPolicyUptoRow : OpenClaim := { program := "ytejcidjaedahhaa", sum := "afdaf84a4d5761df75a1d836399452d3d88ef4d2c32f992e5786e2ef5366fdc9", func := "loop.example/g01105/laws.FnExactStepPolicy", spec := "fnExactStepPolicy", plainKeys := false, apart := false, narrowed := true }
def FnExactStepPolicyUptoSaid : Prop := fnExactStepPolicyUptoRow.holds Try.pinned (OpenSpec.upto fnExactStepPolicySpec)

/-- 'laws.FnExactRunPolicy', WHERE WHAT IT READS IS OF BULK AT MOST 1048576: true; the input reads as it did. -/
def fnExactRunPolicyUptoRow : OpenClaim := { program := "ytejcidjaedahhaa", sum := "afdaf84a4d5761df75a1d836399452d3d88ef4d2c32f992e5786e2ef5366fdc9", func := "loop.example/g01105/laws.FnExactRunPolicy", spec := "fnExactRunPolicy", plainKeys := false, apart := false, narrowed := true }
def FnExactRunPolicyUptoSaid : Prop := fnExactRunPolicyUptoRow.holds Try.pinned (OpenSpec.upto fnExactRunPolicySpec)

/-- 'laws.FnExactIsStricter', WHERE WHAT IT READS IS OF BULK AT MOST 1048576: true; the input reads as it did. -/
def fnExactIsStricterUptoRow : OpenClaim := { program := "ytejcidjaedahhaa", sum := "afdaf84a4d5761df75a1d836399452d3d88ef4d2c32f992e5786e2ef5366fdc9", func := "loop.example/g01105/laws.FnExactIsStricter", spec := "fnExactIsStricter", unfollowed := true, recurses := true, plainKeys := false, apart := false, narrowed := true }
def FnExactIsStricterUptoSaid : Prop := fnExactIsStricterUptoRow.holds Try.pinned (OpenSpec.upto fnExactIsStricterSpec)

/-- 'laws.FnExactDifferenceOf', WHERE WHAT IT READS IS OF BULK AT MOST 1048576: true; the input reads as it did. -/
def fnExactDifferenceOfUptoRow : OpenClaim := { program := "ytejcidjaedahhaa", sum := "afdaf84a4d5761df75a1d836399452d3d88ef4d2c32f992e5786e2ef5366fdc9", func := "loop.example/g01105/laws.FnExactDifferenceOf", spec := "fnExactDifferenceOf", unfollowed := true, recurses := true, plainKeys := false, apart := false, narrowed := true }
def FnExactDifferenceOfUptoSaid : Prop := fnExactDifferenceOfUptoRow.holds Try.pinned (OpenSpec.upto fnExactDifferenceOfSpec)

/-- 'laws.FnExactReachedStates', WHERE WHAT IT READS IS OF BULK AT MOST 1048576: true; the input reads as it did. -/
def fnExactReachedStatesUptoRow : OpenClaim := { program := "ytejcidjaedahhaa", sum := "afdaf84a4d5761df75a1d836399452d3d88ef4d2c32f992e5786e2ef5366fdc9", func := "loop.example/g01105/laws.FnExactReachedStates", spec := "fnExactReachedStates", plainKeys := false, apart := false, narrowed := true }
def FnExactReachedStatesUptoSaid : Prop := fnExactReachedStatesUptoRow.holds Try.pinned (OpenSpec.upto fnExactReachedStatesSpec)

end Rows
end Go.Proofs.Ytejcidjaedahhaa
