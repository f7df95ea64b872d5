/-
  No cell of these rows narrows 'for every input' (looked for: loops, veiled, ifaces, maps, wideKeys, modest, calm, conditions, laid).
  DERIVED. THE GIVEN ROWS OF THIS SEAT. 9 by the template 'for every input the law returns true; each argument reads behind the call as it read before'; 0 by the template 'total and deterministic' (their statements: YtkiapbiifhkaaaaTotals.lean).
  GIVEN WITH THE SEED: the statements are not yours to turn. If you find one false, say at which input.
  Laid BY PROGRAM, IN A SANDBOX (cutbox-rows.mjs): the forced cells as the released guide's own fill.sh prints them over the translation 15fe89ab04a88f29… (all of the seat's roots in one cut). By AI agents, Wed Nov 11 2026. No macro, syntax, notation, axiom, sorry.
-/
import Derived.Test.YtkiapbiifhkaaaaChecked
import GoSem.Claim
import GoSem.ClaimJoined
import GoSem.ClaimMapViews
import Derived.JoinedTies
import Derived.KernelRfl
namespace Go.Proofs.Ytkiapbiifhkaaaa
/- THE CELL 'sum', in the pinned program and in every row, IS THE sha256 OF THE DUMP (.gsa) THAT YtkiapbiifhkaaaaProg.lean LOADS. Nothing in Lean hashes anything: it is a label: what it is worth is what the hold of that sum in a sandbox is worth. -/
noncomputable def Try.pinned : Pinned := { name := "ytkiapbiifhkaaaa", sum := "15fe89ab04a88f2904e883bdd16cefb6a823916ead23c3d040178228b7a1dc55", checked := Try.checked }
namespace Rows
def none {H : Type} : Left H := { results := [], args := [] }

/-- 'laws.FnSteps': WHATEVER THE INPUT: true; the input reads as it did. -/
def fnStepsSpec : ChangeSpec := { name := "fnSteps", fn := fun _ => fun
  | [d1, d2] => { results := [.lit (.bool true)], args := [d1, d2] }
  | _ => none }
def fnStepsRow : OpenClaim := { program := "ytkiapbiifhkaaaa", sum := "15fe89ab04a88f2904e883bdd16cefb6a823916ead23c3d040178228b7a1dc55", func := "loop.example/g01105/laws.FnSteps", spec := "fnSteps", unfollowed := true, recurses := true, apart := false }
def FnStepsSaid : Prop := fnStepsRow.holds Try.pinned (OpenSpec.ofChange fnStepsSpec)

/-- ITS FALSE NEIGHBOUR: 'it returns false'. Refute it at one input. -/
def fnStepsWrong : ChangeSpec := { name := "fnSteps", fn := fun _ => fun
  | [d1, d2] => { results := [.lit (.bool false)], args := [d1, d2] }
  | _ => none }
def FnStepsWrongFalsely : Prop := fnStepsRow.holds Try.pinned (OpenSpec.ofChange fnStepsWrong)

/-- 'laws.FnExactCountCode': WHATEVER THE INPUT: true; the input reads as it did. -/
def fnExactCountCodeSpec : ChangeSpec := { name := "fnExactCountCode", fn := fun _ => fun
  | [d1, d2, d3] => { results := [.lit (.bool true)], args := [d1, d2, d3] }
  | _ => none }
def fnExactCountCodeRow : OpenClaim := { program := "ytkiapbiifhkaaaa", sum := "15fe89ab04a88f2904e883bdd16cefb6a823916ead23c3d040178228b7a1dc55", func := "loop.example/g01105/laws.FnExactCountCode", spec := "fnExactCountCode", unfollowed := true, recurses := true, apart := false }
def FnExactCountCodeSaid : Prop := fnExactCountCodeRow.holds Try.pinned (OpenSpec.ofChange fnExactCountCodeSpec)

/-- ITS FALSE NEIGHBOUR: 'it returns false'. Refute it at one input. -/
def fnExactCountCodeWrong : ChangeSpec := { name := "fnExactCountCode", fn := fun _ => fun
  | [d1, d2, d3] => { results := [.lit (.bool false)], args := [d1, d2, d3] }
  | _ => none }
def FnExactCountCodeWrongFalsely : Prop := fnExactCountCodeRow.holds Try.pinned (OpenSpec.ofChange fnExactCountCodeWrong)

/-- 'laws.FnExactRunCode': WHATEVER THE INPUT: true; the input reads as it did. -/
def fnExactRunCodeSpec : ChangeSpec := { name := "fnExactRunCode", fn := fun _ => fun
  | [d1, d2, d3] => { results := [.lit (.bool true)], args := [d1, d2, d3] }
  | _ => none }
def fnExactRunCodeRow : OpenClaim := { program := "ytkiapbiifhkaaaa", sum := "15fe89ab04a88f2904e883bdd16cefb6a823916ead23c3d040178228b7a1dc55", func := "loop.example/g01105/laws.FnExactRunCode", spec := "fnExactRunCode", unfollowed := true, recurses := true, apart := false }
def FnExactRunCodeSaid : Prop := fnExactRunCodeRow.holds Try.pinned (OpenSpec.ofChange fnExactRunCodeSpec)

/-- ITS FALSE NEIGHBOUR: 'it returns false'. Refute it at one input. -/
def fnExactRunCodeWrong : ChangeSpec := { name := "fnExactRunCode", fn := fun _ => fun
  | [d1, d2, d3] => { results := [.lit (.bool false)], args := [d1, d2, d3] }
  | _ => none }
def FnExactRunCodeWrongFalsely : Prop := fnExactRunCodeRow.holds Try.pinned (OpenSpec.ofChange fnExactRunCodeWrong)

/-- 'laws.FnExactStepCode': WHATEVER THE INPUT: true; the input reads as it did. -/
def fnExactStepCodeSpec : ChangeSpec := { name := "fnExactStepCode", fn := fun _ => fun
  | [d1, d2] => { results := [.lit (.bool true)], args := [d1, d2] }
  | _ => none }
def fnExactStepCodeRow : OpenClaim := { program := "ytkiapbiifhkaaaa", sum := "15fe89ab04a88f2904e883bdd16cefb6a823916ead23c3d040178228b7a1dc55", func := "loop.example/g01105/laws.FnExactStepCode", spec := "fnExactStepCode", unfollowed := true, recurses := true, apart := false }
def FnExactStepCodeSaid : Prop := fnExactStepCodeRow.holds Try.pinned (OpenSpec.ofChange fnExactStepCodeSpec)

/-- ITS FALSE NEIGHBOUR: 'it returns false'. Refute it at one input. -/
def fnExactStepCodeWrong : ChangeSpec := { name := "fnExactStepCode", fn := fun _ => fun
  | [d1, d2] => { results := [.lit (.bool false)], args := [d1, d2] }
  | _ => none }
def FnExactStepCodeWrongFalsely : Prop := fnExactStepCodeRow.holds Try.pinned (OpenSpec.ofChange fnExactStepCodeWrong)

/-- 'laws.FnExactThreadJumps': WHATEVER THE INPUT: true; the input reads as it did. -/
def fnExactThreadJumpsSpec : ChangeSpec := { name := "fnExactThreadJumps", fn := fun _ => fun
  | [d] => { results := [.lit (.bool true)], args := [d] }
  | _ => none }
def fnExactThreadJumpsRow : OpenClaim := { program := "ytkiapbiifhkaaaa", sum := "15fe89ab04a88f2904e883bdd16cefb6a823916ead23c3d040178228b7a1dc55", func := "loop.example/g01105/laws.FnExactThreadJumps", spec := "fnExactThreadJumps", unfollowed := true, recurses := true, apart := false }
def FnExactThreadJumpsSaid : Prop := fnExactThreadJumpsRow.holds Try.pinned (OpenSpec.ofChange fnExactThreadJumpsSpec)

/-- ITS FALSE NEIGHBOUR: 'it returns false'. Refute it at one input. -/
def fnExactThreadJumpsWrong : ChangeSpec := { name := "fnExactThreadJumps", fn := fun _ => fun
  | [d] => { results := [.lit (.bool false)], args := [d] }
  | _ => none }
def FnExactThreadJumpsWrongFalsely : Prop := fnExactThreadJumpsRow.holds Try.pinned (OpenSpec.ofChange fnExactThreadJumpsWrong)

/-- 'laws.FnExactDropIdleJumps': WHATEVER THE INPUT: true; the input reads as it did. -/
def fnExactDropIdleJumpsSpec : ChangeSpec := { name := "fnExactDropIdleJumps", fn := fun _ => fun
  | [d] => { results := [.lit (.bool true)], args := [d] }
  | _ => none }
def fnExactDropIdleJumpsRow : OpenClaim := { program := "ytkiapbiifhkaaaa", sum := "15fe89ab04a88f2904e883bdd16cefb6a823916ead23c3d040178228b7a1dc55", func := "loop.example/g01105/laws.FnExactDropIdleJumps", spec := "fnExactDropIdleJumps", unfollowed := true, recurses := true, apart := false }
def FnExactDropIdleJumpsSaid : Prop := fnExactDropIdleJumpsRow.holds Try.pinned (OpenSpec.ofChange fnExactDropIdleJumpsSpec)

/-- ITS FALSE NEIGHBOUR: 'it returns false'. Refute it at one input. -/
def fnExactDropIdleJumpsWrong : ChangeSpec := { name := "fnExactDropIdleJumps", fn := fun _ => fun
  | [d] => { results := [.lit (.bool false)], args := [d] }
  | _ => none }
def FnExactDropIdleJumpsWrongFalsely : Prop := fnExactDropIdleJumpsRow.holds Try.pinned (OpenSpec.ofChange fnExactDropIdleJumpsWrong)

/-- 'laws.FnExactAddPoint': WHATEVER THE INPUT: true; the input reads as it did. -/
def fnExactAddPointSpec : ChangeSpec := { name := "fnExactAddPoint", fn := fun _ => fun
  | [d1, d2] => { results := [.lit (.bool true)], args := [d1, d2] }
  | _ => none }
def fnExactAddPointRow : OpenClaim := { program := "ytkiapbiifhkaaaa", sum := "15fe89ab04a88f2904e883bdd16cefb6a823916ead23c3d040178228b7a1dc55", func := "loop.example/g01105/laws.FnExactAddPoint", spec := "fnExactAddPoint", inPlace := ["slices.overlaps[loop.example/g01105/impl.Point]"], unfollowed := true, recurses := true, apart := false }
def FnExactAddPointSaid : Prop := fnExactAddPointRow.holds Try.pinned (OpenSpec.ofChange fnExactAddPointSpec)

/-- ITS FALSE NEIGHBOUR: 'it returns false'. Refute it at one input. -/
def fnExactAddPointWrong : ChangeSpec := { name := "fnExactAddPoint", fn := fun _ => fun
  | [d1, d2] => { results := [.lit (.bool false)], args := [d1, d2] }
  | _ => none }
def FnExactAddPointWrongFalsely : Prop := fnExactAddPointRow.holds Try.pinned (OpenSpec.ofChange fnExactAddPointWrong)

/-- 'laws.FnExactDropPoint': WHATEVER THE INPUT: true; the input reads as it did. -/
def fnExactDropPointSpec : ChangeSpec := { name := "fnExactDropPoint", fn := fun _ => fun
  | [d1, d2] => { results := [.lit (.bool true)], args := [d1, d2] }
  | _ => none }
def fnExactDropPointRow : OpenClaim := { program := "ytkiapbiifhkaaaa", sum := "15fe89ab04a88f2904e883bdd16cefb6a823916ead23c3d040178228b7a1dc55", func := "loop.example/g01105/laws.FnExactDropPoint", spec := "fnExactDropPoint", unfollowed := true, recurses := true, apart := false }
def FnExactDropPointSaid : Prop := fnExactDropPointRow.holds Try.pinned (OpenSpec.ofChange fnExactDropPointSpec)

/-- ITS FALSE NEIGHBOUR: 'it returns false'. Refute it at one input. -/
def fnExactDropPointWrong : ChangeSpec := { name := "fnExactDropPoint", fn := fun _ => fun
  | [d1, d2] => { results := [.lit (.bool false)], args := [d1, d2] }
  | _ => none }
def FnExactDropPointWrongFalsely : Prop := fnExactDropPointRow.holds Try.pinned (OpenSpec.ofChange fnExactDropPointWrong)

/-- 'laws.FnExactValidPackage': WHATEVER THE INPUT: true; the input reads as it did. -/
def fnExactValidPackageSpec : ChangeSpec := { name := "fnExactValidPackage", fn := fun _ => fun
  | [d] => { results := [.lit (.bool true)], args := [d] }
  | _ => none }
def fnExactValidPackageRow : OpenClaim := { program := "ytkiapbiifhkaaaa", sum := "15fe89ab04a88f2904e883bdd16cefb6a823916ead23c3d040178228b7a1dc55", func := "loop.example/g01105/laws.FnExactValidPackage", spec := "fnExactValidPackage", unfollowed := true, recurses := true, apart := false }
def FnExactValidPackageSaid : Prop := fnExactValidPackageRow.holds Try.pinned (OpenSpec.ofChange fnExactValidPackageSpec)

/-- ITS FALSE NEIGHBOUR: 'it returns false'. Refute it at one input. -/
def fnExactValidPackageWrong : ChangeSpec := { name := "fnExactValidPackage", fn := fun _ => fun
  | [d] => { results := [.lit (.bool false)], args := [d] }
  | _ => none }
def FnExactValidPackageWrongFalsely : Prop := fnExactValidPackageRow.holds Try.pinned (OpenSpec.ofChange fnExactValidPackageWrong)

/- THE SECOND FORM. 'bulk': how many values and letters a reading holds, each counted each time it is reached (what is shared counts as often as it is met; a slice's spare places count too). A statement '..UptoSaid' is the law's where the arguments, and the package variables that the reading takes, are together of bulk at most 1048576: NARROWER than '..Said'. Prove '..Said' where nothing that the law and all that it calls make is longer than what came in: it says more and counts as full. Else prove '..UptoSaid'. A law counts once. -/
mutual
def uptoBulk {H : Type} : DataW H → Nat
  | .lit (.string bytes) => bytes.length + 1
  | .lit _ => 1
  | .nil => 1
  | .ptr d => uptoBulk d + 1
  | .slice elems spare => uptoBulkAll elems + uptoBulkAll spare + 1
  | .agg parts => uptoBulkAll parts + 1
  | .iface _ d => uptoBulk d + 1
  | .map entries => uptoBulkEntries entries + 1
  | .held _ => 1
def uptoBulkAll {H : Type} : List (DataW H) → Nat
  | [] => 0
  | d :: r => uptoBulk d + uptoBulkAll r
def uptoBulkEntries {H : Type} : List (Lit × DataW H) → Nat
  | [] => 0
  | x :: r => uptoBulkEntry x + uptoBulkEntries r
def uptoBulkEntry {H : Type} : Lit × DataW H → Nat
  | (.string bytes, d) => bytes.length + uptoBulk d + 1
  | (_, d) => uptoBulk d + 1
 end
def uptoSmall : (H : Type) → List (DataW H) → Bool := fun _ ds => decide (uptoBulkAll ds ≤ 1048576)
def OpenSpec.upto (s : _root_.Go.ChangeSpec) : _root_.Go.OpenSpec := { _root_.Go.OpenSpec.ofChange s with cond := some uptoSmall }

/-- 'laws.FnSteps', WHERE WHAT IT READS IS OF BULK AT MOST 1048576: true; the input reads as it did. -/
def fnStepsUptoRow : OpenClaim := { program := "ytkiapbiifhkaaaa", sum := "15fe89ab04a88f2904e883bdd16cefb6a823916ead23c3d040178228b7a1dc55", func := "loop.example/g01105/laws.FnSteps", spec := "fnSteps", unfollowed := true, recurses := true, apart := false, narrowed := true }
def FnStepsUptoSaid : Prop := fnStepsUptoRow.holds Try.pinned (OpenSpec.upto fnStepsSpec)

/-- 'laws.FnExactCountCode', WHERE WHAT IT READS IS OF BULK AT MOST 1048576: true; the input reads as it did. -/
def fnExactCountCodeUptoRow : OpenClaim := { program := "ytkiapbiifhkaaaa", sum := "15fe89ab04a88f2904e883bdd16cefb6a823916ead23c3d040178228b7a1dc55", func := "loop.example/g01105/laws.FnExactCountCode", spec := "fnExactCountCode", unfollowed := true, recurses := true, apart := false, narrowed := true }
def FnExactCountCodeUptoSaid : Prop := fnExactCountCodeUptoRow.holds Try.pinned (OpenSpec.upto fnExactCountCodeSpec)

/-- 'laws.FnExactRunCode', WHERE WHAT IT READS IS OF BULK AT MOST 1048576: true; the input reads as it did. -/
def fnExactRunCodeUptoRow : OpenClaim := { program := "ytkiapbiifhkaaaa", sum := "15fe89ab04a88f2904e883bdd16cefb6a823916ead23c3d040178228b7a1dc55", func := "loop.example/g01105/laws.FnExactRunCode", spec := "fnExactRunCode", unfollowed := true, recurses := true, apart := false, narrowed := true }
def FnExactRunCodeUptoSaid : Prop := fnExactRunCodeUptoRow.holds Try.pinned (OpenSpec.upto fnExactRunCodeSpec)

/-- 'laws.FnExactStepCode', WHERE WHAT IT READS IS OF BULK AT MOST 1048576: true; the input reads as it did. -/
def fnExactStepCodeUptoRow : OpenClaim := { program := "ytkiapbiifhkaaaa", sum := "15fe89ab04a88f2904e883bdd16cefb6a823916ead23c3d040178228b7a1dc55", func := "loop.example/g01105/laws.FnExactStepCode", spec := "fnExactStepCode", unfollowed := true, recurses := true, apart := false, narrowed := true }
def FnExactStepCodeUptoSaid : Prop := fnExactStepCodeUptoRow.holds Try.pinned (OpenSpec.upto fnExactStepCodeSpec)

/-- 'laws.FnExactThreadJumps', WHERE WHAT IT READS IS OF BULK AT MOST 1048576: true; the input reads as it did. -/
def fnExactThreadJumpsUptoRow : OpenClaim := { program := "ytkiapbiifhkaaaa", sum := "15fe89ab04a88f2904e883bdd16cefb6a823916ead23c3d040178228b7a1dc55", func := "loop.example/g01105/laws.FnExactThreadJumps", spec := "fnExactThreadJumps", unfollowed := true, recurses := true, apart := false, narrowed := true }
def FnExactThreadJumpsUptoSaid : Prop := fnExactThreadJumpsUptoRow.holds Try.pinned (OpenSpec.upto fnExactThreadJumpsSpec)

/-- 'laws.FnExactDropIdleJumps', WHERE WHAT IT READS IS OF BULK AT MOST 1048576: true; the input reads as it did. -/
def fnExactDropIdleJumpsUptoRow : OpenClaim := { program := "ytkiapbiifhkaaaa", sum := "15fe89ab04a88f2904e883bdd16cefb6a823916ead23c3d040178228b7a1dc55", func := "loop.example/g01105/laws.FnExactDropIdleJumps", spec := "fnExactDropIdleJumps", unfollowed := true, recurses := true, apart := false, narrowed := true }
def FnExactDropIdleJumpsUptoSaid : Prop := fnExactDropIdleJumpsUptoRow.holds Try.pinned (OpenSpec.upto fnExactDropIdleJumpsSpec)

/-- 'laws.FnExactAddPoint', WHERE WHAT IT READS IS OF BULK AT MOST 1048576: true; the input reads as it did. -/
def fnExactAddPointUptoRow : OpenClaim := { program := "ytkiapbiifhkaaaa", sum := "15fe89ab04a88f2904e883bdd16cefb6a823916ead23c3d040178228b7a1dc55", func := "loop.example/g01105/laws.FnExactAddPoint", spec := "fnExactAddPoint", inPlace := ["slices.overlaps[loop.example/g01105/impl.Point]"], unfollowed := true, recurses := true, apart := false, narrowed := true }
def FnExactAddPointUptoSaid : Prop := fnExactAddPointUptoRow.holds Try.pinned (OpenSpec.upto fnExactAddPointSpec)

/-- 'laws.FnExactDropPoint', WHERE WHAT IT READS IS OF BULK AT MOST 1048576: true; the input reads as it did. -/
def fnExactDropPointUptoRow : OpenClaim := { program := "ytkiapbiifhkaaaa", sum := "15fe89ab04a88f2904e883bdd16cefb6a823916ead23c3d040178228b7a1dc55", func := "loop.example/g01105/laws.FnExactDropPoint", spec := "fnExactDropPoint", unfollowed := true, recurses := true, apart := false, narrowed := true }
def FnExactDropPointUptoSaid : Prop := fnExactDropPointUptoRow.holds Try.pinned (OpenSpec.upto fnExactDropPointSpec)

/-- 'laws.FnExactValidPackage', WHERE WHAT IT READS IS OF BULK AT MOST 1048576: true; the input reads as it did. -/
def fnExactValidPackageUptoRow : OpenClaim := { program := "ytkiapbiifhkaaaa", sum := "15fe89ab04a88f2904e883bdd16cefb6a823916ead23c3d040178228b7a1dc55", func := "loop.example/g01105/laws.FnExactValidPackage", spec := "fnExactValidPackage", unfollowed := true, recurses := true, apart := false, narrowed := true }
def FnExactValidPackageUptoSaid : Prop := fnExactValidPackageUptoRow.holds Try.pinned (OpenSpec.upto fnExactValidPackageSpec)

end Rows
end Go.Proofs.Ytkiapbiifhkaaaa
