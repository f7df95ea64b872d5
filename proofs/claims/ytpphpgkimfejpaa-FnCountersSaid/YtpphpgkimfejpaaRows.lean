/-
  No cell of these rows narrows 'for every input' (looked for: loops, veiled, ifaces, maps, wideKeys, modest, calm, conditions, laid).
  DERIVED. THE GIVEN ROWS OF THIS SEAT. 6 by the template 'for every input the law returns true; each argument reads behind the call as it read before'; 0 by the template 'total and deterministic' (their statements: YtpphpgkimfejpaaTotals.lean).
  GIVEN WITH THE SEED: the statements are not yours to turn. If you find one false, say at which input.
  Laid BY PROGRAM, IN A SANDBOX (cutbox-rows.mjs): the forced cells as the released guide's own fill.sh prints them over the translation d33251cb2e173aa5… (all of the seat's roots in one cut). By AI agents, Wed Nov 11 2026. No macro, syntax, notation, axiom, sorry.
-/
import Derived.Test.YtpphpgkimfejpaaChecked
import GoSem.Claim
import GoSem.ClaimJoined
import GoSem.ClaimMapViews
import Derived.JoinedTies
import Derived.KernelRfl
namespace Go.Proofs.Ytpphpgkimfejpaa
/- THE CELL 'sum', in the pinned program and in every row, IS THE sha256 OF THE DUMP (.gsa) THAT YtpphpgkimfejpaaProg.lean LOADS. Nothing in Lean hashes anything: it is a label: what it is worth is what the hold of that sum in a sandbox is worth. -/
noncomputable def Try.pinned : Pinned := { name := "ytpphpgkimfejpaa", sum := "d33251cb2e173aa5fc778445dcf836bf8bfe5c1edaa9a74f46dbac2c9e271c11", checked := Try.checked }
namespace Rows
def none {H : Type} : Left H := { results := [], args := [] }

/-- 'laws.FnRefuting': WHATEVER THE INPUT: true; the input reads as it did. -/
def fnRefutingSpec : ChangeSpec := { name := "fnRefuting", fn := fun _ => fun
  | [d1, d2] => { results := [.lit (.bool true)], args := [d1, d2] }
  | _ => none }
def fnRefutingRow : OpenClaim := { program := "ytpphpgkimfejpaa", sum := "d33251cb2e173aa5fc778445dcf836bf8bfe5c1edaa9a74f46dbac2c9e271c11", func := "loop.example/g01105/laws.FnRefuting", spec := "fnRefuting", apart := false }
def FnRefutingSaid : Prop := fnRefutingRow.holds Try.pinned (OpenSpec.ofChange fnRefutingSpec)

/-- ITS FALSE NEIGHBOUR: 'it returns false'. Refute it at one input. -/
def fnRefutingWrong : ChangeSpec := { name := "fnRefuting", fn := fun _ => fun
  | [d1, d2] => { results := [.lit (.bool false)], args := [d1, d2] }
  | _ => none }
def FnRefutingWrongFalsely : Prop := fnRefutingRow.holds Try.pinned (OpenSpec.ofChange fnRefutingWrong)

/-- 'laws.FnExactEliminateSymbol': WHATEVER THE INPUT: true; the input reads as it did. -/
def fnExactEliminateSymbolSpec : ChangeSpec := { name := "fnExactEliminateSymbol", fn := fun _ => fun
  | [d1, d2] => { results := [.lit (.bool true)], args := [d1, d2] }
  | _ => none }
def fnExactEliminateSymbolRow : OpenClaim := { program := "ytpphpgkimfejpaa", sum := "d33251cb2e173aa5fc778445dcf836bf8bfe5c1edaa9a74f46dbac2c9e271c11", func := "loop.example/g01105/laws.FnExactEliminateSymbol", spec := "fnExactEliminateSymbol", apart := false }
def FnExactEliminateSymbolSaid : Prop := fnExactEliminateSymbolRow.holds Try.pinned (OpenSpec.ofChange fnExactEliminateSymbolSpec)

/-- ITS FALSE NEIGHBOUR: 'it returns false'. Refute it at one input. -/
def fnExactEliminateSymbolWrong : ChangeSpec := { name := "fnExactEliminateSymbol", fn := fun _ => fun
  | [d1, d2] => { results := [.lit (.bool false)], args := [d1, d2] }
  | _ => none }
def FnExactEliminateSymbolWrongFalsely : Prop := fnExactEliminateSymbolRow.holds Try.pinned (OpenSpec.ofChange fnExactEliminateSymbolWrong)

/-- 'laws.FnEliminated': WHATEVER THE INPUT: true; the input reads as it did. -/
def fnEliminatedSpec : ChangeSpec := { name := "fnEliminated", fn := fun _ => fun
  | [d1, d2] => { results := [.lit (.bool true)], args := [d1, d2] }
  | _ => none }
def fnEliminatedRow : OpenClaim := { program := "ytpphpgkimfejpaa", sum := "d33251cb2e173aa5fc778445dcf836bf8bfe5c1edaa9a74f46dbac2c9e271c11", func := "loop.example/g01105/laws.FnEliminated", spec := "fnEliminated", unfollowed := true, recurses := true, apart := false }
def FnEliminatedSaid : Prop := fnEliminatedRow.holds Try.pinned (OpenSpec.ofChange fnEliminatedSpec)

/-- ITS FALSE NEIGHBOUR: 'it returns false'. Refute it at one input. -/
def fnEliminatedWrong : ChangeSpec := { name := "fnEliminated", fn := fun _ => fun
  | [d1, d2] => { results := [.lit (.bool false)], args := [d1, d2] }
  | _ => none }
def FnEliminatedWrongFalsely : Prop := fnEliminatedRow.holds Try.pinned (OpenSpec.ofChange fnEliminatedWrong)

/-- 'laws.FnExactFirstCut': WHATEVER THE INPUT: true; the input reads as it did. -/
def fnExactFirstCutSpec : ChangeSpec := { name := "fnExactFirstCut", fn := fun _ => fun
  | [d] => { results := [.lit (.bool true)], args := [d] }
  | _ => none }
def fnExactFirstCutRow : OpenClaim := { program := "ytpphpgkimfejpaa", sum := "d33251cb2e173aa5fc778445dcf836bf8bfe5c1edaa9a74f46dbac2c9e271c11", func := "loop.example/g01105/laws.FnExactFirstCut", spec := "fnExactFirstCut", unfollowed := true, recurses := true, apart := false }
def FnExactFirstCutSaid : Prop := fnExactFirstCutRow.holds Try.pinned (OpenSpec.ofChange fnExactFirstCutSpec)

/-- ITS FALSE NEIGHBOUR: 'it returns false'. Refute it at one input. -/
def fnExactFirstCutWrong : ChangeSpec := { name := "fnExactFirstCut", fn := fun _ => fun
  | [d] => { results := [.lit (.bool false)], args := [d] }
  | _ => none }
def FnExactFirstCutWrongFalsely : Prop := fnExactFirstCutRow.holds Try.pinned (OpenSpec.ofChange fnExactFirstCutWrong)

/-- 'laws.FnCuts': WHATEVER THE INPUT: true; the input reads as it did. -/
def fnCutsSpec : ChangeSpec := { name := "fnCuts", fn := fun _ => fun
  | [d1, d2] => { results := [.lit (.bool true)], args := [d1, d2] }
  | _ => none }
def fnCutsRow : OpenClaim := { program := "ytpphpgkimfejpaa", sum := "d33251cb2e173aa5fc778445dcf836bf8bfe5c1edaa9a74f46dbac2c9e271c11", func := "loop.example/g01105/laws.FnCuts", spec := "fnCuts", unfollowed := true, recurses := true, apart := false }
def FnCutsSaid : Prop := fnCutsRow.holds Try.pinned (OpenSpec.ofChange fnCutsSpec)

/-- ITS FALSE NEIGHBOUR: 'it returns false'. Refute it at one input. -/
def fnCutsWrong : ChangeSpec := { name := "fnCuts", fn := fun _ => fun
  | [d1, d2] => { results := [.lit (.bool false)], args := [d1, d2] }
  | _ => none }
def FnCutsWrongFalsely : Prop := fnCutsRow.holds Try.pinned (OpenSpec.ofChange fnCutsWrong)

/-- 'laws.FnCounters': WHATEVER THE INPUT: true; the input reads as it did. -/
def fnCountersSpec : ChangeSpec := { name := "fnCounters", fn := fun _ => fun
  | [d1, d2] => { results := [.lit (.bool true)], args := [d1, d2] }
  | _ => none }
def fnCountersRow : OpenClaim := { program := "ytpphpgkimfejpaa", sum := "d33251cb2e173aa5fc778445dcf836bf8bfe5c1edaa9a74f46dbac2c9e271c11", func := "loop.example/g01105/laws.FnCounters", spec := "fnCounters", unfollowed := true, recurses := true, apart := false }
def FnCountersSaid : Prop := fnCountersRow.holds Try.pinned (OpenSpec.ofChange fnCountersSpec)

/-- ITS FALSE NEIGHBOUR: 'it returns false'. Refute it at one input. -/
def fnCountersWrong : ChangeSpec := { name := "fnCounters", fn := fun _ => fun
  | [d1, d2] => { results := [.lit (.bool false)], args := [d1, d2] }
  | _ => none }
def FnCountersWrongFalsely : Prop := fnCountersRow.holds Try.pinned (OpenSpec.ofChange fnCountersWrong)

/- THE SECOND FORM. 'bulk': how many values and letters a reading holds, each counted each time it is reached (what is shared counts as often as it is met; a slice's spare places count too). A statement '..UptoSaid' is the law's where the arguments, and the package variables that the reading takes, are together of bulk at most 1048576: NARROWER than '..Said'. Prove '..Said' where nothing that the law and all that it calls make is longer than what came in: it says more and counts as full. Else prove '..UptoSaid'. A law counts once. -/
mutual
def uptoBulk {H : Type} : DataW H → Nat
  | .lit (.string bytes) => bytes.length + 1
  | .lit _ => 1
  | .nil => 1
  | .ptr d => uptoBulk d + 1
  | .slice elems spare => uptoBulkAll elems + uptoBulkAll spare + 1
  | .agg parts => uptoBulkAll parts + 1
  | .iface _ d => uptoBulk d + 1
  | .map entries => uptoBulkEntries entries + 1
  | .held _ => 1
def uptoBulkAll {H : Type} : List (DataW H) → Nat
  | [] => 0
  | d :: r => uptoBulk d + uptoBulkAll r
def uptoBulkEntries {H : Type} : List (Lit × DataW H) → Nat
  | [] => 0
  | x :: r => uptoBulkEntry x + uptoBulkEntries r
def uptoBulkEntry {H : Type} : Lit × DataW H → Nat
  | (.string bytes, d) => bytes.length + uptoBulk d + 1
  | (_, d) => uptoBulk d + 1
 end
def uptoSmall : (H : Type) → List (DataW H) → Bool := fun _ ds => decide (uptoBulkAll ds ≤ 1048576)
def OpenSpec.upto (s : _root_.Go.ChangeSpec) : _root_.Go.OpenSpec := { _root_.Go.OpenSpec.ofChange s with cond := some uptoSmall }

/-- 'laws.FnRefuting', WHERE WHAT IT READS IS OF BULK AT MOST 1048576: true; the input reads as it did. -/
def fnRefutingUptoRow : OpenClaim := { program := "ytpphpgkimfejpaa", sum := "d33251cb2e173aa5fc778445dcf836bf8bfe5c1edaa9a74f46dbac2c9e271c11", func := "loop.example/g01105/laws.FnRefuting", spec := "fnRefuting", apart := false, narrowed := true }
def FnRefutingUptoSaid : Prop := fnRefutingUptoRow.holds Try.pinned (OpenSpec.upto fnRefutingSpec)

/-- 'laws.FnExactEliminateSymbol', WHERE WHAT IT READS IS OF BULK AT MOST 1048576: true; the input reads as it did. -/
def fnExactEliminateSymbolUptoRow : OpenClaim := { program := "ytpphpgkimfejpaa", sum := "d33251cb2e173aa5fc778445dcf836bf8bfe5c1edaa9a74f46dbac2c9e271c11", func := "loop.example/g01105/laws.FnExactEliminateSymbol", spec := "fnExactEliminateSymbol", apart := false, narrowed := true }
def FnExactEliminateSymbolUptoSaid : Prop := fnExactEliminateSymbolUptoRow.holds Try.pinned (OpenSpec.upto fnExactEliminateSymbolSpec)

/-- 'laws.FnEliminated', WHERE WHAT IT READS IS OF BULK AT MOST 1048576: true; the input reads as it did. -/
def fnEliminatedUptoRow : OpenClaim := { program := "ytpphpgkimfejpaa", sum := "d33251cb2e173aa5fc778445dcf836bf8bfe5c1edaa9a74f46dbac2c9e271c11", func := "loop.example/g01105/laws.FnEliminated", spec := "fnEliminated", unfollowed := true, recurses := true, apart := false, narrowed := true }
def FnEliminatedUptoSaid : Prop := fnEliminatedUptoRow.holds Try.pinned (OpenSpec.upto fnEliminatedSpec)

/-- 'laws.FnExactFirstCut', WHERE WHAT IT READS IS OF BULK AT MOST 1048576: true; the input reads as it did. -/
def fnExactFirstCutUptoRow : OpenClaim := { program := "ytpphpgkimfejpaa", sum := "d33251cb2e173aa5fc778445dcf836bf8bfe5c1edaa9a74f46dbac2c9e271c11", func := "loop.example/g01105/laws.FnExactFirstCut", spec := "fnExactFirstCut", unfollowed := true, recurses := true, apart := false, narrowed := true }
def FnExactFirstCutUptoSaid : Prop := fnExactFirstCutUptoRow.holds Try.pinned (OpenSpec.upto fnExactFirstCutSpec)

/-- 'laws.FnCuts', WHERE WHAT IT READS IS OF BULK AT MOST 1048576: true; the input reads as it did. -/
def fnCutsUptoRow : OpenClaim := { program := "ytpphpgkimfejpaa", sum := "d33251cb2e173aa5fc778445dcf836bf8bfe5c1edaa9a74f46dbac2c9e271c11", func := "loop.example/g01105/laws.FnCuts", spec := "fnCuts", unfollowed := true, recurses := true, apart := false, narrowed := true }
def FnCutsUptoSaid : Prop := fnCutsUptoRow.holds Try.pinned (OpenSpec.upto fnCutsSpec)

/-- 'laws.FnCounters', WHERE WHAT IT READS IS OF BULK AT MOST 1048576: true; the input reads as it did. -/
def fnCountersUptoRow : OpenClaim := { program := "ytpphpgkimfejpaa", sum := "d33251cb2e173aa5fc778445dcf836bf8bfe5c1edaa9a74f46dbac2c9e271c11", func := "loop.example/g01105/laws.FnCounters", spec := "fnCounters", unfollowed := true, recurses := true, apart := false, narrowed := true }
def FnCountersUptoSaid : Prop := fnCountersUptoRow.holds Try.pinned (OpenSpec.upto fnCountersSpec)

end Rows
end Go.Proofs.Ytpphpgkimfejpaa
