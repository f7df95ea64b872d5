/-
  DERIVED. GIVEN WITH THE SEED: THE CARDS: each row of YtejcidjaedahhaaDoorRows.lean that lists a variable, with what it lists TIED to the program's text (the seventh form; the later family's looks); each row that meets fmt, with fmt's text TOLD by the authors' own Lean function (tested against real Go, not proved from fmt's source: count such statements apart). THE CARD IS WHAT COUNTS. Prove the row's statement (the work); the ties are given (YtejcidjaedahhaaDoorTie.lean); close each card by the builder's one call (the guide's Derived/Test/ToyasCard.lean, 'card_holds'). Laid BY PROGRAM, IN A SANDBOX (cutbox-door.mjs). By AI agents, Wed Nov 11 2026. No macro, syntax, notation, axiom, sorry.
-/
import Derived.Test.YtejcidjaedahhaaDoorRows
import GoSem.ClaimSeven
namespace Go.Proofs.YtejcidjaedahhaaDoor
namespace Rows

/-- THE TIED CARD OF 'laws.FnDifference'. -/
def fnDifferenceCard : Claim7 := { stood := { row := fnDifferenceRow, standIns := [], harness := (true, "e57bf0d44c33981b81c8e0f5b8a7df7dce353fd5f9d3150d55ddfceff6521d3f"), looks := true }, kinds := [], alts := [], laidByText := true, laidKinds := [.data, .data, .data], laidTests := true, laidLooks := .later }
def FnDifferenceCardSaid : Prop := Claim7.holds Tryd.pinned (.plain (OpenSpec.ofChange fnDifferenceSpec)) fnDifferenceCard

/-- THE TIED CARD OF 'laws.FnExactMinimalPolicy'. -/
def fnExactMinimalPolicyCard : Claim7 := { stood := { row := fnExactMinimalPolicyRow, standIns := [], harness := (true, "e57bf0d44c33981b81c8e0f5b8a7df7dce353fd5f9d3150d55ddfceff6521d3f"), looks := true }, kinds := [], alts := [], laidByText := true, laidKinds := [.data, .data, .data], laidTests := true, laidLooks := .later }
def FnExactMinimalPolicyCardSaid : Prop := Claim7.holds Tryd.pinned (.plain (OpenSpec.ofChange fnExactMinimalPolicySpec)) fnExactMinimalPolicyCard

/-- THE TIED CARD OF 'laws.FnExactBothPolicies'. -/
def fnExactBothPoliciesCard : Claim7 := { stood := { row := fnExactBothPoliciesRow, standIns := [], harness := (true, "e57bf0d44c33981b81c8e0f5b8a7df7dce353fd5f9d3150d55ddfceff6521d3f"), looks := true }, kinds := [], alts := [], laidByText := true, laidKinds := [.data, .data, .data], laidTests := true, laidLooks := .later }
def FnExactBothPoliciesCardSaid : Prop := Claim7.holds Tryd.pinned (.plain (OpenSpec.ofChange fnExactBothPoliciesSpec)) fnExactBothPoliciesCard

/-- THE TIED CARD OF 'laws.FnExactPolicyText'. -/
def fnExactPolicyTextCard : Claim7 := { stood := { row := fnExactPolicyTextRow, standIns := [], harness := (true, "e57bf0d44c33981b81c8e0f5b8a7df7dce353fd5f9d3150d55ddfceff6521d3f"), looks := true }, kinds := [], alts := [], laidByText := true, laidKinds := [.data, .data, .data, .data, .pinned], laidTests := true, laidLooks := .later }
def FnExactPolicyTextCardSaid : Prop := Claim7.holds Tryd.pinned (.plain (OpenSpec.ofChange fnExactPolicyTextSpec)) fnExactPolicyTextCard

/-- THE TIED CARD OF 'laws.FnExactReadPolicy'. -/
def fnExactReadPolicyCard : Claim7 := { stood := { row := fnExactReadPolicyRow, standIns := [], harness := (true, "e57bf0d44c33981b81c8e0f5b8a7df7dce353fd5f9d3150d55ddfceff6521d3f"), looks := true }, kinds := [], alts := [], laidByText := true, laidKinds := [.data, .data, .data, .data, .sentinel, .sentinel, .pinned], laidTests := true, laidLooks := .later }
def FnExactReadPolicyCardSaid : Prop := Claim7.holds Tryd.pinned (.plain (OpenSpec.ofChange fnExactReadPolicySpec)) fnExactReadPolicyCard

/-- THE SECOND FORM's CARD OF 'laws.FnDifference'. -/
def fnDifferenceUptoCard : Claim7 := { stood := { row := fnDifferenceUptoRow, standIns := [], harness := (true, "e57bf0d44c33981b81c8e0f5b8a7df7dce353fd5f9d3150d55ddfceff6521d3f"), looks := true }, kinds := [], alts := [], laidByText := true, laidKinds := [.data, .data, .data], laidTests := true, laidLooks := .later }
def FnDifferenceUptoCardSaid : Prop := Claim7.holds Tryd.pinned (.plain (OpenSpec.upto fnDifferenceSpec)) fnDifferenceUptoCard

/-- THE SECOND FORM's CARD OF 'laws.FnExactMinimalPolicy'. -/
def fnExactMinimalPolicyUptoCard : Claim7 := { stood := { row := fnExactMinimalPolicyUptoRow, standIns := [], harness := (true, "e57bf0d44c33981b81c8e0f5b8a7df7dce353fd5f9d3150d55ddfceff6521d3f"), looks := true }, kinds := [], alts := [], laidByText := true, laidKinds := [.data, .data, .data], laidTests := true, laidLooks := .later }
def FnExactMinimalPolicyUptoCardSaid : Prop := Claim7.holds Tryd.pinned (.plain (OpenSpec.upto fnExactMinimalPolicySpec)) fnExactMinimalPolicyUptoCard

/-- THE SECOND FORM's CARD OF 'laws.FnExactBothPolicies'. -/
def fnExactBothPoliciesUptoCard : Claim7 := { stood := { row := fnExactBothPoliciesUptoRow, standIns := [], harness := (true, "e57bf0d44c33981b81c8e0f5b8a7df7dce353fd5f9d3150d55ddfceff6521d3f"), looks := true }, kinds := [], alts := [], laidByText := true, laidKinds := [.data, .data, .data], laidTests := true, laidLooks := .later }
def FnExactBothPoliciesUptoCardSaid : Prop := Claim7.holds Tryd.pinned (.plain (OpenSpec.upto fnExactBothPoliciesSpec)) fnExactBothPoliciesUptoCard

/-- THE SECOND FORM's CARD OF 'laws.FnExactPolicyText'. -/
def fnExactPolicyTextUptoCard : Claim7 := { stood := { row := fnExactPolicyTextUptoRow, standIns := [], harness := (true, "e57bf0d44c33981b81c8e0f5b8a7df7dce353fd5f9d3150d55ddfceff6521d3f"), looks := true }, kinds := [], alts := [], laidByText := true, laidKinds := [.data, .data, .data, .data, .pinned], laidTests := true, laidLooks := .later }
def FnExactPolicyTextUptoCardSaid : Prop := Claim7.holds Tryd.pinned (.plain (OpenSpec.upto fnExactPolicyTextSpec)) fnExactPolicyTextUptoCard

/-- THE SECOND FORM's CARD OF 'laws.FnExactReadPolicy'. -/
def fnExactReadPolicyUptoCard : Claim7 := { stood := { row := fnExactReadPolicyUptoRow, standIns := [], harness := (true, "e57bf0d44c33981b81c8e0f5b8a7df7dce353fd5f9d3150d55ddfceff6521d3f"), looks := true }, kinds := [], alts := [], laidByText := true, laidKinds := [.data, .data, .data, .data, .sentinel, .sentinel, .pinned], laidTests := true, laidLooks := .later }
def FnExactReadPolicyUptoCardSaid : Prop := Claim7.holds Tryd.pinned (.plain (OpenSpec.upto fnExactReadPolicySpec)) fnExactReadPolicyUptoCard
end Rows
end Go.Proofs.YtejcidjaedahhaaDoor
