import Derived.Test.YtejcidjaedahhaaDoorRows
import Derived.Test.YtejcidjaedahhaaDoorGi
import Derived.Test.YtejcidjaedahhaaDoorGf
import Derived.Test.YtejcidjaedahhaaDoorGb
import Derived.Test.YtejcidjaedahhaaDoorGd
import Derived.Test.YtejcidjaedahhaaDoorTie
import Derived.Test.YtejcidjaedahhaaDoorCards
import Derived.WalkKit
import Derived.ProofKit
import Derived.OpenShut
import Derived.ShutString
import Derived.ChangeOld
import Derived.Below
import Derived.LaidMore
import Derived.Lay
import Derived.Stop.Joined
import Derived.SevenTiedAt
import Derived.LaidHandle
import Derived.MakeChecks
/- FOR EVERY INPUT that reads as data, the law 'FnDifference' returns true and each argument reads behind the call as it read before.
Conditions: the package variables that the row lists hold what the program's text lays; the tie to that text is given with the seat. -/
namespace Go.Proofs.YtejcidjaedahhaaDoor
open Go Go.AM Go.Proofs Go.Mod
open Go.ChangeShapes Go.WideShapes Go.ChangeAt Go.RowKit
set_option linter.unusedVariables false
set_option maxRecDepth 100000

theorem inT : okTs Tryd.prog [5, 22] = true := by kernel_rfl
theorem co5 : Tryd.prog.cellsOf 5 = 1 := by kernel_rfl
theorem sh5 (x : AV) (h : ShV Tryd.prog 5 x) : ∃ v : Int, x = a_u8 v ∧ k_u8 v := by
  obtain ⟨v, rfl, hv⟩ := h.int Tryd.underlying5
  simp only [Lit.wf, Bool.and_eq_true, decide_eq_true_eq] at hv
  exact ⟨v, rfl, hv⟩
theorem sh22 (x : AV) (h : ShV Tryd.prog 22 x) : ∃ v : List Int, x = aLa_u8 v ∧ kLa_u8 v := by
  obtain ⟨v, rfl, hn, hv⟩ := h.sliceOf Tryd.underlying22 co5 sh5
  exact ⟨v, rfl, hn, hv⟩
theorem own : ownKnob Tryd.prog.godebug = none := by kernel_rfl
theorem laidOut : laidOutB Tryd.prog = true := by kernel_rfl
theorem door_met (os : Os) (args : Array Value) : laidMetH Tryd.prog Rows.fnDifferenceRow.laid ((World.laidAll Tryd.prog os Rows.fnDifferenceRow.laid).forCall (fun _ _ => 0) ⟨#[], args, []⟩).memory := by
  rw [MakeChecks.laidMetH_plain _ _ _ (by kernel_rfl)]; exact laidMet_laidAll _ (by kernel_rfl) (by kernel_rfl)
theorem lifted3 (os : Os) (started : os.Started) (H : Type) (enc : TypeId × Value → H) :
    ReturnsInHanded {} Tryd.checked os 3 .any (fun w args => (Rows.fnDifferenceSpec.pre enc Tryd.prog Tryd.f3 [] false w args ∧ laidMetH Tryd.prog Rows.fnDifferenceRow.laid w) ∧ sizedMet enc Tryd.prog Tryd.f3 (OpenSpec.ofChange Rows.fnDifferenceSpec) false w args) (Rows.fnDifferenceSpec.post enc Tryd.prog Tryd.f3 false true false false) := by
  refine returnsInHanded_of_change_and (C := Tryd.checked) (X := fun w _ => laidMetH Tryd.prog Rows.fnDifferenceRow.laid w) (fun _ _ _ hh h => h.of_heap hh) own started (by kernel_rfl) Tryd.func3
    (ChangeSpec.witness_shaped (enc := enc) (C := Tryd.checked) (os := os) (X := fun w _ => laidMetH Tryd.prog Rows.fnDifferenceRow.laid w) false (World.laidAll Tryd.prog os Rows.fnDifferenceRow.laid) #[.slice none 0 0, .slice none 0 0] 12 (World.laidAll_os _ _ _) (World.shaped_of_ZipB (by kernel_rfl) (by kernel_rfl)) (by kernel_rfl) (by kernel_rfl) (by kernel_rfl) (door_met os _)) ?_
  intro W base args ds gs before hval0 hW hcnd _ hL _
  have hval : ∀ (j : Nat) t v, Tryd.f3.params[j]? = some t → args[j]? = some v → Value.okWide Tryd.prog W .any base t v := hval0
  have hW' := hW
  obtain ⟨p, q, hA0, hV, rfl, hfz, hnd⟩ := hW
  have hA : DataW.TrodAll enc Tryd.prog W 0 (fun _ => true) true Tryd.f3.params.toList args.toList ds p := hA0
  rw [Tryd.params3] at hA hval
  obtain ⟨v0, vs0, d0, ds0, p0, q0, hargs, rfl, rfl, h0, r0⟩ := trodAll_cons hA
  obtain ⟨v1, vs1, d1, ds1, p1, q1, rfl, rfl, rfl, h1, r1⟩ := trodAll_cons r0
  obtain ⟨rfl, rfl, rfl⟩ := trodAll_nil r1
  obtain rfl : args = #[v0, v1] := by cases args; simp_all
  obtain ⟨rfl, rfl⟩ := trodVars_none hV
  obtain ⟨x0, hx0, hs0⟩ := trod_val inT (t := 22) rfl (hval 0 22 v0 rfl rfl) h0
  obtain ⟨a0, rfl, k0⟩ := sh22 _ hs0
  obtain ⟨x1, hx1, hs1⟩ := trod_val inT (t := 22) rfl (hval 1 22 v1 rfl rfl) h1
  obtain ⟨a1, rfl, k1⟩ := sh22 _ hs1
  have lt0 : ∀ x ∈ p0, x.block < W.heap.size := by obtain ⟨m, hm⟩ := h0; exact DataW.trod_lt m _ _ _ hm
  have lt1 : ∀ x ∈ p1, x.block < W.heap.size := by obtain ⟨m, hm⟩ := h1; exact DataW.trod_lt m _ _ _ hm
  have hG := gl_of_FnDifference hL
  clear hA0 hval0
  refine (law_callsG (c_laws_FnDifference a0 a1 true (law_Difference k0 k1)) hG.1 hG.2 (vs := #[v0, v1]) rfl (fun i x v hx hv => ?_)).mono fun e W' ⟨he, bel⟩ => ?_
  · rcases i with _ | i
    · cases hx; cases hv; exact hx0
    · rcases i with _ | i
      · cases hx; cases hv; exact hx1
      · simp at hx
  subst he
  exact ⟨_, rfl, _, _, _, [], _, [], hW', trodAll_mk1 (shut_bool Tryd.underlying4 _), (trodAll_cons_mk (Below.trod laidOut (by kernel_rfl) (of_decide_eq_true (by kernel_rfl)) h0 bel lt0) (trodAll_cons_mk (Below.trod laidOut (by kernel_rfl) (of_decide_eq_true (by kernel_rfl)) h1 bel lt1) trodAll_mk0)), rfl, bel.frame _, fun h => by cases h⟩

theorem over3 : Rows.fnDifferenceRow.holds Tryd.pinned (OpenSpec.ofChange Rows.fnDifferenceSpec) :=
  OpenClaim.holds_of_wide 3 Tryd.f3 rfl rfl rfl rfl rfl rfl rfl ⟨rfl, rfl, rfl, rfl, rfl⟩ rfl rfl rfl rfl rfl (by kernel_rfl) Tryd.func3 (by kernel_rfl)
    (of_decide_eq_true (by kernel_rfl)) (by unfold Func.isWrapper; first | (rw [if_pos (by decide +kernel)]; kernel_rfl) | (rw [if_neg (by decide +kernel)]; exact ⟨rfl, rfl⟩))
    (fun os started H enc _ => lifted3 os started H enc)
theorem proved : Rows.FnDifferenceCardSaid :=
  Claim7.holds_tied_plain_at .later [] [.data, .data, .data] true (true, "e57bf0d44c33981b81c8e0f5b8a7df7dce353fd5f9d3150d55ddfceff6521d3f") true
    over3 (fun _ h => by cases h) (by kernel_rfl) (fun _ h => by cases h) fnDifference_row_tie rfl ⟨rfl, rfl⟩ (by kernel_rfl) rfl
    (fun f fn hf hfn => by
      obtain rfl : f = 3 := Option.some.inj ((show Tryd.prog.funcNamed Tryd.f3.name = some 3 by kernel_rfl).symm.trans hf) |>.symm
      obtain rfl : fn = Tryd.f3 := (Option.some.inj (Tryd.func3.symm.trans hfn)).symm
      exact ⟨by kernel_rfl, fun j t ht => by
        rw [Tryd.params3] at ht
        have hm : t ∈ [22, 22] := by simpa using Array.mem_of_getElem? ht
        have hall : ([22, 22].all fun u => !Tryd.prog.wantsStandIn u) = true := by kernel_rfl
        exact (show Tryd.prog.wantsStandIn t = false by simpa using List.all_eq_true.1 hall t hm)⟩)
    (by kernel_rfl)
#print axioms proved
end Go.Proofs.YtejcidjaedahhaaDoor
