import Derived.Test.YtpphpgkimfejpaaRows
import Derived.Test.YtpphpgkimfejpaaGh
import Derived.Test.YtpphpgkimfejpaaGe
import Derived.Test.YtpphpgkimfejpaaGb
import Derived.WalkKit
import Derived.ProofKit
import Derived.OpenShut
import Derived.ShutString
import Derived.ChangeOld
import Derived.Below
/- FOR EVERY INPUT that reads as data, the law 'FnCounters' returns true and each argument reads behind the call as it read before.
Conditions: none beyond the row's own. -/
namespace Go.Proofs.Ytpphpgkimfejpaa
open Go Go.AM Go.Proofs Go.Mod
open Go.ChangeShapes Go.WideShapes Go.ChangeAt Go.RowKit
set_option linter.unusedVariables false
set_option maxRecDepth 100000

theorem inT : okTs Try.prog [5, 22] = true := by kernel_rfl
theorem co5 : Try.prog.cellsOf 5 = 1 := by kernel_rfl
theorem sh5 (x : AV) (h : ShV Try.prog 5 x) : ∃ v : Int, x = a_u8 v ∧ k_u8 v := by
  obtain ⟨v, rfl, hv⟩ := h.int Try.underlying5
  simp only [Lit.wf, Bool.and_eq_true, decide_eq_true_eq] at hv
  exact ⟨v, rfl, hv⟩
theorem sh22 (x : AV) (h : ShV Try.prog 22 x) : ∃ v : List Int, x = aLa_u8 v ∧ kLa_u8 v := by
  obtain ⟨v, rfl, hn, hv⟩ := h.sliceOf Try.underlying22 co5 sh5
  exact ⟨v, rfl, hn, hv⟩
theorem own : ownKnob Try.prog.godebug = none := by kernel_rfl
theorem laidOut : laidOutB Try.prog = true := by kernel_rfl
theorem lifted8 (os : Os) (started : os.Started) (H : Type) (enc : TypeId × Value → H) :
    ReturnsInHanded {} Try.checked os 8 .any (Rows.fnCountersSpec.pre6 enc Try.prog Try.f8 Rows.fnCountersRow.domain false) (Rows.fnCountersSpec.post enc Try.prog Try.f8 false true false false) := by
  refine returnsInHanded_of_change (C := Try.checked) own started (by kernel_rfl) Try.func8
    (ChangeSpec.witness6 (enc := enc) (C := Try.checked) false ⟨#[], #[.slice none 0 0, .slice none 0 0], []⟩ 12 (by kernel_rfl) (by kernel_rfl) (by kernel_rfl) (by kernel_rfl)) ?_
  intro W base args ds gs before hval0 hW hcnd _
  have hval : ∀ (j : Nat) t v, Try.f8.params[j]? = some t → args[j]? = some v → Value.okWide Try.prog W .any base t v := hval0
  have hW' := hW
  obtain ⟨p, q, hA0, hV, rfl, hfz, hnd⟩ := hW
  have hA : DataW.TrodAll enc Try.prog W 0 (fun _ => true) true Try.f8.params.toList args.toList ds p := hA0
  rw [Try.params8] at hA hval
  obtain ⟨v0, vs0, d0, ds0, p0, q0, hargs, rfl, rfl, h0, r0⟩ := trodAll_cons hA
  obtain ⟨v1, vs1, d1, ds1, p1, q1, rfl, rfl, rfl, h1, r1⟩ := trodAll_cons r0
  obtain ⟨rfl, rfl, rfl⟩ := trodAll_nil r1
  obtain rfl : args = #[v0, v1] := by cases args; simp_all
  obtain ⟨rfl, rfl⟩ := trodVars_none hV
  obtain ⟨x0, hx0, hs0⟩ := trod_val inT (t := 22) rfl (hval 0 22 v0 rfl rfl) h0
  obtain ⟨a0, rfl, k0⟩ := sh22 _ hs0
  obtain ⟨x1, hx1, hs1⟩ := trod_val inT (t := 22) rfl (hval 1 22 v1 rfl rfl) h1
  obtain ⟨a1, rfl, k1⟩ := sh22 _ hs1
  have lt0 : ∀ x ∈ p0, x.block < W.heap.size := by obtain ⟨m, hm⟩ := h0; exact DataW.trod_lt m _ _ _ hm
  have lt1 : ∀ x ∈ p1, x.block < W.heap.size := by obtain ⟨m, hm⟩ := h1; exact DataW.trod_lt m _ _ _ hm
  clear hA0 hval0
  refine (law_calls (c_laws_FnCounters a0 a1 true (law_Counters k0 k1)) (vs := #[v0, v1]) rfl (fun i x v hx hv => ?_)).mono fun e W' ⟨he, bel⟩ => ?_
  · rcases i with _ | i
    · cases hx; cases hv; exact hx0
    · rcases i with _ | i
      · cases hx; cases hv; exact hx1
      · simp at hx
  subst he
  exact ⟨_, rfl, _, _, _, [], _, [], hW', trodAll_mk1 (shut_bool Try.underlying4 _), (trodAll_cons_mk (Below.trod laidOut (by kernel_rfl) (of_decide_eq_true (by kernel_rfl)) h0 bel lt0) (trodAll_cons_mk (Below.trod laidOut (by kernel_rfl) (of_decide_eq_true (by kernel_rfl)) h1 bel lt1) trodAll_mk0)), rfl, bel.frame _, fun h => by cases h⟩

theorem over8 : Rows.fnCountersRow.holds Try.pinned (OpenSpec.ofChange Rows.fnCountersSpec) :=
  OpenClaim.holds_of_wide 8 Try.f8 rfl rfl rfl rfl rfl rfl rfl ⟨rfl, rfl, rfl, rfl, rfl⟩ rfl rfl rfl rfl rfl (by kernel_rfl) Try.func8 (by kernel_rfl)
    (of_decide_eq_true (by kernel_rfl)) (by unfold Func.isWrapper; first | (rw [if_pos (by decide +kernel)]; kernel_rfl) | (rw [if_neg (by decide +kernel)]; exact ⟨rfl, rfl⟩))
    (fun os started H enc _ => lifted8 os started H enc)
theorem proved : Rows.FnCountersSaid := over8
#print axioms proved
end Go.Proofs.Ytpphpgkimfejpaa
