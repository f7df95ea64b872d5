import Derived.Test.YtejcidjaedahhaaRows
import Derived.Test.YtejcidjaedahhaaGe
import Derived.Test.YtejcidjaedahhaaGd
import Derived.Test.YtejcidjaedahhaaGb
import Derived.WalkKit
import Derived.ProofKit
import Derived.OpenShut
import Derived.ShutString
import Derived.ChangeOld
import Derived.Below
/- FOR EVERY INPUT that reads as data, the law 'FnExactDifferenceOf' returns true and each argument reads behind the call as it read before.
Conditions: none beyond the row's own. -/
namespace Go.Proofs.Ytejcidjaedahhaa
open Go Go.AM Go.Proofs Go.Mod
open Go.ChangeShapes Go.WideShapes Go.ChangeAt Go.RowKit
set_option linter.unusedVariables false
set_option maxRecDepth 100000

theorem inT : okTs Try.prog [2, 34, 22, 24] = true := by kernel_rfl
theorem co2 : Try.prog.cellsOf 2 = 1 := by kernel_rfl
theorem co34 : Try.prog.cellsOf 34 = 1 := by kernel_rfl
theorem sh2 (x : AV) (h : ShV Try.prog 2 x) : ∃ v : Int, x = a_i64 v ∧ k_i64 v := by
  obtain ⟨v, rfl, hv⟩ := h.i64 Try.underlying2
  exact ⟨v, rfl, hv⟩
theorem sh34 (x : AV) (h : ShV Try.prog 34 x) : ∃ v : List Int, x = aLa_i64 v ∧ kLa_i64 v := by
  obtain ⟨v, rfl, hn, hv⟩ := h.sliceOf Try.underlying34 co2 sh2
  exact ⟨v, rfl, hn, hv⟩
theorem sh22 (x : AV) (h : ShV Try.prog 22 x) : ∃ v : List (List Int), x = aLaLa_i64 v ∧ kLaLa_i64 v := by
  obtain ⟨v, rfl, hn, hv⟩ := h.sliceOf Try.underlying22 co34 sh34
  exact ⟨v, rfl, hn, hv⟩
theorem sh24 (x : AV) (h : ShV Try.prog 24 x) : ∃ v : Mod.Policy, x = a_Policy v ∧ k_Policy v := by
  obtain ⟨xs, rfl, y0, b0, rfl, g0, rfl⟩ := h.struct Try.underlying24
  obtain ⟨v0, rfl, k0⟩ := sh22 _ g0
  exact ⟨⟨v0⟩, rfl, k0⟩
theorem own : ownKnob Try.prog.godebug = none := by kernel_rfl
theorem laidOut : laidOutB Try.prog = true := by kernel_rfl
theorem lifted7 (os : Os) (started : os.Started) (H : Type) (enc : TypeId × Value → H) :
    ReturnsInHanded {} Try.checked os 7 .any (Rows.fnExactDifferenceOfSpec.pre6 enc Try.prog Try.f7 Rows.fnExactDifferenceOfRow.domain false) (Rows.fnExactDifferenceOfSpec.post enc Try.prog Try.f7 false true false false) := by
  refine returnsInHanded_of_change (C := Try.checked) own started (by kernel_rfl) Try.func7
    (ChangeSpec.witness6 (enc := enc) (C := Try.checked) false ⟨#[], #[.agg #[.slice none 0 0], .agg #[.slice none 0 0]], []⟩ 12 (by kernel_rfl) (by kernel_rfl) (by kernel_rfl) (by kernel_rfl)) ?_
  intro W base args ds gs before hval0 hW hcnd _
  have hval : ∀ (j : Nat) t v, Try.f7.params[j]? = some t → args[j]? = some v → Value.okWide Try.prog W .any base t v := hval0
  have hW' := hW
  obtain ⟨p, q, hA0, hV, rfl, hfz, hnd⟩ := hW
  have hA : DataW.TrodAll enc Try.prog W 0 (fun _ => true) true Try.f7.params.toList args.toList ds p := hA0
  rw [Try.params7] at hA hval
  obtain ⟨v0, vs0, d0, ds0, p0, q0, hargs, rfl, rfl, h0, r0⟩ := trodAll_cons hA
  obtain ⟨v1, vs1, d1, ds1, p1, q1, rfl, rfl, rfl, h1, r1⟩ := trodAll_cons r0
  obtain ⟨rfl, rfl, rfl⟩ := trodAll_nil r1
  obtain rfl : args = #[v0, v1] := by cases args; simp_all
  obtain ⟨rfl, rfl⟩ := trodVars_none hV
  obtain ⟨x0, hx0, hs0⟩ := trod_val inT (t := 24) rfl (hval 0 24 v0 rfl rfl) h0
  obtain ⟨a0, rfl, k0⟩ := sh24 _ hs0
  obtain ⟨x1, hx1, hs1⟩ := trod_val inT (t := 24) rfl (hval 1 24 v1 rfl rfl) h1
  obtain ⟨a1, rfl, k1⟩ := sh24 _ hs1
  have lt0 : ∀ x ∈ p0, x.block < W.heap.size := by obtain ⟨m, hm⟩ := h0; exact DataW.trod_lt m _ _ _ hm
  have lt1 : ∀ x ∈ p1, x.block < W.heap.size := by obtain ⟨m, hm⟩ := h1; exact DataW.trod_lt m _ _ _ hm
  clear hA0 hval0
  refine (law_calls (c_laws_FnExactDifferenceOf a0 a1 true (law_DifferenceOf k0 k1)) (vs := #[v0, v1]) rfl (fun i x v hx hv => ?_)).mono fun e W' ⟨he, bel⟩ => ?_
  · rcases i with _ | i
    · cases hx; cases hv; exact hx0
    · rcases i with _ | i
      · cases hx; cases hv; exact hx1
      · simp at hx
  subst he
  exact ⟨_, rfl, _, _, _, [], _, [], hW', trodAll_mk1 (shut_bool Try.underlying4 _), (trodAll_cons_mk (Below.trod laidOut (by kernel_rfl) (of_decide_eq_true (by kernel_rfl)) h0 bel lt0) (trodAll_cons_mk (Below.trod laidOut (by kernel_rfl) (of_decide_eq_true (by kernel_rfl)) h1 bel lt1) trodAll_mk0)), rfl, bel.frame _, fun h => by cases h⟩

theorem over7 : Rows.fnExactDifferenceOfRow.holds Try.pinned (OpenSpec.ofChange Rows.fnExactDifferenceOfSpec) :=
  OpenClaim.holds_of_wide 7 Try.f7 rfl rfl rfl rfl rfl rfl rfl ⟨rfl, rfl, rfl, rfl, rfl⟩ rfl rfl rfl rfl rfl (by kernel_rfl) Try.func7 (by kernel_rfl)
    (of_decide_eq_true (by kernel_rfl)) (by unfold Func.isWrapper; first | (rw [if_pos (by decide +kernel)]; kernel_rfl) | (rw [if_neg (by decide +kernel)]; exact ⟨rfl, rfl⟩))
    (fun os started H enc _ => lifted7 os started H enc)
theorem proved : Rows.FnExactDifferenceOfSaid := over7
#print axioms proved
end Go.Proofs.Ytejcidjaedahhaa
