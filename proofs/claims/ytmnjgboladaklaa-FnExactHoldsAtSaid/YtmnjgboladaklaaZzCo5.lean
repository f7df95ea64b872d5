import Derived.Test.YtmnjgboladaklaaRows
import Derived.Test.YtmnjgboladaklaaGg
import Derived.Test.YtmnjgboladaklaaGd
import Derived.Test.YtmnjgboladaklaaGb
import Derived.WalkKit
import Derived.ProofKit
import Derived.OpenShut
import Derived.ShutString
import Derived.ChangeOld
import Derived.Below
/- FOR EVERY INPUT that reads as data, the law 'FnExactHoldsAt' returns true and each argument reads behind the call as it read before.
Conditions: none beyond the row's own. -/
namespace Go.Proofs.Ytmnjgboladaklaa
open Go Go.AM Go.Proofs Go.Mod
open Go.ChangeShapes Go.WideShapes Go.ChangeAt Go.RowKit
set_option linter.unusedVariables false
set_option maxRecDepth 100000

theorem inT : okTs Try.prog [2, 27, 125, 22, 128, 23, 25, 46] = true := by kernel_rfl
theorem co2 : Try.prog.cellsOf 2 = 1 := by kernel_rfl
theorem co125 : Try.prog.cellsOf 125 = 2 := by kernel_rfl
theorem co128 : Try.prog.cellsOf 128 = 8 := by kernel_rfl
theorem sh2 (x : AV) (h : ShV Try.prog 2 x) : ∃ v : Int, x = a_i64 v ∧ k_i64 v := by
  obtain ⟨v, rfl, hv⟩ := h.i64 Try.underlying2
  exact ⟨v, rfl, hv⟩
theorem sh27 (x : AV) (h : ShV Try.prog 27 x) : ∃ v : List Int, x = aLa_i64 v ∧ kLa_i64 v := by
  obtain ⟨v, rfl, hn, hv⟩ := h.sliceOf Try.underlying27 co2 sh2
  exact ⟨v, rfl, hn, hv⟩
theorem sh125 (x : AV) (h : ShV Try.prog 125 x) : ∃ v : Mod.Term, x = a_Term v ∧ k_Term v := by
  obtain ⟨xs, rfl, y0, b0, rfl, g0, y1, b1, rfl, g1, rfl⟩ := h.struct Try.underlying125
  obtain ⟨v0, rfl, k0⟩ := sh2 _ g0
  obtain ⟨v1, rfl, k1⟩ := sh27 _ g1
  exact ⟨⟨v0, v1⟩, rfl, k0, k1⟩
theorem sh22 (x : AV) (h : ShV Try.prog 22 x) : ∃ v : List Mod.Term, x = aLa_Term v ∧ kLa_Term v := by
  obtain ⟨v, rfl, hn, hv⟩ := h.sliceOf Try.underlying22 co125 sh125
  exact ⟨v, rfl, hn, hv⟩
theorem sh128 (x : AV) (h : ShV Try.prog 128 x) : ∃ v : Mod.Stmt, x = a_Stmt v ∧ k_Stmt v := by
  obtain ⟨xs, rfl, y0, b0, rfl, g0, y1, b1, rfl, g1, y2, b2, rfl, g2, y3, b3, rfl, g3, y4, b4, rfl, g4, y5, b5, rfl, g5, rfl⟩ := h.struct Try.underlying128
  obtain ⟨v0, rfl, k0⟩ := sh2 _ g0
  obtain ⟨v1, rfl, k1⟩ := sh2 _ g1
  obtain ⟨v2, rfl, k2⟩ := sh2 _ g2
  obtain ⟨v3, rfl, k3⟩ := sh125 _ g3
  obtain ⟨v4, rfl, k4⟩ := sh125 _ g4
  obtain ⟨v5, rfl, k5⟩ := sh22 _ g5
  exact ⟨⟨v0, v1, v2, v3, v4, v5⟩, rfl, k0, k1, k2, k3, k4, k5⟩
theorem sh23 (x : AV) (h : ShV Try.prog 23 x) : ∃ v : List Mod.Stmt, x = aLa_Stmt v ∧ kLa_Stmt v := by
  obtain ⟨v, rfl, hn, hv⟩ := h.sliceOf Try.underlying23 co128 sh128
  exact ⟨v, rfl, hn, hv⟩
theorem sh25 (x : AV) (h : ShV Try.prog 25 x) : ∃ v : Mod.Program, x = a_Program v ∧ k_Program v := by
  obtain ⟨xs, rfl, y0, b0, rfl, g0, y1, b1, rfl, g1, y2, b2, rfl, g2, rfl⟩ := h.struct Try.underlying25
  obtain ⟨v0, rfl, k0⟩ := sh22 _ g0
  obtain ⟨v1, rfl, k1⟩ := sh23 _ g1
  obtain ⟨v2, rfl, k2⟩ := sh22 _ g2
  exact ⟨⟨v0, v1, v2⟩, rfl, k0, k1, k2⟩
theorem sh46 (x : AV) (h : ShV Try.prog 46 x) : ∃ v : Mod.State, x = a_State v ∧ k_State v := by
  obtain ⟨xs, rfl, y0, b0, rfl, g0, y1, b1, rfl, g1, rfl⟩ := h.struct Try.underlying46
  obtain ⟨v0, rfl, k0⟩ := sh27 _ g0
  obtain ⟨v1, rfl, k1⟩ := sh27 _ g1
  exact ⟨⟨v0, v1⟩, rfl, k0, k1⟩
theorem own : ownKnob Try.prog.godebug = none := by kernel_rfl
theorem laidOut : laidOutB Try.prog = true := by kernel_rfl
theorem lifted5 (os : Os) (started : os.Started) (H : Type) (enc : TypeId × Value → H) :
    ReturnsInHanded {} Try.checked os 5 .any (Rows.fnExactHoldsAtSpec.pre6 enc Try.prog Try.f5 Rows.fnExactHoldsAtRow.domain false) (Rows.fnExactHoldsAtSpec.post enc Try.prog Try.f5 false true false false) := by
  refine returnsInHanded_of_change (C := Try.checked) own started (by kernel_rfl) Try.func5
    (ChangeSpec.witness6 (enc := enc) (C := Try.checked) false ⟨#[], #[.agg #[.slice none 0 0, .slice none 0 0, .slice none 0 0], .int .i64 0, .agg #[.slice none 0 0, .slice none 0 0]], []⟩ 12 (by kernel_rfl) (by kernel_rfl) (by kernel_rfl) (by kernel_rfl)) ?_
  intro W base args ds gs before hval0 hW hcnd _
  have hval : ∀ (j : Nat) t v, Try.f5.params[j]? = some t → args[j]? = some v → Value.okWide Try.prog W .any base t v := hval0
  have hW' := hW
  obtain ⟨p, q, hA0, hV, rfl, hfz, hnd⟩ := hW
  have hA : DataW.TrodAll enc Try.prog W 0 (fun _ => true) true Try.f5.params.toList args.toList ds p := hA0
  rw [Try.params5] at hA hval
  obtain ⟨v0, vs0, d0, ds0, p0, q0, hargs, rfl, rfl, h0, r0⟩ := trodAll_cons hA
  obtain ⟨v1, vs1, d1, ds1, p1, q1, rfl, rfl, rfl, h1, r1⟩ := trodAll_cons r0
  obtain ⟨v2, vs2, d2, ds2, p2, q2, rfl, rfl, rfl, h2, r2⟩ := trodAll_cons r1
  obtain ⟨rfl, rfl, rfl⟩ := trodAll_nil r2
  obtain rfl : args = #[v0, v1, v2] := by cases args; simp_all
  obtain ⟨rfl, rfl⟩ := trodVars_none hV
  obtain ⟨x0, hx0, hs0⟩ := trod_val inT (t := 25) rfl (hval 0 25 v0 rfl rfl) h0
  obtain ⟨a0, rfl, k0⟩ := sh25 _ hs0
  obtain ⟨x1, hx1, hs1⟩ := trod_val inT (t := 2) rfl (hval 1 2 v1 rfl rfl) h1
  obtain ⟨a1, rfl, k1⟩ := sh2 _ hs1
  obtain ⟨x2, hx2, hs2⟩ := trod_val inT (t := 46) rfl (hval 2 46 v2 rfl rfl) h2
  obtain ⟨a2, rfl, k2⟩ := sh46 _ hs2
  have lt0 : ∀ x ∈ p0, x.block < W.heap.size := by obtain ⟨m, hm⟩ := h0; exact DataW.trod_lt m _ _ _ hm
  have lt1 : ∀ x ∈ p1, x.block < W.heap.size := by obtain ⟨m, hm⟩ := h1; exact DataW.trod_lt m _ _ _ hm
  have lt2 : ∀ x ∈ p2, x.block < W.heap.size := by obtain ⟨m, hm⟩ := h2; exact DataW.trod_lt m _ _ _ hm
  clear hA0 hval0
  refine (law_calls (c_laws_FnExactHoldsAt a0 a1 a2 true (law_HoldsAt k0 k1 k2)) (vs := #[v0, v1, v2]) rfl (fun i x v hx hv => ?_)).mono fun e W' ⟨he, bel⟩ => ?_
  · rcases i with _ | i
    · cases hx; cases hv; exact hx0
    · rcases i with _ | i
      · cases hx; cases hv; exact hx1
      · rcases i with _ | i
        · cases hx; cases hv; exact hx2
        · simp at hx
  subst he
  exact ⟨_, rfl, _, _, _, [], _, [], hW', trodAll_mk1 (shut_bool Try.underlying4 _), (trodAll_cons_mk (Below.trod laidOut (by kernel_rfl) (of_decide_eq_true (by kernel_rfl)) h0 bel lt0) (trodAll_cons_mk (Below.trod laidOut (by kernel_rfl) (of_decide_eq_true (by kernel_rfl)) h1 bel lt1) (trodAll_cons_mk (Below.trod laidOut (by kernel_rfl) (of_decide_eq_true (by kernel_rfl)) h2 bel lt2) trodAll_mk0))), rfl, bel.frame _, fun h => by cases h⟩

theorem over5 : Rows.fnExactHoldsAtRow.holds Try.pinned (OpenSpec.ofChange Rows.fnExactHoldsAtSpec) :=
  OpenClaim.holds_of_wide 5 Try.f5 rfl rfl rfl rfl rfl rfl rfl ⟨rfl, rfl, rfl, rfl, rfl⟩ rfl rfl rfl rfl rfl (by kernel_rfl) Try.func5 (by kernel_rfl)
    (of_decide_eq_true (by kernel_rfl)) (by unfold Func.isWrapper; first | (rw [if_pos (by decide +kernel)]; kernel_rfl) | (rw [if_neg (by decide +kernel)]; exact ⟨rfl, rfl⟩))
    (fun os started H enc _ => lifted5 os started H enc)
theorem proved : Rows.FnExactHoldsAtSaid := over5
#print axioms proved
end Go.Proofs.Ytmnjgboladaklaa
