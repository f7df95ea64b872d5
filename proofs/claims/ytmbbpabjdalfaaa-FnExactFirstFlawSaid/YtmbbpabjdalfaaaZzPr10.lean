import Derived.Test.YtmbbpabjdalfaaaRows
import Derived.Test.YtmbbpabjdalfaaaGg
import Derived.Test.YtmbbpabjdalfaaaGe
import Derived.Test.YtmbbpabjdalfaaaGb
import Derived.WalkKit
import Derived.ProofKit
import Derived.OpenShut
import Derived.ShutString
import Derived.ChangeOld
import Derived.Below
/- FOR EVERY INPUT that reads as data, the law 'FnExactFirstFlaw' returns true and each argument reads behind the call as it read before.
Conditions: none beyond the row's own. -/
namespace Go.Proofs.Ytmbbpabjdalfaaa
open Go Go.AM Go.Proofs Go.Mod
open Go.ChangeShapes Go.WideShapes Go.ChangeAt Go.RowKit
set_option linter.unusedVariables false
set_option maxRecDepth 100000

theorem inT : okTs Try.prog [2, 32, 34, 31, 36, 77, 22] = true := by kernel_rfl
theorem co2 : Try.prog.cellsOf 2 = 1 := by kernel_rfl
theorem co34 : Try.prog.cellsOf 34 = 2 := by kernel_rfl
theorem co77 : Try.prog.cellsOf 77 = 5 := by kernel_rfl
theorem sh2 (x : AV) (h : ShV Try.prog 2 x) : ∃ v : Int, x = a_i64 v ∧ k_i64 v := by
  obtain ⟨v, rfl, hv⟩ := h.i64 Try.underlying2
  exact ⟨v, rfl, hv⟩
theorem sh32 (x : AV) (h : ShV Try.prog 32 x) : ∃ v : List Int, x = aLa_i64 v ∧ kLa_i64 v := by
  obtain ⟨v, rfl, hn, hv⟩ := h.sliceOf Try.underlying32 co2 sh2
  exact ⟨v, rfl, hn, hv⟩
theorem sh34 (x : AV) (h : ShV Try.prog 34 x) : ∃ v : Mod.Term, x = a_Term v ∧ k_Term v := by
  obtain ⟨xs, rfl, y0, b0, rfl, g0, y1, b1, rfl, g1, rfl⟩ := h.struct Try.underlying34
  obtain ⟨v0, rfl, k0⟩ := sh2 _ g0
  obtain ⟨v1, rfl, k1⟩ := sh32 _ g1
  exact ⟨⟨v0, v1⟩, rfl, k0, k1⟩
theorem sh31 (x : AV) (h : ShV Try.prog 31 x) : ∃ v : List Mod.Term, x = aLa_Term v ∧ kLa_Term v := by
  obtain ⟨v, rfl, hn, hv⟩ := h.sliceOf Try.underlying31 co34 sh34
  exact ⟨v, rfl, hn, hv⟩
theorem sh36 (x : AV) (h : ShV Try.prog 36 x) : ∃ v : Mod.Sequent, x = a_Sequent v ∧ k_Sequent v := by
  obtain ⟨xs, rfl, y0, b0, rfl, g0, y1, b1, rfl, g1, rfl⟩ := h.struct Try.underlying36
  obtain ⟨v0, rfl, k0⟩ := sh31 _ g0
  obtain ⟨v1, rfl, k1⟩ := sh34 _ g1
  exact ⟨⟨v0, v1⟩, rfl, k0, k1⟩
theorem sh77 (x : AV) (h : ShV Try.prog 77 x) : ∃ v : Mod.Node, x = a_Node v ∧ k_Node v := by
  obtain ⟨xs, rfl, y0, b0, rfl, g0, y1, b1, rfl, g1, y2, b2, rfl, g2, y3, b3, rfl, g3, rfl⟩ := h.struct Try.underlying77
  obtain ⟨v0, rfl, k0⟩ := sh2 _ g0
  obtain ⟨v1, rfl, k1⟩ := sh2 _ g1
  obtain ⟨v2, rfl, k2⟩ := sh34 _ g2
  obtain ⟨v3, rfl, k3⟩ := sh32 _ g3
  exact ⟨⟨v0, v1, v2, v3⟩, rfl, k0, k1, k2, k3⟩
theorem sh22 (x : AV) (h : ShV Try.prog 22 x) : ∃ v : List Mod.Node, x = aLa_Node v ∧ kLa_Node v := by
  obtain ⟨v, rfl, hn, hv⟩ := h.sliceOf Try.underlying22 co77 sh77
  exact ⟨v, rfl, hn, hv⟩
theorem own : ownKnob Try.prog.godebug = none := by kernel_rfl
theorem laidOut : laidOutB Try.prog = true := by kernel_rfl
theorem lifted10 (os : Os) (started : os.Started) (H : Type) (enc : TypeId × Value → H) :
    ReturnsInHanded {} Try.checked os 10 .any (Rows.fnExactFirstFlawSpec.pre6 enc Try.prog Try.f10 Rows.fnExactFirstFlawRow.domain false) (Rows.fnExactFirstFlawSpec.post enc Try.prog Try.f10 false true false false) := by
  refine returnsInHanded_of_change (C := Try.checked) own started (by kernel_rfl) Try.func10
    (ChangeSpec.witness6 (enc := enc) (C := Try.checked) false ⟨#[], #[.agg #[.slice none 0 0, .int .i64 0, .slice none 0 0], .slice none 0 0], []⟩ 12 (by kernel_rfl) (by kernel_rfl) (by kernel_rfl) (by kernel_rfl)) ?_
  intro W base args ds gs before hval0 hW hcnd _
  have hval : ∀ (j : Nat) t v, Try.f10.params[j]? = some t → args[j]? = some v → Value.okWide Try.prog W .any base t v := hval0
  have hW' := hW
  obtain ⟨p, q, hA0, hV, rfl, hfz, hnd⟩ := hW
  have hA : DataW.TrodAll enc Try.prog W 0 (fun _ => true) true Try.f10.params.toList args.toList ds p := hA0
  rw [Try.params10] at hA hval
  obtain ⟨v0, vs0, d0, ds0, p0, q0, hargs, rfl, rfl, h0, r0⟩ := trodAll_cons hA
  obtain ⟨v1, vs1, d1, ds1, p1, q1, rfl, rfl, rfl, h1, r1⟩ := trodAll_cons r0
  obtain ⟨rfl, rfl, rfl⟩ := trodAll_nil r1
  obtain rfl : args = #[v0, v1] := by cases args; simp_all
  obtain ⟨rfl, rfl⟩ := trodVars_none hV
  obtain ⟨x0, hx0, hs0⟩ := trod_val inT (t := 36) rfl (hval 0 36 v0 rfl rfl) h0
  obtain ⟨a0, rfl, k0⟩ := sh36 _ hs0
  obtain ⟨x1, hx1, hs1⟩ := trod_val inT (t := 22) rfl (hval 1 22 v1 rfl rfl) h1
  obtain ⟨a1, rfl, k1⟩ := sh22 _ hs1
  have lt0 : ∀ x ∈ p0, x.block < W.heap.size := by obtain ⟨m, hm⟩ := h0; exact DataW.trod_lt m _ _ _ hm
  have lt1 : ∀ x ∈ p1, x.block < W.heap.size := by obtain ⟨m, hm⟩ := h1; exact DataW.trod_lt m _ _ _ hm
  clear hA0 hval0
  refine (law_calls (c_laws_FnExactFirstFlaw a0 a1 true (law_FirstFlaw k0 k1)) (vs := #[v0, v1]) rfl (fun i x v hx hv => ?_)).mono fun e W' ⟨he, bel⟩ => ?_
  · rcases i with _ | i
    · cases hx; cases hv; exact hx0
    · rcases i with _ | i
      · cases hx; cases hv; exact hx1
      · simp at hx
  subst he
  exact ⟨_, rfl, _, _, _, [], _, [], hW', trodAll_mk1 (shut_bool Try.underlying4 _), (trodAll_cons_mk (Below.trod laidOut (by kernel_rfl) (of_decide_eq_true (by kernel_rfl)) h0 bel lt0) (trodAll_cons_mk (Below.trod laidOut (by kernel_rfl) (of_decide_eq_true (by kernel_rfl)) h1 bel lt1) trodAll_mk0)), rfl, bel.frame _, fun h => by cases h⟩

theorem over10 : Rows.fnExactFirstFlawRow.holds Try.pinned (OpenSpec.ofChange Rows.fnExactFirstFlawSpec) :=
  OpenClaim.holds_of_wide 10 Try.f10 rfl rfl rfl rfl rfl rfl rfl ⟨rfl, rfl, rfl, rfl, rfl⟩ rfl rfl rfl rfl rfl (by kernel_rfl) Try.func10 (by kernel_rfl)
    (of_decide_eq_true (by kernel_rfl)) (by unfold Func.isWrapper; first | (rw [if_pos (by decide +kernel)]; kernel_rfl) | (rw [if_neg (by decide +kernel)]; exact ⟨rfl, rfl⟩))
    (fun os started H enc _ => lifted10 os started H enc)
theorem proved : Rows.FnExactFirstFlawSaid := over10
#print axioms proved
end Go.Proofs.Ytmbbpabjdalfaaa
