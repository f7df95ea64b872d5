import Derived.Test.YtkiapbiifhkaaaaRows
import Derived.Test.YtkiapbiifhkaaaaGh
import Derived.Test.YtkiapbiifhkaaaaGd
import Derived.Test.YtkiapbiifhkaaaaGb
import Derived.WalkKit
import Derived.ProofKit
import Derived.OpenShut
import Derived.ShutString
import Derived.ChangeOld
import Derived.Below
/- FOR EVERY INPUT that reads as data, the law 'FnExactAddPoint' returns true and each argument reads behind the call as it read before.
Conditions: none beyond the row's own. -/
namespace Go.Proofs.Ytkiapbiifhkaaaa
open Go Go.AM Go.Proofs Go.Mod
open Go.ChangeShapes Go.WideShapes Go.ChangeAt Go.RowKit
set_option linter.unusedVariables false
set_option maxRecDepth 100000

theorem inT : okTs Try.prog [2, 26, 179, 61, 121, 43, 77, 62, 64] = true := by kernel_rfl
theorem co2 : Try.prog.cellsOf 2 = 1 := by kernel_rfl
theorem co179 : Try.prog.cellsOf 179 = 2 := by kernel_rfl
theorem co121 : Try.prog.cellsOf 121 = 2 := by kernel_rfl
theorem co77 : Try.prog.cellsOf 77 = 2 := by kernel_rfl
theorem sh2 (x : AV) (h : ShV Try.prog 2 x) : ∃ v : Int, x = a_i64 v ∧ k_i64 v := by
  obtain ⟨v, rfl, hv⟩ := h.i64 Try.underlying2
  exact ⟨v, rfl, hv⟩
theorem sh26 (x : AV) (h : ShV Try.prog 26 x) : ∃ v : List Int, x = aLa_i64 v ∧ kLa_i64 v := by
  obtain ⟨v, rfl, hn, hv⟩ := h.sliceOf Try.underlying26 co2 sh2
  exact ⟨v, rfl, hn, hv⟩
theorem sh179 (x : AV) (h : ShV Try.prog 179 x) : ∃ v : Mod.Term, x = Qa v ∧ k_Term v := by
  obtain ⟨xs, rfl, y0, b0, rfl, g0, y1, b1, rfl, g1, rfl⟩ := h.struct Try.underlying179
  obtain ⟨v0, rfl, k0⟩ := sh2 _ g0
  obtain ⟨v1, rfl, k1⟩ := sh26 _ g1
  exact ⟨⟨v0, v1⟩, rfl, k0, k1⟩
theorem sh61 (x : AV) (h : ShV Try.prog 61 x) : ∃ v : List Mod.Term, x = aLa_Term v ∧ kLa_Term v := by
  obtain ⟨v, rfl, hn, hv⟩ := h.sliceOf Try.underlying61 co179 sh179
  exact ⟨v, rfl, hn, hv⟩
theorem sh121 (x : AV) (h : ShV Try.prog 121 x) : ∃ v : Mod.Instr, x = Qd v ∧ k_Instr v := by
  obtain ⟨xs, rfl, y0, b0, rfl, g0, y1, b1, rfl, g1, rfl⟩ := h.struct Try.underlying121
  obtain ⟨v0, rfl, k0⟩ := sh2 _ g0
  obtain ⟨v1, rfl, k1⟩ := sh2 _ g1
  exact ⟨⟨v0, v1⟩, rfl, k0, k1⟩
theorem sh43 (x : AV) (h : ShV Try.prog 43 x) : ∃ v : List Mod.Instr, x = aLa_Instr v ∧ kLa_Instr v := by
  obtain ⟨v, rfl, hn, hv⟩ := h.sliceOf Try.underlying43 co121 sh121
  exact ⟨v, rfl, hn, hv⟩
theorem sh77 (x : AV) (h : ShV Try.prog 77 x) : ∃ v : Mod.Point, x = Qc v ∧ k_Point v := by
  obtain ⟨xs, rfl, y0, b0, rfl, g0, y1, b1, rfl, g1, rfl⟩ := h.struct Try.underlying77
  obtain ⟨v0, rfl, k0⟩ := sh2 _ g0
  obtain ⟨v1, rfl, k1⟩ := sh61 _ g1
  exact ⟨⟨v0, v1⟩, rfl, k0, k1⟩
theorem sh62 (x : AV) (h : ShV Try.prog 62 x) : ∃ v : List Mod.Point, x = aLa_Point v ∧ kLa_Point v := by
  obtain ⟨v, rfl, hn, hv⟩ := h.sliceOf Try.underlying62 co77 sh77
  exact ⟨v, rfl, hn, hv⟩
theorem sh64 (x : AV) (h : ShV Try.prog 64 x) : ∃ v : Mod.Annotated, x = a_Annotated v ∧ k_Annotated v := by
  obtain ⟨xs, rfl, y0, b0, rfl, g0, y1, b1, rfl, g1, y2, b2, rfl, g2, y3, b3, rfl, g3, rfl⟩ := h.struct Try.underlying64
  obtain ⟨v0, rfl, k0⟩ := sh61 _ g0
  obtain ⟨v1, rfl, k1⟩ := sh61 _ g1
  obtain ⟨v2, rfl, k2⟩ := sh43 _ g2
  obtain ⟨v3, rfl, k3⟩ := sh62 _ g3
  exact ⟨⟨v0, v1, v2, v3⟩, rfl, k0, k1, k2, k3⟩
theorem own : ownKnob Try.prog.godebug = none := by kernel_rfl
theorem laidOut : laidOutB Try.prog = true := by kernel_rfl
theorem lifted9 (os : Os) (started : os.Started) (H : Type) (enc : TypeId × Value → H) :
    ReturnsInHanded {} Try.checked os 9 .any (Rows.fnExactAddPointSpec.pre6 enc Try.prog Try.f9 Rows.fnExactAddPointRow.domain false) (Rows.fnExactAddPointSpec.post enc Try.prog Try.f9 false true false false) := by
  refine returnsInHanded_of_change (C := Try.checked) own started (by kernel_rfl) Try.func9
    (ChangeSpec.witness6 (enc := enc) (C := Try.checked) false ⟨#[], #[.agg #[.slice none 0 0, .slice none 0 0, .slice none 0 0, .slice none 0 0], .agg #[.int .i64 0, .slice none 0 0]], []⟩ 12 (by kernel_rfl) (by kernel_rfl) (by kernel_rfl) (by kernel_rfl)) ?_
  intro W base args ds gs before hval0 hW hcnd _
  have hval : ∀ (j : Nat) t v, Try.f9.params[j]? = some t → args[j]? = some v → Value.okWide Try.prog W .any base t v := hval0
  have hW' := hW
  obtain ⟨p, q, hA0, hV, rfl, hfz, hnd⟩ := hW
  have hA : DataW.TrodAll enc Try.prog W 0 (fun _ => true) true Try.f9.params.toList args.toList ds p := hA0
  rw [Try.params9] at hA hval
  obtain ⟨v0, vs0, d0, ds0, p0, q0, hargs, rfl, rfl, h0, r0⟩ := trodAll_cons hA
  obtain ⟨v1, vs1, d1, ds1, p1, q1, rfl, rfl, rfl, h1, r1⟩ := trodAll_cons r0
  obtain ⟨rfl, rfl, rfl⟩ := trodAll_nil r1
  obtain rfl : args = #[v0, v1] := by cases args; simp_all
  obtain ⟨rfl, rfl⟩ := trodVars_none hV
  obtain ⟨x0, hx0, hs0⟩ := trod_val inT (t := 64) rfl (hval 0 64 v0 rfl rfl) h0
  obtain ⟨a0, rfl, k0⟩ := sh64 _ hs0
  obtain ⟨x1, hx1, hs1⟩ := trod_val inT (t := 77) rfl (hval 1 77 v1 rfl rfl) h1
  obtain ⟨a1, rfl, k1⟩ := sh77 _ hs1
  have lt0 : ∀ x ∈ p0, x.block < W.heap.size := by obtain ⟨m, hm⟩ := h0; exact DataW.trod_lt m _ _ _ hm
  have lt1 : ∀ x ∈ p1, x.block < W.heap.size := by obtain ⟨m, hm⟩ := h1; exact DataW.trod_lt m _ _ _ hm
  clear hA0 hval0
  refine (law_calls (c_laws_FnExactAddPoint a0 a1 true (law_AddPoint k0 k1)) (vs := #[v0, v1]) rfl (fun i x v hx hv => ?_)).mono fun e W' ⟨he, bel⟩ => ?_
  · rcases i with _ | i
    · cases hx; cases hv; exact hx0
    · rcases i with _ | i
      · cases hx; cases hv; exact hx1
      · simp at hx
  subst he
  exact ⟨_, rfl, _, _, _, [], _, [], hW', trodAll_mk1 (shut_bool Try.underlying4 _), (trodAll_cons_mk (Below.trod laidOut (by kernel_rfl) (of_decide_eq_true (by kernel_rfl)) h0 bel lt0) (trodAll_cons_mk (Below.trod laidOut (by kernel_rfl) (of_decide_eq_true (by kernel_rfl)) h1 bel lt1) trodAll_mk0)), rfl, bel.frame _, fun h => by cases h⟩

theorem over9 : Rows.fnExactAddPointRow.holds Try.pinned (OpenSpec.ofChange Rows.fnExactAddPointSpec) :=
  OpenClaim.holds_of_wide 9 Try.f9 rfl rfl rfl rfl rfl rfl rfl ⟨rfl, rfl, rfl, rfl, rfl⟩ rfl rfl rfl rfl rfl (by kernel_rfl) Try.func9 (by kernel_rfl)
    (of_decide_eq_true (by kernel_rfl)) (by unfold Func.isWrapper; first | (rw [if_pos (by decide +kernel)]; kernel_rfl) | (rw [if_neg (by decide +kernel)]; exact ⟨rfl, rfl⟩))
    (fun os started H enc _ => lifted9 os started H enc)
theorem proved : Rows.FnExactAddPointSaid := over9
#print axioms proved
end Go.Proofs.Ytkiapbiifhkaaaa
