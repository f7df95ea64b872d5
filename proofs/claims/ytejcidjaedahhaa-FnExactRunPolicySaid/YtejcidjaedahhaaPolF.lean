/- Walks over the policy seat, printed by wip/pol/mk.py. -/
import Derived.Test.YtejcidjaedahhaaPolE
namespace Go.Proofs.Pol
open Go Go.AM Go.Proofs
set_option linter.unusedVariables false
set_option linter.unusedSimpArgs false
set_option maxRecDepth 100000
theorem ag24 : tyAgg Try.prog 24 = some true := by kernel_rfl
theorem sz24 : tySize Try.prog 24 = some 1 := by kernel_rfl


theorem c3 (rows : List (List Int)) : ACall Try.prog 3 [.agg [aiss rows]] [] (.bool true) [] := by
  refine ACall.intro Try.func3 rfl Try.ntmps3 rfl (fun F hF => ?_)
  refine T_seq ?_
  refine T_region ?_
  refine TL_box 11 rfl rfl rfl rfl rfl rfl rfl ?_
  refine TL_pure rfl rfl rfl rfl (op_assign rfl) ?_
  refine TL_nil ?_
  refine T_seq ?_
  refine T_region ?_
  refine TL_pure rfl rfl rfl rfl (op_assign rfl) ?_
  refine TL_nil ?_
  refine T_seq ?_
  refine T_region ?_
  first | refine TL_pure rfl rfl rfl rfl (op_load_agg ag24 sz24 rfl rfl rfl) ?_ | refine TL_pure rfl rfl rfl rfl (op_load_arrN ag24 sz24 rfl rfl (by assumption) rfl rfl rfl) ?_
  refine TL_pure rfl rfl rfl rfl (op_move rfl) ?_
  refine TL_callF (c9 _ _ (by omega) (by omega)) Try.call9 rfl rfl rfl rfl rfl ?_
  refine TL_pure rfl rfl rfl rfl (op_assign rfl) ?_
  refine TL_nil ?_
  refine T_seq ?_
  refine T_seq ?_
  refine T_region ?_
  refine TL_pure rfl rfl rfl rfl (op_move rfl) ?_
  refine TL_pure rfl rfl rfl rfl (op_lss rfl rfl) ?_
  refine TL_nil ?_
  refine T_cond rfl (fun hq => ?_) (fun hq => ?_)
  · try simp only [decide_eq_true_eq, decide_eq_false_iff_not, Bool.not_eq_true', Bool.not_eq_false', Bool.not_true, Bool.not_false, Bool.and_eq_true, Bool.or_eq_true, Bool.and_eq_false_iff, Bool.or_eq_false_iff] at hq
    have hq11 := hq
    refine T_seq ?_
    refine T_region ?_
    refine TL_pure rfl rfl rfl rfl (op_assign rfl) ?_
    refine TL_nil ?_
    refine T_ret ?_
    refine ⟨[_], [], ⟨rfl, trivial⟩, ?_, rfl, rfl, rfl, rfl⟩
    rfl
  · try simp only [decide_eq_true_eq, decide_eq_false_iff_not, Bool.not_eq_true', Bool.not_eq_false', Bool.not_true, Bool.not_false, Bool.and_eq_true, Bool.or_eq_true, Bool.and_eq_false_iff, Bool.or_eq_false_iff] at hq
    have hq11 := hq
    refine T_skip ?_
    refine T_seq ?_
    refine T_region ?_
    obtain ⟨hr1, hr2⟩ := szSS0_le (xs := rows) (left := 1048576) (by omega)
    have hs : rows.length ≤ 1048576 := by omega
    have hrow : ∀ x ∈ rows, x.length ≤ 1048576 := fun x hx => by have := hr2 x hx; omega
    first | refine TL_pure rfl rfl rfl rfl (op_load_agg ag24 sz24 rfl rfl rfl) ?_ | refine TL_pure rfl rfl rfl rfl (op_load_arrN ag24 sz24 rfl rfl (by assumption) rfl rfl rfl) ?_
    refine TL_callT (c11 _ (by omega) (by assumption)) Try.call11 rfl rfl rfl rfl rfl ?_
    refine TL_callF (c10 _ (by omega)) Try.call10 rfl rfl rfl rfl rfl ?_
    refine TL_pure rfl rfl rfl rfl (op_assign rfl) ?_
    refine TL_nil ?_
    refine T_seq ?_
    refine T_region ?_
    first | refine TL_pure rfl rfl rfl rfl (op_load_agg ag24 sz24 rfl rfl rfl) ?_ | refine TL_pure rfl rfl rfl rfl (op_load_arrN ag24 sz24 rfl rfl (by assumption) rfl rfl rfl) ?_
    refine TL_callT (c11 _ (by omega) (by assumption)) Try.call11 rfl rfl rfl rfl rfl ?_
    refine TL_alloc 12 z27 rfl rfl rfl rfl rfl rfl rfl ?_
    first | refine TL_store_box sz27 rfl rfl rfl rfl rfl rfl rfl rfl rfl ?_ | refine TL_store_elt sz27 rfl rfl (by first | omega | (simp; done) | (simp; omega)) rfl rfl rfl ?_ | refine TL_store_part sz27 rfl rfl (by assumption) rfl rfl rfl rfl rfl rfl rfl rfl ?_
    refine TL_nil ?_
    refine T_seq ?_
    refine T_region ?_
    first | refine TL_pure rfl rfl rfl rfl (op_load_agg ag27 sz27 rfl rfl rfl) ?_ | refine TL_pure rfl rfl rfl rfl (op_load_arrN ag27 sz27 rfl rfl (by assumption) rfl rfl rfl) ?_
    refine TL_callF (c12 _ (by omega)) Try.call12 rfl rfl rfl rfl rfl ?_
    refine TL_pure rfl rfl rfl rfl (op_assign rfl) ?_
    refine TL_nil ?_
    refine T_seq ?_
    refine T_seq ?_
    refine T_region ?_
    refine TL_pure rfl rfl rfl rfl (op_move rfl) ?_
    refine TL_pure rfl rfl rfl rfl (op_move rfl) ?_
    refine TL_pure rfl rfl rfl rfl (op_neqB Try.underlying4 rfl rfl) ?_
    refine TL_nil ?_
    refine T_if_false rfl (by simp) ?_
    refine T_skip ?_
    refine T_seq ?_
    refine T_seq ?_
    refine T_drawZ [] mix (by kernel_rfl) rfl ?_
    first | refine TZ_pure 0 (by kernel_rfl) rfl rfl rfl rfl rfl (op_load_agg ag27 sz27 rfl rfl rfl) ?_ | refine TZ_pure 0 (by kernel_rfl) rfl rfl rfl rfl rfl (op_load_arrN ag27 sz27 rfl rfl (by assumption) rfl rfl rfl) ?_
    first | refine TZ_pure 1 (by kernel_rfl) rfl rfl rfl rfl rfl (op_load_agg ag24 sz24 rfl rfl rfl) ?_ | refine TZ_pure 1 (by kernel_rfl) rfl rfl rfl rfl rfl (op_load_arrN ag24 sz24 rfl rfl (by assumption) rfl rfl rfl) ?_
    refine TZ_one 2 (by kernel_rfl) rfl ?_
    refine TL_callT (c11 _ (by omega) (by assumption)) Try.call11 rfl rfl rfl rfl rfl ?_
    refine TL_nil ?_
    refine TZ_one 3 (by kernel_rfl) rfl ?_
    refine TL_callF (c13 _ _) Try.call13 rfl rfl rfl rfl rfl ?_
    refine TL_nil ?_
    refine TZ_pure 4 (by kernel_rfl) rfl rfl rfl rfl rfl (op_not rfl) ?_
    refine TZ_done (by kernel_rfl) ?_
    refine T_if_false rfl (by simp) ?_
    refine T_skip ?_
    refine T_seq ?_
    refine T_region ?_
    refine TL_pure rfl rfl rfl rfl (op_assign rfl) ?_
    refine TL_nil ?_
    refine T_ret ?_
    refine ⟨[_], [], ⟨rfl, trivial⟩, ?_, rfl, rfl, rfl, rfl⟩
    rfl

end Go.Proofs.Pol
