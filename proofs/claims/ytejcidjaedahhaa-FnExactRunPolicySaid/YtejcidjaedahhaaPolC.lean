/- Walks over the policy seat, printed by wip/pol/mk.py. -/
import Derived.Test.YtejcidjaedahhaaPolB
namespace Go.Proofs.Pol
open Go Go.AM Go.Proofs
set_option linter.unusedVariables false
set_option linter.unusedSimpArgs false
set_option maxRecDepth 100000
theorem ag27 : tyAgg Try.prog 27 = some true := by kernel_rfl
theorem sz2 : tySize Try.prog 2 = some 1 := by kernel_rfl
theorem sz22 : tySize Try.prog 22 = some 1 := by kernel_rfl
theorem sz27 : tySize Try.prog 27 = some 1 := by kernel_rfl
theorem sz34 : tySize Try.prog 34 = some 1 := by kernel_rfl
theorem z2 : tyZero Try.prog 2 = some (.int .i64 0, 1, 8) := by kernel_rfl
theorem z27 : tyZero Try.prog 27 = some (.agg #[.slice none 0 0], 1, 24) := by kernel_rfl
theorem z34 : tyZero Try.prog 34 = some (.slice none 0 0, 1, 24) := by kernel_rfl
theorem fa27_0 : tyField Try.prog 27 0 = some 0 := by kernel_rfl


theorem c17 (xs : List Int) (hs : xs.length ≤ 1048576) : ACall Try.prog 17 [ais xs] [] (ais xs) [] := by
  refine ACall.intro Try.func17 rfl Try.ntmps17 rfl (fun F hF => ?_)
  refine T_slLen 0 rfl (fun hlen => ?_)
  have hL : (xs.map ai).length = xs.length := List.length_map _
  rw [hL] at hlen
  refine T_seq ?_
  refine T_region ?_
  refine TL_pure rfl rfl rfl rfl (op_assign rfl) ?_
  refine TL_nil ?_
  refine T_seq ?_
  refine T_region ?_
  refine TL_pure rfl rfl rfl rfl (op_move rfl) ?_
  first | refine TL_pure rfl rfl rfl rfl (op_len_sl Try.underlying34 rfl) ?_ | refine TL_pure rfl rfl rfl rfl (op_len_ow Try.underlying34 rfl rfl) ?_ | refine TL_pure rfl rfl rfl rfl (op_len_snil Try.underlying34 rfl) ?_
  refine TL_make 11 el34 z2 rfl rfl rfl rfl rfl rfl rfl rfl (by omega) rfl rfl rfl rfl ?_
  refine TL_pure rfl rfl rfl rfl (op_assign rfl) ?_
  refine TL_nil ?_
  refine T_seq ?_
  refine T_seq ?_
  refine T_region ?_
  refine TL_pure rfl rfl rfl rfl (op_assign rfl) ?_
  refine TL_nil ?_
  refine T_block ?_
  refine T_loop ?_
  refine TR_keep [0, 2, 3, 4] rfl ?_
  refine TR_cast (at0 xs (fun pre suf => ⟨[(0, ais xs), (2, .snil), (3, .ow 11), (4, .int .i64 pre.length)], [(11, .arr 1 2 (pre.map ai ++ List.replicate suf.length (ai 0)))]⟩)) (by simp only [at0]; simp [ai]) ?_
  refine TR_list xs (fun pre suf => ⟨[(0, ais xs), (2, .snil), (3, .ow 11), (4, .int .i64 pre.length)], [(11, .arr 1 2 (pre.map ai ++ List.replicate suf.length (ai 0)))]⟩) (fun pre => True) (trivial) ?_
  intro pre suf hx hI ih
  rcases suf with _ | ⟨x, r⟩
  · have hl : pre.length = xs.length := by simp [hx]
    have hd : pre = xs := by simpa using hx.symm
    refine T_seq ?_
    refine T_seq ?_
    refine T_region ?_
    refine TL_pure rfl rfl rfl rfl (op_move rfl) ?_
    refine TL_pure rfl rfl rfl rfl (op_move rfl) ?_
    first | refine TL_pure rfl rfl rfl rfl (op_len_sl Try.underlying34 rfl) ?_ | refine TL_pure rfl rfl rfl rfl (op_len_ow Try.underlying34 rfl rfl) ?_ | refine TL_pure rfl rfl rfl rfl (op_len_snil Try.underlying34 rfl) ?_
    refine TL_pure rfl rfl rfl rfl (op_lss rfl rfl) ?_
    refine TL_nil ?_
    refine T_if_false rfl (by first | (rw [decide_eq_true_eq]; omega) | (rw [decide_eq_false_iff_not]; omega) | (simp [hx]; done) | (simp [hx]; omega)) ?_
    refine T_exit ?_
    refine T_seq ?_
    refine T_region ?_
    refine TL_pure rfl rfl rfl rfl (op_move rfl) ?_
    refine TL_pure rfl rfl rfl rfl (op_assign rfl) ?_
    refine TL_nil ?_
    refine T_freeze 11 (by rw [hF]; rfl) rfl rfl rfl ?_
    refine T_ret ?_
    refine ⟨[ais xs], [], ⟨?_, trivial⟩, rfl, rfl, rfl, rfl, rfl⟩
    clear ih
    show some _ = some _
    simp [ais, hd]
  · have hl : pre.length + (r.length + 1) = xs.length := by simp [hx]
    have he : (xs.map ai)[pre.length]? = some (ai x) := by simp [hx]
    refine T_seq ?_
    refine T_seq ?_
    refine T_region ?_
    refine TL_pure rfl rfl rfl rfl (op_move rfl) ?_
    refine TL_pure rfl rfl rfl rfl (op_move rfl) ?_
    first | refine TL_pure rfl rfl rfl rfl (op_len_sl Try.underlying34 rfl) ?_ | refine TL_pure rfl rfl rfl rfl (op_len_ow Try.underlying34 rfl rfl) ?_ | refine TL_pure rfl rfl rfl rfl (op_len_snil Try.underlying34 rfl) ?_
    refine TL_pure rfl rfl rfl rfl (op_lss rfl rfl) ?_
    refine TL_nil ?_
    refine T_if_true rfl (by first | (rw [decide_eq_true_eq]; omega) | (rw [decide_eq_false_iff_not]; omega) | (simp [hx]; done) | (simp [hx]; omega)) ?_
    refine T_skip ?_
    refine T_seq ?_
    refine T_block ?_
    refine T_region ?_
    refine TL_pure rfl rfl rfl rfl (op_move rfl) ?_
    refine TL_pure rfl rfl rfl rfl (op_move rfl) ?_
    refine TL_pure rfl rfl rfl rfl (op_move rfl) ?_
    refine TL_pure rfl rfl rfl rfl (op_move rfl) ?_
    first | refine TL_pure rfl rfl rfl rfl (op_index_sl el34 rfl rfl rfl (by assumption) rfl) ?_ | refine TL_pure rfl rfl rfl rfl (op_index_ow el34 rfl rfl rfl rfl (by first | omega | (simp; done) | (simp; omega))) ?_
    first | refine TL_pure rfl rfl rfl rfl (op_load_one ag2 rfl rfl) ?_ | refine TL_pure rfl rfl rfl rfl (op_load_arr1 ag2 rfl rfl (by assumption) rfl rfl) ?_
    first | refine TL_pure rfl rfl rfl rfl (op_index_sl el34 rfl rfl rfl (by assumption) rfl) ?_ | refine TL_pure rfl rfl rfl rfl (op_index_ow el34 rfl rfl rfl rfl (by first | omega | (simp; done) | (simp; omega))) ?_
    first | refine TL_store_box sz2 rfl rfl rfl rfl rfl rfl rfl rfl rfl ?_ | refine TL_store_elt sz2 rfl rfl (by first | omega | (simp; done) | (simp; omega)) rfl rfl rfl ?_ | refine TL_store_part sz2 rfl rfl (by assumption) rfl rfl rfl rfl rfl rfl rfl rfl ?_
    refine TL_nil ?_
    refine T_region ?_
    refine TL_pure rfl rfl rfl rfl (op_move rfl) ?_
    refine TL_pure rfl rfl rfl rfl (op_add64 rfl rfl (by omega)) ?_
    refine TL_pure rfl rfl rfl rfl (op_assign rfl) ?_
    refine TL_nil ?_
    refine TR_keep [0, 2, 3, 4] rfl ?_
    exact ih x r rfl trivial _ (by simp [List.replicate_succ, List.set_append, ai])

theorem c31 (xs : List (List Int)) (hs : xs.length ≤ 1048576) (hrow : ∀ x ∈ xs, x.length ≤ 1048576) : ACall Try.prog 31 [aiss xs] [] (aiss xs) [] := by
  refine ACall.intro Try.func31 rfl Try.ntmps31 rfl (fun F hF => ?_)
  refine T_slLen 0 rfl (fun hlen => ?_)
  have hL : (xs.map ais).length = xs.length := List.length_map _
  rw [hL] at hlen
  refine T_seq ?_
  refine T_region ?_
  refine TL_pure rfl rfl rfl rfl (op_assign rfl) ?_
  refine TL_nil ?_
  refine T_seq ?_
  refine T_region ?_
  refine TL_pure rfl rfl rfl rfl (op_move rfl) ?_
  first | refine TL_pure rfl rfl rfl rfl (op_len_sl Try.underlying22 rfl) ?_ | refine TL_pure rfl rfl rfl rfl (op_len_ow Try.underlying22 rfl rfl) ?_ | refine TL_pure rfl rfl rfl rfl (op_len_snil Try.underlying22 rfl) ?_
  refine TL_make 11 el22 z34 rfl rfl rfl rfl rfl rfl rfl rfl (by omega) rfl rfl rfl rfl ?_
  refine TL_pure rfl rfl rfl rfl (op_assign rfl) ?_
  refine TL_nil ?_
  refine T_seq ?_
  refine T_seq ?_
  refine T_region ?_
  refine TL_pure rfl rfl rfl rfl (op_assign rfl) ?_
  refine TL_nil ?_
  refine T_block ?_
  refine T_loop ?_
  refine TR_keep [0, 2, 3, 4] rfl ?_
  refine TR_cast (at0 xs (fun pre suf => ⟨[(0, aiss xs), (2, .snil), (3, .ow 11), (4, .int .i64 pre.length)], [(11, .arr 1 34 (pre.map ais ++ List.replicate suf.length .snil))]⟩)) (by simp only [at0]; simp) ?_
  refine TR_list xs (fun pre suf => ⟨[(0, aiss xs), (2, .snil), (3, .ow 11), (4, .int .i64 pre.length)], [(11, .arr 1 34 (pre.map ais ++ List.replicate suf.length .snil))]⟩) (fun pre => True) (trivial) ?_
  intro pre suf hx hI ih
  rcases suf with _ | ⟨x, r⟩
  · have hl : pre.length = xs.length := by simp [hx]
    have hd : pre = xs := by simpa using hx.symm
    refine T_seq ?_
    refine T_seq ?_
    refine T_region ?_
    refine TL_pure rfl rfl rfl rfl (op_move rfl) ?_
    refine TL_pure rfl rfl rfl rfl (op_move rfl) ?_
    first | refine TL_pure rfl rfl rfl rfl (op_len_sl Try.underlying22 rfl) ?_ | refine TL_pure rfl rfl rfl rfl (op_len_ow Try.underlying22 rfl rfl) ?_ | refine TL_pure rfl rfl rfl rfl (op_len_snil Try.underlying22 rfl) ?_
    refine TL_pure rfl rfl rfl rfl (op_lss rfl rfl) ?_
    refine TL_nil ?_
    refine T_if_false rfl (by first | (rw [decide_eq_true_eq]; omega) | (rw [decide_eq_false_iff_not]; omega) | (simp [hx]; done) | (simp [hx]; omega)) ?_
    refine T_exit ?_
    refine T_seq ?_
    refine T_region ?_
    refine TL_pure rfl rfl rfl rfl (op_move rfl) ?_
    refine TL_pure rfl rfl rfl rfl (op_assign rfl) ?_
    refine TL_nil ?_
    refine T_freeze 11 (by rw [hF]; rfl) rfl rfl rfl ?_
    refine T_ret ?_
    refine ⟨[aiss xs], [], ⟨?_, trivial⟩, rfl, rfl, rfl, rfl, rfl⟩
    clear ih
    show some _ = some _
    simp [aiss, hd]
  · have hl : pre.length + (r.length + 1) = xs.length := by simp [hx]
    have he : (xs.map ais)[pre.length]? = some (ais x) := by simp [hx]
    have hxl := hrow x (by simp [hx])
    refine T_seq ?_
    refine T_seq ?_
    refine T_region ?_
    refine TL_pure rfl rfl rfl rfl (op_move rfl) ?_
    refine TL_pure rfl rfl rfl rfl (op_move rfl) ?_
    first | refine TL_pure rfl rfl rfl rfl (op_len_sl Try.underlying22 rfl) ?_ | refine TL_pure rfl rfl rfl rfl (op_len_ow Try.underlying22 rfl rfl) ?_ | refine TL_pure rfl rfl rfl rfl (op_len_snil Try.underlying22 rfl) ?_
    refine TL_pure rfl rfl rfl rfl (op_lss rfl rfl) ?_
    refine TL_nil ?_
    refine T_if_true rfl (by first | (rw [decide_eq_true_eq]; omega) | (rw [decide_eq_false_iff_not]; omega) | (simp [hx]; done) | (simp [hx]; omega)) ?_
    refine T_skip ?_
    refine T_seq ?_
    refine T_block ?_
    refine T_region ?_
    refine TL_pure rfl rfl rfl rfl (op_move rfl) ?_
    refine TL_pure rfl rfl rfl rfl (op_move rfl) ?_
    refine TL_pure rfl rfl rfl rfl (op_move rfl) ?_
    refine TL_pure rfl rfl rfl rfl (op_move rfl) ?_
    first | refine TL_pure rfl rfl rfl rfl (op_index_sl el22 rfl rfl rfl (by assumption) rfl) ?_ | refine TL_pure rfl rfl rfl rfl (op_index_ow el22 rfl rfl rfl rfl (by first | omega | (simp; done) | (simp; omega))) ?_
    first | refine TL_pure rfl rfl rfl rfl (op_load_one ag34 rfl rfl) ?_ | refine TL_pure rfl rfl rfl rfl (op_load_arr1 ag34 rfl rfl (by assumption) rfl rfl) ?_
    refine TL_callT (c17 _ (by omega)) Try.call17 rfl rfl rfl rfl rfl ?_
    first | refine TL_pure rfl rfl rfl rfl (op_index_sl el22 rfl rfl rfl (by assumption) rfl) ?_ | refine TL_pure rfl rfl rfl rfl (op_index_ow el22 rfl rfl rfl rfl (by first | omega | (simp; done) | (simp; omega))) ?_
    first | refine TL_store_box sz34 rfl rfl rfl rfl rfl rfl rfl rfl rfl ?_ | refine TL_store_elt sz34 rfl rfl (by first | omega | (simp; done) | (simp; omega)) rfl rfl rfl ?_ | refine TL_store_part sz34 rfl rfl (by assumption) rfl rfl rfl rfl rfl rfl rfl rfl ?_
    refine TL_nil ?_
    refine T_region ?_
    refine TL_pure rfl rfl rfl rfl (op_move rfl) ?_
    refine TL_pure rfl rfl rfl rfl (op_add64 rfl rfl (by omega)) ?_
    refine TL_pure rfl rfl rfl rfl (op_assign rfl) ?_
    refine TL_nil ?_
    refine TR_keep [0, 2, 3, 4] rfl ?_
    exact ih x r rfl trivial _ (by simp [List.replicate_succ, List.set_append])

theorem c11 (xs : List (List Int)) (hs : xs.length ≤ 1048576) (hrow : ∀ x ∈ xs, x.length ≤ 1048576) : ACall Try.prog 11 [.agg [aiss xs]] [] (.agg [aiss xs]) [] := by
  refine ACall.intro Try.func11 rfl Try.ntmps11 rfl (fun F hF => ?_)
  refine T_seq ?_
  refine T_region ?_
  refine TL_box 11 rfl rfl rfl rfl rfl rfl rfl ?_
  refine TL_alloc 12 z27 rfl rfl rfl rfl rfl rfl rfl ?_
  refine TL_nil ?_
  refine T_seq ?_
  refine T_region ?_
  refine TL_alloc 13 z27 rfl rfl rfl rfl rfl rfl rfl ?_
  refine TL_nil ?_
  refine T_seq ?_
  refine T_region ?_
  refine TL_pure rfl rfl rfl rfl (op_fieldAddr fa24_0 rfl rfl) ?_
  first | refine TL_pure rfl rfl rfl rfl (op_load_one ag22 rfl rfl) ?_ | refine TL_pure rfl rfl rfl rfl (op_load_arr1 ag22 rfl rfl (by assumption) rfl rfl) ?_
  refine TL_callT (c31 _ (by omega) (by assumption)) Try.call31 rfl rfl rfl rfl rfl ?_
  refine TL_pure rfl rfl rfl rfl (op_fieldAddr fa27_0 rfl rfl) ?_
  first | refine TL_store_box sz22 rfl rfl rfl rfl rfl rfl rfl rfl rfl ?_ | refine TL_store_elt sz22 rfl rfl (by first | omega | (simp; done) | (simp; omega)) rfl rfl rfl ?_ | refine TL_store_part sz22 rfl rfl (by assumption) rfl rfl rfl rfl rfl rfl rfl rfl ?_
  refine TL_nil ?_
  refine T_seq ?_
  refine T_region ?_
  first | refine TL_pure rfl rfl rfl rfl (op_load_agg ag27 sz27 rfl rfl rfl) ?_ | refine TL_pure rfl rfl rfl rfl (op_load_arrN ag27 sz27 rfl rfl (by assumption) rfl rfl rfl) ?_
  first | refine TL_store_box sz27 rfl rfl rfl rfl rfl rfl rfl rfl rfl ?_ | refine TL_store_elt sz27 rfl rfl (by first | omega | (simp; done) | (simp; omega)) rfl rfl rfl ?_ | refine TL_store_part sz27 rfl rfl (by assumption) rfl rfl rfl rfl rfl rfl rfl rfl ?_
  refine TL_nil ?_
  refine T_ret ?_
  exact ⟨[.agg [aiss xs]], [], ⟨⟨_, _, rfl, rfl, .inr ⟨ag27, _, _, sz27, rfl, rfl⟩⟩, trivial⟩, rfl, rfl, rfl, rfl, rfl⟩

end Go.Proofs.Pol
