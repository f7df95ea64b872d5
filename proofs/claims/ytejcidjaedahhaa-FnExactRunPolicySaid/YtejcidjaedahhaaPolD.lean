/- Walks over the policy seat, printed by wip/pol/mk.py. -/
import Derived.Test.YtejcidjaedahhaaPolC
namespace Go.Proofs.Pol
open Go Go.AM Go.Proofs
set_option linter.unusedVariables false
set_option linter.unusedSimpArgs false
set_option maxRecDepth 100000
theorem mix : Try.prog.follows .mixedOrders = true := by kernel_rfl


theorem c19 (xs ys : List Int) : ACall Try.prog 19 [ais xs, ais ys] [] (.bool (decide (xs = ys))) [] := by
  refine ACall.intro Try.func19 rfl Try.ntmps19 rfl (fun F hF => ?_)
  refine T_slLen 0 rfl (fun hlen => ?_)
  have hL : (xs.map ai).length = xs.length := List.length_map _
  rw [hL] at hlen
  refine T_slLen 1 rfl (fun hleny => ?_)
  have hLy : (ys.map ai).length = ys.length := List.length_map _
  rw [hLy] at hleny
  refine T_seq ?_
  refine T_region ?_
  refine TL_pure rfl rfl rfl rfl (op_assign rfl) ?_
  refine TL_nil ?_
  refine T_seq ?_
  refine T_seq ?_
  refine T_region ?_
  refine TL_pure rfl rfl rfl rfl (op_move rfl) ?_
  first | refine TL_pure rfl rfl rfl rfl (op_len_sl Try.underlying34 rfl) ?_ | refine TL_pure rfl rfl rfl rfl (op_len_ow Try.underlying34 rfl rfl) ?_ | refine TL_pure rfl rfl rfl rfl (op_len_snil Try.underlying34 rfl) ?_
  refine TL_pure rfl rfl rfl rfl (op_move rfl) ?_
  first | refine TL_pure rfl rfl rfl rfl (op_len_sl Try.underlying34 rfl) ?_ | refine TL_pure rfl rfl rfl rfl (op_len_ow Try.underlying34 rfl rfl) ?_ | refine TL_pure rfl rfl rfl rfl (op_len_snil Try.underlying34 rfl) ?_
  refine TL_pure rfl rfl rfl rfl (op_neq rfl rfl) ?_
  refine TL_nil ?_
  refine T_cond rfl (fun hq => ?_) (fun hq => ?_)
  · try simp only [decide_eq_true_eq, decide_eq_false_iff_not, Bool.not_eq_true', Bool.not_eq_false', Bool.not_true, Bool.not_false, Bool.and_eq_true, Bool.or_eq_true, Bool.and_eq_false_iff, Bool.or_eq_false_iff] at hq
    have hq10 := hq
    refine T_seq ?_
    refine T_region ?_
    refine TL_pure rfl rfl rfl rfl (op_assign rfl) ?_
    refine TL_nil ?_
    refine T_ret ?_
    refine ⟨[_], [], ⟨rfl, trivial⟩, ?_, rfl, rfl, rfl, rfl⟩
    try clear ih
    first | rfl | (simp only [resVal]; congr 1; symm; rw [decide_eq_false_iff_not]; rintro rfl; exact hq rfl) | (simp only [resVal]; congr 1; symm; rw [decide_eq_false_iff_not]; intro e; rw [← e, hx0] at hy; exact hq (Option.some.inj hy)) | (simp only [resVal]; congr 1; symm; rw [decide_eq_true_eq]; simp only [List.append_nil] at hx; subst hx; rw [hI]; exact List.take_of_length_le (by omega))
  · try simp only [decide_eq_true_eq, decide_eq_false_iff_not, Bool.not_eq_true', Bool.not_eq_false', Bool.not_true, Bool.not_false, Bool.and_eq_true, Bool.or_eq_true, Bool.and_eq_false_iff, Bool.or_eq_false_iff] at hq
    have hq10 := hq
    refine T_skip ?_
    refine T_seq ?_
    refine T_seq ?_
    refine T_region ?_
    refine TL_pure rfl rfl rfl rfl (op_assign rfl) ?_
    refine TL_nil ?_
    refine T_block ?_
    refine T_loop ?_
    refine TR_keep [0, 1, 4, 5] rfl ?_
    refine TR_list xs (fun pre suf => ⟨[(0, .sl 1 (xs.map ai)), (1, .sl 1 (ys.map ai)), (4, .bool false), (5, .int .i64 pre.length)], []⟩) (fun pre => pre = ys.take pre.length) (rfl) ?_
    intro pre suf hx hI ih
    rcases suf with _ | ⟨x, r⟩
    · have hl : pre.length = xs.length := by simp [hx]
      refine T_seq ?_
      refine T_seq ?_
      refine T_region ?_
      refine TL_pure rfl rfl rfl rfl (op_move rfl) ?_
      refine TL_pure rfl rfl rfl rfl (op_move rfl) ?_
      first | refine TL_pure rfl rfl rfl rfl (op_len_sl Try.underlying34 rfl) ?_ | refine TL_pure rfl rfl rfl rfl (op_len_ow Try.underlying34 rfl rfl) ?_ | refine TL_pure rfl rfl rfl rfl (op_len_snil Try.underlying34 rfl) ?_
      refine TL_pure rfl rfl rfl rfl (op_lss rfl rfl) ?_
      refine TL_nil ?_
      refine T_if_false rfl (by first | (rw [decide_eq_true_eq]; omega) | (rw [decide_eq_false_iff_not]; omega) | (simp [hx]; done) | (simp [hx]; omega)) ?_
      refine T_exit ?_
      refine T_seq ?_
      refine T_region ?_
      refine TL_pure rfl rfl rfl rfl (op_assign rfl) ?_
      refine TL_nil ?_
      refine T_ret ?_
      refine ⟨[_], [], ⟨rfl, trivial⟩, ?_, rfl, rfl, rfl, rfl⟩
      try clear ih
      first | rfl | (simp only [resVal]; congr 1; symm; rw [decide_eq_false_iff_not]; rintro rfl; exact hq rfl) | (simp only [resVal]; congr 1; symm; rw [decide_eq_false_iff_not]; intro e; rw [← e, hx0] at hy; exact hq (Option.some.inj hy)) | (simp only [resVal]; congr 1; symm; rw [decide_eq_true_eq]; simp only [List.append_nil] at hx; subst hx; rw [hI]; exact List.take_of_length_le (by omega))
    · have hl : pre.length + (r.length + 1) = xs.length := by simp [hx]
      obtain ⟨y, hy⟩ : ∃ y, ys[pre.length]? = some y := ⟨ys[pre.length]'(by omega), by simp⟩
      have he : (xs.map ai)[pre.length]? = some (ai x) := by simp [hx]
      have hey : (ys.map ai)[pre.length]? = some (ai y) := by simp [hy]
      have hx0 : xs[pre.length]? = some x := by simp [hx]
      refine T_seq ?_
      refine T_seq ?_
      refine T_region ?_
      refine TL_pure rfl rfl rfl rfl (op_move rfl) ?_
      refine TL_pure rfl rfl rfl rfl (op_move rfl) ?_
      first | refine TL_pure rfl rfl rfl rfl (op_len_sl Try.underlying34 rfl) ?_ | refine TL_pure rfl rfl rfl rfl (op_len_ow Try.underlying34 rfl rfl) ?_ | refine TL_pure rfl rfl rfl rfl (op_len_snil Try.underlying34 rfl) ?_
      refine TL_pure rfl rfl rfl rfl (op_lss rfl rfl) ?_
      refine TL_nil ?_
      refine T_if_true rfl (by first | (rw [decide_eq_true_eq]; omega) | (rw [decide_eq_false_iff_not]; omega) | (simp [hx]; done) | (simp [hx]; omega)) ?_
      refine T_skip ?_
      refine T_seq ?_
      refine T_block ?_
      refine T_seq ?_
      refine T_drawZ [] mix (by kernel_rfl) rfl ?_
      refine TZ_pure 0 (by kernel_rfl) rfl rfl rfl rfl rfl (op_move rfl) ?_
      refine TZ_pure 1 (by kernel_rfl) rfl rfl rfl rfl rfl (op_move rfl) ?_
      first | refine TZ_pure 2 (by kernel_rfl) rfl rfl rfl rfl rfl (op_index_sl el34 rfl rfl rfl (by assumption) rfl) ?_ | refine TZ_pure 2 (by kernel_rfl) rfl rfl rfl rfl rfl (op_index_ow el34 rfl rfl rfl rfl (by first | omega | (simp; done) | (simp; omega))) ?_
      first | refine TZ_pure 3 (by kernel_rfl) rfl rfl rfl rfl rfl (op_load_one ag2 rfl rfl) ?_ | refine TZ_pure 3 (by kernel_rfl) rfl rfl rfl rfl rfl (op_load_arr1 ag2 rfl rfl (by assumption) rfl rfl) ?_
      refine TZ_pure 4 (by kernel_rfl) rfl rfl rfl rfl rfl (op_move rfl) ?_
      refine TZ_pure 5 (by kernel_rfl) rfl rfl rfl rfl rfl (op_move rfl) ?_
      first | refine TZ_pure 6 (by kernel_rfl) rfl rfl rfl rfl rfl (op_index_sl el34 rfl rfl rfl (by assumption) rfl) ?_ | refine TZ_pure 6 (by kernel_rfl) rfl rfl rfl rfl rfl (op_index_ow el34 rfl rfl rfl rfl (by first | omega | (simp; done) | (simp; omega))) ?_
      first | refine TZ_pure 7 (by kernel_rfl) rfl rfl rfl rfl rfl (op_load_one ag2 rfl rfl) ?_ | refine TZ_pure 7 (by kernel_rfl) rfl rfl rfl rfl rfl (op_load_arr1 ag2 rfl rfl (by assumption) rfl rfl) ?_
      refine TZ_pure 8 (by kernel_rfl) rfl rfl rfl rfl rfl (op_neq rfl rfl) ?_
      refine TZ_done (by kernel_rfl) ?_
      refine T_cond rfl (fun hq => ?_) (fun hq => ?_)
      · try simp only [decide_eq_true_eq, decide_eq_false_iff_not, Bool.not_eq_true', Bool.not_eq_false', Bool.not_true, Bool.not_false, Bool.and_eq_true, Bool.or_eq_true, Bool.and_eq_false_iff, Bool.or_eq_false_iff] at hq
        have hq25 := hq
        refine T_seq ?_
        refine T_region ?_
        refine TL_pure rfl rfl rfl rfl (op_assign rfl) ?_
        refine TL_nil ?_
        refine T_ret ?_
        refine ⟨[_], [], ⟨rfl, trivial⟩, ?_, rfl, rfl, rfl, rfl⟩
        try clear ih
        first | rfl | (simp only [resVal]; congr 1; symm; rw [decide_eq_false_iff_not]; rintro rfl; exact hq rfl) | (simp only [resVal]; congr 1; symm; rw [decide_eq_false_iff_not]; intro e; rw [← e, hx0] at hy; exact hq (Option.some.inj hy)) | (simp only [resVal]; congr 1; symm; rw [decide_eq_true_eq]; simp only [List.append_nil] at hx; subst hx; rw [hI]; exact List.take_of_length_le (by omega))
      · try simp only [decide_eq_true_eq, decide_eq_false_iff_not, Bool.not_eq_true', Bool.not_eq_false', Bool.not_true, Bool.not_false, Bool.and_eq_true, Bool.or_eq_true, Bool.and_eq_false_iff, Bool.or_eq_false_iff] at hq
        have hq25 := hq
        refine T_skip ?_
        refine T_region ?_
        refine TL_pure rfl rfl rfl rfl (op_move rfl) ?_
        refine TL_pure rfl rfl rfl rfl (op_add64 rfl rfl (by omega)) ?_
        refine TL_pure rfl rfl rfl rfl (op_assign rfl) ?_
        refine TL_nil ?_
        refine TR_keep [0, 1, 4, 5] rfl ?_
        exact ih x r rfl (by rw [List.length_append, List.length_singleton, List.take_add_one, ← hI, hy, hq]; rfl) _ (by simp)

theorem c35 (xs ys : List (List Int)) : ACall Try.prog 35 [aiss xs, aiss ys] [] (.bool (decide (xs = ys))) [] := by
  refine ACall.intro Try.func35 rfl Try.ntmps35 rfl (fun F hF => ?_)
  refine T_slLen 0 rfl (fun hlen => ?_)
  have hL : (xs.map ais).length = xs.length := List.length_map _
  rw [hL] at hlen
  refine T_slLen 1 rfl (fun hleny => ?_)
  have hLy : (ys.map ais).length = ys.length := List.length_map _
  rw [hLy] at hleny
  refine T_seq ?_
  refine T_region ?_
  refine TL_pure rfl rfl rfl rfl (op_assign rfl) ?_
  refine TL_nil ?_
  refine T_seq ?_
  refine T_seq ?_
  refine T_region ?_
  refine TL_pure rfl rfl rfl rfl (op_move rfl) ?_
  first | refine TL_pure rfl rfl rfl rfl (op_len_sl Try.underlying22 rfl) ?_ | refine TL_pure rfl rfl rfl rfl (op_len_ow Try.underlying22 rfl rfl) ?_ | refine TL_pure rfl rfl rfl rfl (op_len_snil Try.underlying22 rfl) ?_
  refine TL_pure rfl rfl rfl rfl (op_move rfl) ?_
  first | refine TL_pure rfl rfl rfl rfl (op_len_sl Try.underlying22 rfl) ?_ | refine TL_pure rfl rfl rfl rfl (op_len_ow Try.underlying22 rfl rfl) ?_ | refine TL_pure rfl rfl rfl rfl (op_len_snil Try.underlying22 rfl) ?_
  refine TL_pure rfl rfl rfl rfl (op_neq rfl rfl) ?_
  refine TL_nil ?_
  refine T_cond rfl (fun hq => ?_) (fun hq => ?_)
  · try simp only [decide_eq_true_eq, decide_eq_false_iff_not, Bool.not_eq_true', Bool.not_eq_false', Bool.not_true, Bool.not_false, Bool.and_eq_true, Bool.or_eq_true, Bool.and_eq_false_iff, Bool.or_eq_false_iff] at hq
    have hq10 := hq
    refine T_seq ?_
    refine T_region ?_
    refine TL_pure rfl rfl rfl rfl (op_assign rfl) ?_
    refine TL_nil ?_
    refine T_ret ?_
    refine ⟨[_], [], ⟨rfl, trivial⟩, ?_, rfl, rfl, rfl, rfl⟩
    try clear ih
    first | rfl | (simp only [resVal]; congr 1; symm; rw [decide_eq_false_iff_not]; rintro rfl; exact hq rfl) | (simp only [resVal]; congr 1; symm; rw [decide_eq_false_iff_not]; intro e; rw [← e, hx0] at hy; exact hq (Option.some.inj hy)) | (simp only [resVal]; congr 1; symm; rw [decide_eq_true_eq]; simp only [List.append_nil] at hx; subst hx; rw [hI]; exact List.take_of_length_le (by omega))
  · try simp only [decide_eq_true_eq, decide_eq_false_iff_not, Bool.not_eq_true', Bool.not_eq_false', Bool.not_true, Bool.not_false, Bool.and_eq_true, Bool.or_eq_true, Bool.and_eq_false_iff, Bool.or_eq_false_iff] at hq
    have hq10 := hq
    refine T_skip ?_
    refine T_seq ?_
    refine T_seq ?_
    refine T_region ?_
    refine TL_pure rfl rfl rfl rfl (op_assign rfl) ?_
    refine TL_nil ?_
    refine T_block ?_
    refine T_loop ?_
    refine TR_keep [0, 1, 4, 5] rfl ?_
    refine TR_list xs (fun pre suf => ⟨[(0, .sl 1 (xs.map ais)), (1, .sl 1 (ys.map ais)), (4, .bool false), (5, .int .i64 pre.length)], []⟩) (fun pre => pre = ys.take pre.length) (rfl) ?_
    intro pre suf hx hI ih
    rcases suf with _ | ⟨x, r⟩
    · have hl : pre.length = xs.length := by simp [hx]
      refine T_seq ?_
      refine T_seq ?_
      refine T_region ?_
      refine TL_pure rfl rfl rfl rfl (op_move rfl) ?_
      refine TL_pure rfl rfl rfl rfl (op_move rfl) ?_
      first | refine TL_pure rfl rfl rfl rfl (op_len_sl Try.underlying22 rfl) ?_ | refine TL_pure rfl rfl rfl rfl (op_len_ow Try.underlying22 rfl rfl) ?_ | refine TL_pure rfl rfl rfl rfl (op_len_snil Try.underlying22 rfl) ?_
      refine TL_pure rfl rfl rfl rfl (op_lss rfl rfl) ?_
      refine TL_nil ?_
      refine T_if_false rfl (by first | (rw [decide_eq_true_eq]; omega) | (rw [decide_eq_false_iff_not]; omega) | (simp [hx]; done) | (simp [hx]; omega)) ?_
      refine T_exit ?_
      refine T_seq ?_
      refine T_region ?_
      refine TL_pure rfl rfl rfl rfl (op_assign rfl) ?_
      refine TL_nil ?_
      refine T_ret ?_
      refine ⟨[_], [], ⟨rfl, trivial⟩, ?_, rfl, rfl, rfl, rfl⟩
      try clear ih
      first | rfl | (simp only [resVal]; congr 1; symm; rw [decide_eq_false_iff_not]; rintro rfl; exact hq rfl) | (simp only [resVal]; congr 1; symm; rw [decide_eq_false_iff_not]; intro e; rw [← e, hx0] at hy; exact hq (Option.some.inj hy)) | (simp only [resVal]; congr 1; symm; rw [decide_eq_true_eq]; simp only [List.append_nil] at hx; subst hx; rw [hI]; exact List.take_of_length_le (by omega))
    · have hl : pre.length + (r.length + 1) = xs.length := by simp [hx]
      obtain ⟨y, hy⟩ : ∃ y, ys[pre.length]? = some y := ⟨ys[pre.length]'(by omega), by simp⟩
      have he : (xs.map ais)[pre.length]? = some (ais x) := by simp [hx]
      have hey : (ys.map ais)[pre.length]? = some (ais y) := by simp [hy]
      have hx0 : xs[pre.length]? = some x := by simp [hx]
      refine T_seq ?_
      refine T_seq ?_
      refine T_region ?_
      refine TL_pure rfl rfl rfl rfl (op_move rfl) ?_
      refine TL_pure rfl rfl rfl rfl (op_move rfl) ?_
      first | refine TL_pure rfl rfl rfl rfl (op_len_sl Try.underlying22 rfl) ?_ | refine TL_pure rfl rfl rfl rfl (op_len_ow Try.underlying22 rfl rfl) ?_ | refine TL_pure rfl rfl rfl rfl (op_len_snil Try.underlying22 rfl) ?_
      refine TL_pure rfl rfl rfl rfl (op_lss rfl rfl) ?_
      refine TL_nil ?_
      refine T_if_true rfl (by first | (rw [decide_eq_true_eq]; omega) | (rw [decide_eq_false_iff_not]; omega) | (simp [hx]; done) | (simp [hx]; omega)) ?_
      refine T_skip ?_
      refine T_seq ?_
      refine T_block ?_
      refine T_seq ?_
      refine T_drawZ [] mix (by kernel_rfl) rfl ?_
      refine TZ_pure 0 (by kernel_rfl) rfl rfl rfl rfl rfl (op_move rfl) ?_
      refine TZ_pure 1 (by kernel_rfl) rfl rfl rfl rfl rfl (op_move rfl) ?_
      first | refine TZ_pure 2 (by kernel_rfl) rfl rfl rfl rfl rfl (op_index_sl el22 rfl rfl rfl (by assumption) rfl) ?_ | refine TZ_pure 2 (by kernel_rfl) rfl rfl rfl rfl rfl (op_index_ow el22 rfl rfl rfl rfl (by first | omega | (simp; done) | (simp; omega))) ?_
      first | refine TZ_pure 3 (by kernel_rfl) rfl rfl rfl rfl rfl (op_load_one ag34 rfl rfl) ?_ | refine TZ_pure 3 (by kernel_rfl) rfl rfl rfl rfl rfl (op_load_arr1 ag34 rfl rfl (by assumption) rfl rfl) ?_
      refine TZ_pure 4 (by kernel_rfl) rfl rfl rfl rfl rfl (op_move rfl) ?_
      refine TZ_pure 5 (by kernel_rfl) rfl rfl rfl rfl rfl (op_move rfl) ?_
      first | refine TZ_pure 6 (by kernel_rfl) rfl rfl rfl rfl rfl (op_index_sl el22 rfl rfl rfl (by assumption) rfl) ?_ | refine TZ_pure 6 (by kernel_rfl) rfl rfl rfl rfl rfl (op_index_ow el22 rfl rfl rfl rfl (by first | omega | (simp; done) | (simp; omega))) ?_
      first | refine TZ_pure 7 (by kernel_rfl) rfl rfl rfl rfl rfl (op_load_one ag34 rfl rfl) ?_ | refine TZ_pure 7 (by kernel_rfl) rfl rfl rfl rfl rfl (op_load_arr1 ag34 rfl rfl (by assumption) rfl rfl) ?_
      refine TZ_one 8 (by kernel_rfl) rfl ?_
      refine TL_callF (c19 _ _) Try.call19 rfl rfl rfl rfl rfl ?_
      refine TL_nil ?_
      refine TZ_pure 9 (by kernel_rfl) rfl rfl rfl rfl rfl (op_not rfl) ?_
      refine TZ_done (by kernel_rfl) ?_
      refine T_cond rfl (fun hq => ?_) (fun hq => ?_)
      · try simp only [decide_eq_true_eq, decide_eq_false_iff_not, Bool.not_eq_true', Bool.not_eq_false', Bool.not_true, Bool.not_false, Bool.and_eq_true, Bool.or_eq_true, Bool.and_eq_false_iff, Bool.or_eq_false_iff] at hq
        have hq26 := hq
        refine T_seq ?_
        refine T_region ?_
        refine TL_pure rfl rfl rfl rfl (op_assign rfl) ?_
        refine TL_nil ?_
        refine T_ret ?_
        refine ⟨[_], [], ⟨rfl, trivial⟩, ?_, rfl, rfl, rfl, rfl⟩
        try clear ih
        first | rfl | (simp only [resVal]; congr 1; symm; rw [decide_eq_false_iff_not]; rintro rfl; exact hq rfl) | (simp only [resVal]; congr 1; symm; rw [decide_eq_false_iff_not]; intro e; rw [← e, hx0] at hy; exact hq (Option.some.inj hy)) | (simp only [resVal]; congr 1; symm; rw [decide_eq_true_eq]; simp only [List.append_nil] at hx; subst hx; rw [hI]; exact List.take_of_length_le (by omega))
      · try simp only [decide_eq_true_eq, decide_eq_false_iff_not, Bool.not_eq_true', Bool.not_eq_false', Bool.not_true, Bool.not_false, Bool.and_eq_true, Bool.or_eq_true, Bool.and_eq_false_iff, Bool.or_eq_false_iff] at hq
        have hq26 := hq
        refine T_skip ?_
        refine T_region ?_
        refine TL_pure rfl rfl rfl rfl (op_move rfl) ?_
        refine TL_pure rfl rfl rfl rfl (op_add64 rfl rfl (by omega)) ?_
        refine TL_pure rfl rfl rfl rfl (op_assign rfl) ?_
        refine TL_nil ?_
        refine TR_keep [0, 1, 4, 5] rfl ?_
        exact ih x r rfl (by rw [List.length_append, List.length_singleton, List.take_add_one, ← hI, hy, hq]; rfl) _ (by simp)

theorem c13 (xs ys : List (List Int)) : ACall Try.prog 13 [.agg [aiss xs], .agg [aiss ys]] [] (.bool (decide (xs = ys))) [] := by
  refine ACall.intro Try.func13 rfl Try.ntmps13 rfl (fun F hF => ?_)
  refine T_seq ?_
  refine T_region ?_
  refine TL_box 11 rfl rfl rfl rfl rfl rfl rfl ?_
  refine TL_box 12 rfl rfl rfl rfl rfl rfl rfl ?_
  refine TL_pure rfl rfl rfl rfl (op_assign rfl) ?_
  refine TL_nil ?_
  refine T_seq ?_
  refine T_seq ?_
  refine T_region ?_
  refine TL_pure rfl rfl rfl rfl (op_fieldAddr fa27_0 rfl rfl) ?_
  first | refine TL_pure rfl rfl rfl rfl (op_load_one ag22 rfl rfl) ?_ | refine TL_pure rfl rfl rfl rfl (op_load_arr1 ag22 rfl rfl (by assumption) rfl rfl) ?_
  refine TL_pure rfl rfl rfl rfl (op_fieldAddr fa27_0 rfl rfl) ?_
  first | refine TL_pure rfl rfl rfl rfl (op_load_one ag22 rfl rfl) ?_ | refine TL_pure rfl rfl rfl rfl (op_load_arr1 ag22 rfl rfl (by assumption) rfl rfl) ?_
  refine TL_callF (c35 _ _) Try.call35 rfl rfl rfl rfl rfl ?_
  refine TL_pure rfl rfl rfl rfl (op_not rfl) ?_
  refine TL_nil ?_
  refine T_cond rfl (fun hq => ?_) (fun hq => ?_)
  · try simp only [decide_eq_true_eq, decide_eq_false_iff_not, Bool.not_eq_true', Bool.not_eq_false', Bool.not_true, Bool.not_false, Bool.and_eq_true, Bool.or_eq_true, Bool.and_eq_false_iff, Bool.or_eq_false_iff] at hq
    have hq10 := hq
    refine T_seq ?_
    refine T_region ?_
    refine TL_pure rfl rfl rfl rfl (op_assign rfl) ?_
    refine TL_nil ?_
    refine T_ret ?_
    refine ⟨[_], [], ⟨rfl, trivial⟩, ?_, rfl, rfl, rfl, rfl⟩
    try clear ih
    first | rfl | (simp only [resVal]; congr 1; symm; rw [decide_eq_false_iff_not]; exact hq) | (simp only [resVal]; congr 1; symm; rw [decide_eq_true_eq]; exact hq)
  · try simp only [decide_eq_true_eq, decide_eq_false_iff_not, Bool.not_eq_true', Bool.not_eq_false', Bool.not_true, Bool.not_false, Bool.and_eq_true, Bool.or_eq_true, Bool.and_eq_false_iff, Bool.or_eq_false_iff] at hq
    have hq10 := hq
    refine T_skip ?_
    refine T_seq ?_
    refine T_region ?_
    refine TL_pure rfl rfl rfl rfl (op_assign rfl) ?_
    refine TL_nil ?_
    refine T_ret ?_
    refine ⟨[_], [], ⟨rfl, trivial⟩, ?_, rfl, rfl, rfl, rfl⟩
    try clear ih
    first | rfl | (simp only [resVal]; congr 1; symm; rw [decide_eq_false_iff_not]; exact hq) | (simp only [resVal]; congr 1; symm; rw [decide_eq_true_eq]; exact hq)

end Go.Proofs.Pol
