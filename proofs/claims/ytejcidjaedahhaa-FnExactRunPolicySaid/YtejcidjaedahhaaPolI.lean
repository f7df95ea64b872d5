/- Walks over the policy seat, printed by wip/pol/mk.py. -/
import Derived.Test.YtejcidjaedahhaaPolH
namespace Go.Proofs.Pol
open Go Go.AM Go.Proofs
set_option linter.unusedVariables false
set_option linter.unusedSimpArgs false
set_option maxRecDepth 100000


def runP (rows : List (List Int)) (xs : List Int) : Int × Int × Bool :=
  if validB rows = true ∧ wordB xs = true then ((runF rows 0 xs 0).1, (runF rows 0 xs 0).2, true) else (0, 0, false)

theorem c16 (rows : List (List Int)) (xs : List Int) (hlen : rows.length ≤ 1048576) : ACall Try.prog 16 [.agg [aiss rows], ais xs] [] (.tup [ai (runP rows xs).1, ai (runP rows xs).2.1, .bool (runP rows xs).2.2]) [] := by
  refine ACall.intro Try.func16 rfl Try.ntmps16 rfl (fun F hF => ?_)
  have hL : (rows.map ais).length = rows.length := List.length_map _
  refine T_seq ?_
  refine T_region ?_
  refine TL_box 11 rfl rfl rfl rfl rfl rfl rfl ?_
  refine TL_pure rfl rfl rfl rfl (op_assign rfl) ?_
  refine TL_pure rfl rfl rfl rfl (op_assign rfl) ?_
  refine TL_pure rfl rfl rfl rfl (op_assign rfl) ?_
  refine TL_nil ?_
  refine T_seq ?_
  refine T_seq ?_
  refine T_region ?_
  refine TL_callF (c30 _ (by omega)) Try.call30 rfl rfl rfl rfl rfl ?_
  refine TL_pure rfl rfl rfl rfl (op_not rfl) ?_
  refine TL_pure rfl rfl rfl rfl (op_move rfl) ?_
  refine TL_split 11 rfl rfl rfl (fun hq => ?_) (fun hq => ?_)
  · try simp only [decide_eq_true_eq, decide_eq_false_iff_not, Bool.not_eq_true', Bool.not_eq_false', Bool.not_true, Bool.not_false, Bool.and_eq_true, Bool.or_eq_true, Bool.and_eq_false_iff, Bool.or_eq_false_iff] at hq
    have hq11 := hq
    refine TL_pass rfl rfl rfl rfl rfl rfl rfl ?_
    refine TL_pass rfl rfl rfl rfl rfl rfl rfl ?_
    refine TL_pass rfl rfl rfl rfl rfl rfl rfl ?_
    refine TL_pure rfl rfl rfl rfl (op_pick_true rfl rfl) ?_
    refine TL_nil ?_
    refine T_cond_true rfl ?_
    refine T_seq ?_
    refine T_region ?_
    refine TL_pure rfl rfl rfl rfl (op_assign rfl) ?_
    refine TL_pure rfl rfl rfl rfl (op_assign rfl) ?_
    refine TL_pure rfl rfl rfl rfl (op_assign rfl) ?_
    refine TL_nil ?_
    refine T_ret ?_
    refine ⟨[_, _, _], [], ⟨rfl, ⟨rfl, ⟨rfl, trivial⟩⟩⟩, ?_, rfl, rfl, rfl, rfl⟩
    try clear ih
    first | rfl | (simp only [resVal]; unfold runP; rw [if_pos (by grind)] <;> rfl) | (simp only [resVal]; unfold runP; rw [if_neg (by grind)] <;> rfl)
  · try simp only [decide_eq_true_eq, decide_eq_false_iff_not, Bool.not_eq_true', Bool.not_eq_false', Bool.not_true, Bool.not_false, Bool.and_eq_true, Bool.or_eq_true, Bool.and_eq_false_iff, Bool.or_eq_false_iff] at hq
    have hq11 := hq
    refine TL_want rfl rfl ?_
    refine TL_pure rfl rfl rfl rfl (op_move rfl) ?_
    refine TL_want rfl rfl ?_
    refine TL_callF (c40 _) Try.call40 rfl rfl rfl rfl rfl ?_
    refine TL_want rfl rfl ?_
    refine TL_pure rfl rfl rfl rfl (op_not rfl) ?_
    refine TL_pure rfl rfl rfl rfl (op_pick_false rfl rfl) ?_
    refine TL_nil ?_
    refine T_cond rfl (fun hq => ?_) (fun hq => ?_)
    · try simp only [decide_eq_true_eq, decide_eq_false_iff_not, Bool.not_eq_true', Bool.not_eq_false', Bool.not_true, Bool.not_false, Bool.and_eq_true, Bool.or_eq_true, Bool.and_eq_false_iff, Bool.or_eq_false_iff] at hq
      have hq15 := hq
      refine T_seq ?_
      refine T_region ?_
      refine TL_pure rfl rfl rfl rfl (op_assign rfl) ?_
      refine TL_pure rfl rfl rfl rfl (op_assign rfl) ?_
      refine TL_pure rfl rfl rfl rfl (op_assign rfl) ?_
      refine TL_nil ?_
      refine T_ret ?_
      refine ⟨[_, _, _], [], ⟨rfl, ⟨rfl, ⟨rfl, trivial⟩⟩⟩, ?_, rfl, rfl, rfl, rfl⟩
      try clear ih
      first | rfl | (simp only [resVal]; unfold runP; rw [if_pos (by grind)] <;> rfl) | (simp only [resVal]; unfold runP; rw [if_neg (by grind)] <;> rfl)
    · try simp only [decide_eq_true_eq, decide_eq_false_iff_not, Bool.not_eq_true', Bool.not_eq_false', Bool.not_true, Bool.not_false, Bool.and_eq_true, Bool.or_eq_true, Bool.and_eq_false_iff, Bool.or_eq_false_iff] at hq
      have hq15 := hq
      refine T_skip ?_
      refine T_seq ?_
      refine T_region ?_
      refine TL_pure rfl rfl rfl rfl (op_move rfl) ?_
      refine TL_callF (c41 _ _ _ (by assumption) (by have := validB_bnd (rows := rows) (by assumption); omega) (wordB_spec (by assumption)).2) Try.call41 rfl rfl rfl rfl rfl ?_
      refine TL_pure rfl rfl rfl rfl (op_move rfl) ?_
      refine TL_pure rfl rfl rfl rfl (op_extract rfl rfl) ?_
      refine TL_pure rfl rfl rfl rfl (op_extract rfl rfl) ?_
      refine TL_pure rfl rfl rfl rfl (op_assign rfl) ?_
      refine TL_pure rfl rfl rfl rfl (op_assign rfl) ?_
      refine TL_nil ?_
      refine T_seq ?_
      refine T_region ?_
      refine TL_pure rfl rfl rfl rfl (op_move rfl) ?_
      refine TL_pure rfl rfl rfl rfl (op_move rfl) ?_
      refine TL_pure rfl rfl rfl rfl (op_assign rfl) ?_
      refine TL_pure rfl rfl rfl rfl (op_assign rfl) ?_
      refine TL_pure rfl rfl rfl rfl (op_assign rfl) ?_
      refine TL_nil ?_
      refine T_ret ?_
      refine ⟨[_, _, _], [], ⟨rfl, ⟨rfl, ⟨rfl, trivial⟩⟩⟩, ?_, rfl, rfl, rfl, rfl⟩
      try clear ih
      first | rfl | (simp only [resVal]; unfold runP; rw [if_pos (by grind)] <;> rfl) | (simp only [resVal]; unfold runP; rw [if_neg (by grind)] <;> rfl)

theorem c18 (rows : List (List Int)) (xs : List Int) (hlen : rows.length ≤ 1048576) : ACall Try.prog 18 [.agg [aiss rows], ais xs] [] (.tup [ai (runP rows xs).1, ai (runP rows xs).2.1, .bool (runP rows xs).2.2]) [] := by
  refine ACall.intro Try.func18 rfl Try.ntmps18 rfl (fun F hF => ?_)
  have hL : (rows.map ais).length = rows.length := List.length_map _
  refine T_slLen 1 rfl (fun hlenx => ?_)
  have hLx : (xs.map ai).length = xs.length := List.length_map _
  rw [hLx] at hlenx
  refine T_seq ?_
  refine T_region ?_
  refine TL_box 11 rfl rfl rfl rfl rfl rfl rfl ?_
  refine TL_pure rfl rfl rfl rfl (op_assign rfl) ?_
  refine TL_pure rfl rfl rfl rfl (op_assign rfl) ?_
  refine TL_pure rfl rfl rfl rfl (op_assign rfl) ?_
  refine TL_nil ?_
  refine T_seq ?_
  refine T_seq ?_
  refine T_region ?_
  first | refine TL_pure rfl rfl rfl rfl (op_load_agg ag27 sz27 rfl rfl rfl) ?_ | refine TL_pure rfl rfl rfl rfl (op_load_arrN ag27 sz27 rfl rfl (by assumption) rfl rfl rfl) ?_
  refine TL_callF (c12 _ (by omega)) Try.call12 rfl rfl rfl rfl rfl ?_
  refine TL_pure rfl rfl rfl rfl (op_not rfl) ?_
  refine TL_pure rfl rfl rfl rfl (op_move rfl) ?_
  refine TL_split 12 rfl rfl rfl (fun hq => ?_) (fun hq => ?_)
  · try simp only [decide_eq_true_eq, decide_eq_false_iff_not, Bool.not_eq_true', Bool.not_eq_false', Bool.not_true, Bool.not_false, Bool.and_eq_true, Bool.or_eq_true, Bool.and_eq_false_iff, Bool.or_eq_false_iff] at hq
    have hq12 := hq
    refine TL_pass rfl rfl rfl rfl rfl rfl rfl ?_
    refine TL_pass rfl rfl rfl rfl rfl rfl rfl ?_
    refine TL_pass rfl rfl rfl rfl rfl rfl rfl ?_
    refine TL_pure rfl rfl rfl rfl (op_pick_true rfl rfl) ?_
    refine TL_pure rfl rfl rfl rfl (op_move rfl) ?_
    refine TL_pass rfl rfl rfl rfl rfl rfl rfl ?_
    refine TL_pass rfl rfl rfl rfl rfl rfl rfl ?_
    refine TL_pass rfl rfl rfl rfl rfl rfl rfl ?_
    refine TL_pure rfl rfl rfl rfl (op_pick_true rfl rfl) ?_
    refine TL_nil ?_
    refine T_cond_true rfl ?_
    refine T_seq ?_
    refine T_region ?_
    refine TL_pure rfl rfl rfl rfl (op_assign rfl) ?_
    refine TL_pure rfl rfl rfl rfl (op_assign rfl) ?_
    refine TL_pure rfl rfl rfl rfl (op_assign rfl) ?_
    refine TL_nil ?_
    refine T_ret ?_
    refine ⟨[_, _, _], [], ⟨rfl, ⟨rfl, ⟨rfl, trivial⟩⟩⟩, ?_, rfl, rfl, rfl, rfl⟩
    try clear ih
    first | rfl | (simp only [resVal]; unfold runP; rw [if_pos (by grind)] <;> rfl) | (simp only [resVal]; unfold runP; rw [if_neg (by unfold wordB; grind)] <;> rfl)
  · try simp only [decide_eq_true_eq, decide_eq_false_iff_not, Bool.not_eq_true', Bool.not_eq_false', Bool.not_true, Bool.not_false, Bool.and_eq_true, Bool.or_eq_true, Bool.and_eq_false_iff, Bool.or_eq_false_iff] at hq
    have hq12 := hq
    refine TL_want rfl rfl ?_
    refine TL_pure rfl rfl rfl rfl (op_move rfl) ?_
    refine TL_want rfl rfl ?_
    first | refine TL_pure rfl rfl rfl rfl (op_len_sl Try.underlying34 rfl) ?_ | refine TL_pure rfl rfl rfl rfl (op_len_ow Try.underlying34 rfl rfl) ?_ | refine TL_pure rfl rfl rfl rfl (op_len_snil Try.underlying34 rfl) ?_
    refine TL_want rfl rfl ?_
    refine TL_pure rfl rfl rfl rfl (op_gtr rfl rfl) ?_
    refine TL_pure rfl rfl rfl rfl (op_pick_false rfl rfl) ?_
    refine TL_pure rfl rfl rfl rfl (op_move rfl) ?_
    refine TL_split 17 rfl rfl rfl (fun hq => ?_) (fun hq => ?_)
    · try simp only [decide_eq_true_eq, decide_eq_false_iff_not, Bool.not_eq_true', Bool.not_eq_false', Bool.not_true, Bool.not_false, Bool.and_eq_true, Bool.or_eq_true, Bool.and_eq_false_iff, Bool.or_eq_false_iff] at hq
      have hq17 := hq
      refine TL_pass rfl rfl rfl rfl rfl rfl rfl ?_
      refine TL_pass rfl rfl rfl rfl rfl rfl rfl ?_
      refine TL_pass rfl rfl rfl rfl rfl rfl rfl ?_
      refine TL_pure rfl rfl rfl rfl (op_pick_true rfl rfl) ?_
      refine TL_nil ?_
      refine T_cond_true rfl ?_
      refine T_seq ?_
      refine T_region ?_
      refine TL_pure rfl rfl rfl rfl (op_assign rfl) ?_
      refine TL_pure rfl rfl rfl rfl (op_assign rfl) ?_
      refine TL_pure rfl rfl rfl rfl (op_assign rfl) ?_
      refine TL_nil ?_
      refine T_ret ?_
      refine ⟨[_, _, _], [], ⟨rfl, ⟨rfl, ⟨rfl, trivial⟩⟩⟩, ?_, rfl, rfl, rfl, rfl⟩
      try clear ih
      first | rfl | (simp only [resVal]; unfold runP; rw [if_pos (by grind)] <;> rfl) | (simp only [resVal]; unfold runP; rw [if_neg (by unfold wordB; grind)] <;> rfl)
    · try simp only [decide_eq_true_eq, decide_eq_false_iff_not, Bool.not_eq_true', Bool.not_eq_false', Bool.not_true, Bool.not_false, Bool.and_eq_true, Bool.or_eq_true, Bool.and_eq_false_iff, Bool.or_eq_false_iff] at hq
      have hq17 := hq
      refine TL_want rfl rfl ?_
      refine TL_pure rfl rfl rfl rfl (op_move rfl) ?_
      refine TL_want rfl rfl ?_
      refine TL_callF (c34 _ _ _) Try.call34 rfl rfl rfl rfl rfl ?_
      refine TL_want rfl rfl ?_
      refine TL_pure rfl rfl rfl rfl (op_not rfl) ?_
      refine TL_pure rfl rfl rfl rfl (op_pick_false rfl rfl) ?_
      refine TL_nil ?_
      refine T_cond rfl (fun hq => ?_) (fun hq => ?_)
      · try simp only [decide_eq_true_eq, decide_eq_false_iff_not, Bool.not_eq_true', Bool.not_eq_false', Bool.not_true, Bool.not_false, Bool.and_eq_true, Bool.or_eq_true, Bool.and_eq_false_iff, Bool.or_eq_false_iff] at hq
        have hq21 := hq
        refine T_seq ?_
        refine T_region ?_
        refine TL_pure rfl rfl rfl rfl (op_assign rfl) ?_
        refine TL_pure rfl rfl rfl rfl (op_assign rfl) ?_
        refine TL_pure rfl rfl rfl rfl (op_assign rfl) ?_
        refine TL_nil ?_
        refine T_ret ?_
        refine ⟨[_, _, _], [], ⟨rfl, ⟨rfl, ⟨rfl, trivial⟩⟩⟩, ?_, rfl, rfl, rfl, rfl⟩
        try clear ih
        first | rfl | (simp only [resVal]; unfold runP; rw [if_pos (by grind)] <;> rfl) | (simp only [resVal]; unfold runP; rw [if_neg (by unfold wordB; grind)] <;> rfl)
      · try simp only [decide_eq_true_eq, decide_eq_false_iff_not, Bool.not_eq_true', Bool.not_eq_false', Bool.not_true, Bool.not_false, Bool.and_eq_true, Bool.or_eq_true, Bool.and_eq_false_iff, Bool.or_eq_false_iff] at hq
        have hq21 := hq
        refine T_skip ?_
        refine T_seq ?_
        refine T_region ?_
        have hw : wordB xs = true := by unfold wordB; grind
        first | refine TL_pure rfl rfl rfl rfl (op_load_agg ag27 sz27 rfl rfl rfl) ?_ | refine TL_pure rfl rfl rfl rfl (op_load_arrN ag27 sz27 rfl rfl (by assumption) rfl rfl rfl) ?_
        refine TL_pure rfl rfl rfl rfl (op_move rfl) ?_
        refine TL_callF (c42 _ _ _ (by assumption) (by have := validB_bnd (rows := rows) (by assumption); omega) (wordB_spec (by assumption)).2) Try.call42 rfl rfl rfl rfl rfl ?_
        refine TL_pure rfl rfl rfl rfl (op_move rfl) ?_
        refine TL_pure rfl rfl rfl rfl (op_extract rfl rfl) ?_
        refine TL_pure rfl rfl rfl rfl (op_extract rfl rfl) ?_
        refine TL_pure rfl rfl rfl rfl (op_assign rfl) ?_
        refine TL_pure rfl rfl rfl rfl (op_assign rfl) ?_
        refine TL_nil ?_
        refine T_seq ?_
        refine T_region ?_
        refine TL_pure rfl rfl rfl rfl (op_move rfl) ?_
        refine TL_pure rfl rfl rfl rfl (op_move rfl) ?_
        refine TL_pure rfl rfl rfl rfl (op_assign rfl) ?_
        refine TL_pure rfl rfl rfl rfl (op_assign rfl) ?_
        refine TL_pure rfl rfl rfl rfl (op_assign rfl) ?_
        refine TL_nil ?_
        refine T_ret ?_
        refine ⟨[_, _, _], [], ⟨rfl, ⟨rfl, ⟨rfl, trivial⟩⟩⟩, ?_, rfl, rfl, rfl, rfl⟩
        try clear ih
        first | rfl | (simp only [resVal]; unfold runP; rw [if_pos (by grind)] <;> rfl) | (simp only [resVal]; unfold runP; rw [if_neg (by unfold wordB; grind)] <;> rfl)

theorem c5 (rows : List (List Int)) (xs : List Int) : ACall Try.prog 5 [.agg [aiss rows], ais xs] [] (.bool true) [] := by
  refine ACall.intro Try.func5 rfl Try.ntmps5 rfl (fun F hF => ?_)
  refine T_slLen 1 rfl (fun hlenx => ?_)
  have hLx : (xs.map ai).length = xs.length := List.length_map _
  rw [hLx] at hlenx
  refine T_seq ?_
  refine T_region ?_
  refine TL_box 11 rfl rfl rfl rfl rfl rfl rfl ?_
  refine TL_pure rfl rfl rfl rfl (op_assign rfl) ?_
  refine TL_nil ?_
  refine T_seq ?_
  refine T_seq ?_
  refine T_region ?_
  refine TL_pure rfl rfl rfl rfl (op_move rfl) ?_
  first | refine TL_pure rfl rfl rfl rfl (op_len_sl Try.underlying34 rfl) ?_ | refine TL_pure rfl rfl rfl rfl (op_len_ow Try.underlying34 rfl rfl) ?_ | refine TL_pure rfl rfl rfl rfl (op_len_snil Try.underlying34 rfl) ?_
  refine TL_pure rfl rfl rfl rfl (op_gtr rfl rfl) ?_
  refine TL_nil ?_
  refine T_cond rfl (fun hq => ?_) (fun hq => ?_)
  · try simp only [decide_eq_true_eq, decide_eq_false_iff_not, Bool.not_eq_true', Bool.not_eq_false', Bool.not_true, Bool.not_false, Bool.and_eq_true, Bool.or_eq_true, Bool.and_eq_false_iff, Bool.or_eq_false_iff] at hq
    have hq16 := hq
    refine T_seq ?_
    refine T_region ?_
    refine TL_pure rfl rfl rfl rfl (op_assign rfl) ?_
    refine TL_nil ?_
    refine T_ret ?_
    refine ⟨[_], [], ⟨rfl, trivial⟩, ?_, rfl, rfl, rfl, rfl⟩
    first | rfl | exact (hq rfl).elim | (exfalso; simp at hq; done)
  · try simp only [decide_eq_true_eq, decide_eq_false_iff_not, Bool.not_eq_true', Bool.not_eq_false', Bool.not_true, Bool.not_false, Bool.and_eq_true, Bool.or_eq_true, Bool.and_eq_false_iff, Bool.or_eq_false_iff] at hq
    have hq16 := hq
    refine T_skip ?_
    refine T_seq ?_
    refine T_region ?_
    refine TL_pure rfl rfl rfl rfl (op_assign rfl) ?_
    refine TL_nil ?_
    refine T_seq ?_
    refine T_region ?_
    first | refine TL_pure rfl rfl rfl rfl (op_load_agg ag24 sz24 rfl rfl rfl) ?_ | refine TL_pure rfl rfl rfl rfl (op_load_arrN ag24 sz24 rfl rfl (by assumption) rfl rfl rfl) ?_
    refine TL_pure rfl rfl rfl rfl (op_move rfl) ?_
    refine TL_callF (c9 _ _ (by omega) (by omega)) Try.call9 rfl rfl rfl rfl rfl ?_
    refine TL_pure rfl rfl rfl rfl (op_assign rfl) ?_
    refine TL_nil ?_
    refine T_seq ?_
    refine T_seq ?_
    refine T_region ?_
    refine TL_pure rfl rfl rfl rfl (op_move rfl) ?_
    refine TL_pure rfl rfl rfl rfl (op_lss rfl rfl) ?_
    refine TL_nil ?_
    refine T_cond rfl (fun hq => ?_) (fun hq => ?_)
    · try simp only [decide_eq_true_eq, decide_eq_false_iff_not, Bool.not_eq_true', Bool.not_eq_false', Bool.not_true, Bool.not_false, Bool.and_eq_true, Bool.or_eq_true, Bool.and_eq_false_iff, Bool.or_eq_false_iff] at hq
      have hq21 := hq
      refine T_seq ?_
      refine T_region ?_
      refine TL_pure rfl rfl rfl rfl (op_assign rfl) ?_
      refine TL_nil ?_
      refine T_ret ?_
      refine ⟨[_], [], ⟨rfl, trivial⟩, ?_, rfl, rfl, rfl, rfl⟩
      first | rfl | exact (hq rfl).elim | (exfalso; simp at hq; done)
    · try simp only [decide_eq_true_eq, decide_eq_false_iff_not, Bool.not_eq_true', Bool.not_eq_false', Bool.not_true, Bool.not_false, Bool.and_eq_true, Bool.or_eq_true, Bool.and_eq_false_iff, Bool.or_eq_false_iff] at hq
      have hq21 := hq
      refine T_skip ?_
      refine T_seq ?_
      refine T_region ?_
      obtain ⟨hr1, hr2⟩ := szSS0_le (xs := rows) (left := 1048576) (by omega)
      have hs : rows.length ≤ 1048576 := by omega
      have hrow : ∀ x ∈ rows, x.length ≤ 1048576 := fun x hx => by have := hr2 x hx; omega
      first | refine TL_pure rfl rfl rfl rfl (op_load_agg ag24 sz24 rfl rfl rfl) ?_ | refine TL_pure rfl rfl rfl rfl (op_load_arrN ag24 sz24 rfl rfl (by assumption) rfl rfl rfl) ?_
      refine TL_callT (c11 _ (by omega) (by assumption)) Try.call11 rfl rfl rfl rfl rfl ?_
      refine TL_pure rfl rfl rfl rfl (op_move rfl) ?_
      refine TL_callT (c17 _ (by omega)) Try.call17 rfl rfl rfl rfl rfl ?_
      refine TL_callF (c16 _ _ (by omega)) Try.call16 rfl rfl rfl rfl rfl ?_
      refine TL_pure rfl rfl rfl rfl (op_move rfl) ?_
      refine TL_pure rfl rfl rfl rfl (op_extract rfl rfl) ?_
      refine TL_pure rfl rfl rfl rfl (op_extract rfl rfl) ?_
      refine TL_pure rfl rfl rfl rfl (op_extract rfl rfl) ?_
      refine TL_pure rfl rfl rfl rfl (op_assign rfl) ?_
      refine TL_pure rfl rfl rfl rfl (op_assign rfl) ?_
      refine TL_pure rfl rfl rfl rfl (op_assign rfl) ?_
      refine TL_nil ?_
      refine T_seq ?_
      refine T_region ?_
      first | refine TL_pure rfl rfl rfl rfl (op_load_agg ag24 sz24 rfl rfl rfl) ?_ | refine TL_pure rfl rfl rfl rfl (op_load_arrN ag24 sz24 rfl rfl (by assumption) rfl rfl rfl) ?_
      refine TL_callT (c11 _ (by omega) (by assumption)) Try.call11 rfl rfl rfl rfl rfl ?_
      refine TL_alloc 12 z27 rfl rfl rfl rfl rfl rfl rfl ?_
      first | refine TL_store_box sz27 rfl rfl rfl rfl rfl rfl rfl rfl rfl ?_ | refine TL_store_elt sz27 rfl rfl (by first | omega | (simp; done) | (simp; omega)) rfl rfl rfl ?_ | refine TL_store_part sz27 rfl rfl (by assumption) rfl rfl rfl rfl rfl rfl rfl rfl ?_
      refine TL_nil ?_
      refine T_seq ?_
      refine T_region ?_
      refine TL_pure rfl rfl rfl rfl (op_move rfl) ?_
      refine TL_callT (c17 _ (by omega)) Try.call17 rfl rfl rfl rfl rfl ?_
      refine TL_pure rfl rfl rfl rfl (op_assign rfl) ?_
      refine TL_nil ?_
      refine T_seq ?_
      refine T_region ?_
      first | refine TL_pure rfl rfl rfl rfl (op_load_agg ag27 sz27 rfl rfl rfl) ?_ | refine TL_pure rfl rfl rfl rfl (op_load_arrN ag27 sz27 rfl rfl (by assumption) rfl rfl rfl) ?_
      refine TL_pure rfl rfl rfl rfl (op_move rfl) ?_
      refine TL_callF (c18 _ _ (by omega)) Try.call18 rfl rfl rfl rfl rfl ?_
      refine TL_pure rfl rfl rfl rfl (op_move rfl) ?_
      refine TL_pure rfl rfl rfl rfl (op_extract rfl rfl) ?_
      refine TL_pure rfl rfl rfl rfl (op_extract rfl rfl) ?_
      refine TL_pure rfl rfl rfl rfl (op_extract rfl rfl) ?_
      refine TL_pure rfl rfl rfl rfl (op_assign rfl) ?_
      refine TL_pure rfl rfl rfl rfl (op_assign rfl) ?_
      refine TL_pure rfl rfl rfl rfl (op_assign rfl) ?_
      refine TL_nil ?_
      refine T_seq ?_
      refine T_seq ?_
      refine T_region ?_
      refine TL_pure rfl rfl rfl rfl (op_move rfl) ?_
      refine TL_pure rfl rfl rfl rfl (op_move rfl) ?_
      refine TL_pure rfl rfl rfl rfl (op_neq rfl rfl) ?_
      refine TL_pure rfl rfl rfl rfl (op_move rfl) ?_
      refine TL_split 45 rfl rfl rfl (fun hq => ?_) (fun hq => ?_)
      · try simp only [decide_eq_true_eq, decide_eq_false_iff_not, Bool.not_eq_true', Bool.not_eq_false', Bool.not_true, Bool.not_false, Bool.and_eq_true, Bool.or_eq_true, Bool.and_eq_false_iff, Bool.or_eq_false_iff] at hq
        have hq45 := hq
        refine TL_pass rfl rfl rfl rfl rfl rfl rfl ?_
        refine TL_pass rfl rfl rfl rfl rfl rfl rfl ?_
        refine TL_pass rfl rfl rfl rfl rfl rfl rfl ?_
        refine TL_pure rfl rfl rfl rfl (op_pick_true rfl rfl) ?_
        refine TL_pure rfl rfl rfl rfl (op_move rfl) ?_
        refine TL_pass rfl rfl rfl rfl rfl rfl rfl ?_
        refine TL_pass rfl rfl rfl rfl rfl rfl rfl ?_
        refine TL_pass rfl rfl rfl rfl rfl rfl rfl ?_
        refine TL_pure rfl rfl rfl rfl (op_pick_true rfl rfl) ?_
        refine TL_nil ?_
        refine T_cond_true rfl ?_
        refine T_seq ?_
        refine T_region ?_
        refine TL_pure rfl rfl rfl rfl (op_assign rfl) ?_
        refine TL_nil ?_
        refine T_ret ?_
        refine ⟨[_], [], ⟨rfl, trivial⟩, ?_, rfl, rfl, rfl, rfl⟩
        first | rfl | exact (hq rfl).elim | (exfalso; simp at hq; done)
      · try simp only [decide_eq_true_eq, decide_eq_false_iff_not, Bool.not_eq_true', Bool.not_eq_false', Bool.not_true, Bool.not_false, Bool.and_eq_true, Bool.or_eq_true, Bool.and_eq_false_iff, Bool.or_eq_false_iff] at hq
        have hq45 := hq
        refine TL_want rfl rfl ?_
        refine TL_pure rfl rfl rfl rfl (op_move rfl) ?_
        refine TL_want rfl rfl ?_
        refine TL_pure rfl rfl rfl rfl (op_move rfl) ?_
        refine TL_want rfl rfl ?_
        refine TL_pure rfl rfl rfl rfl (op_neq rfl rfl) ?_
        refine TL_pure rfl rfl rfl rfl (op_pick_false rfl rfl) ?_
        refine TL_pure rfl rfl rfl rfl (op_move rfl) ?_
        refine TL_split 50 rfl rfl rfl (fun hq => ?_) (fun hq => ?_)
        · try simp only [decide_eq_true_eq, decide_eq_false_iff_not, Bool.not_eq_true', Bool.not_eq_false', Bool.not_true, Bool.not_false, Bool.and_eq_true, Bool.or_eq_true, Bool.and_eq_false_iff, Bool.or_eq_false_iff] at hq
          have hq50 := hq
          refine TL_pass rfl rfl rfl rfl rfl rfl rfl ?_
          refine TL_pass rfl rfl rfl rfl rfl rfl rfl ?_
          refine TL_pass rfl rfl rfl rfl rfl rfl rfl ?_
          refine TL_pure rfl rfl rfl rfl (op_pick_true rfl rfl) ?_
          refine TL_nil ?_
          refine T_cond_true rfl ?_
          refine T_seq ?_
          refine T_region ?_
          refine TL_pure rfl rfl rfl rfl (op_assign rfl) ?_
          refine TL_nil ?_
          refine T_ret ?_
          refine ⟨[_], [], ⟨rfl, trivial⟩, ?_, rfl, rfl, rfl, rfl⟩
          first | rfl | exact (hq rfl).elim | (exfalso; simp at hq; done)
        · try simp only [decide_eq_true_eq, decide_eq_false_iff_not, Bool.not_eq_true', Bool.not_eq_false', Bool.not_true, Bool.not_false, Bool.and_eq_true, Bool.or_eq_true, Bool.and_eq_false_iff, Bool.or_eq_false_iff] at hq
          have hq50 := hq
          refine TL_want rfl rfl ?_
          refine TL_pure rfl rfl rfl rfl (op_move rfl) ?_
          refine TL_want rfl rfl ?_
          refine TL_pure rfl rfl rfl rfl (op_move rfl) ?_
          refine TL_want rfl rfl ?_
          refine TL_pure rfl rfl rfl rfl (op_neqB Try.underlying4 rfl rfl) ?_
          refine TL_pure rfl rfl rfl rfl (op_pick_false rfl rfl) ?_
          refine TL_nil ?_
          refine T_cond rfl (fun hq => ?_) (fun hq => ?_)
          · try simp only [decide_eq_true_eq, decide_eq_false_iff_not, Bool.not_eq_true', Bool.not_eq_false', Bool.not_true, Bool.not_false, Bool.and_eq_true, Bool.or_eq_true, Bool.and_eq_false_iff, Bool.or_eq_false_iff] at hq
            have hq54 := hq
            refine T_seq ?_
            refine T_region ?_
            refine TL_pure rfl rfl rfl rfl (op_assign rfl) ?_
            refine TL_nil ?_
            refine T_ret ?_
            refine ⟨[_], [], ⟨rfl, trivial⟩, ?_, rfl, rfl, rfl, rfl⟩
            first | rfl | exact (hq rfl).elim | (exfalso; simp at hq; done)
          · try simp only [decide_eq_true_eq, decide_eq_false_iff_not, Bool.not_eq_true', Bool.not_eq_false', Bool.not_true, Bool.not_false, Bool.and_eq_true, Bool.or_eq_true, Bool.and_eq_false_iff, Bool.or_eq_false_iff] at hq
            have hq54 := hq
            refine T_skip ?_
            refine T_seq ?_
            refine T_seq ?_
            refine T_drawZ [] mix (by kernel_rfl) rfl ?_
            first | refine TZ_pure 0 (by kernel_rfl) rfl rfl rfl rfl rfl (op_load_agg ag27 sz27 rfl rfl rfl) ?_ | refine TZ_pure 0 (by kernel_rfl) rfl rfl rfl rfl rfl (op_load_arrN ag27 sz27 rfl rfl (by assumption) rfl rfl rfl) ?_
            first | refine TZ_pure 1 (by kernel_rfl) rfl rfl rfl rfl rfl (op_load_agg ag24 sz24 rfl rfl rfl) ?_ | refine TZ_pure 1 (by kernel_rfl) rfl rfl rfl rfl rfl (op_load_arrN ag24 sz24 rfl rfl (by assumption) rfl rfl rfl) ?_
            refine TZ_one 2 (by kernel_rfl) rfl ?_
            refine TL_callT (c11 _ (by omega) (by assumption)) Try.call11 rfl rfl rfl rfl rfl ?_
            refine TL_nil ?_
            refine TZ_one 3 (by kernel_rfl) rfl ?_
            refine TL_callF (c13 _ _) Try.call13 rfl rfl rfl rfl rfl ?_
            refine TL_nil ?_
            refine TZ_pure 4 (by kernel_rfl) rfl rfl rfl rfl rfl (op_not rfl) ?_
            refine TZ_done (by kernel_rfl) ?_
            refine T_cond rfl (fun hq => ?_) (fun hq => ?_)
            · try simp only [decide_eq_true_eq, decide_eq_false_iff_not, Bool.not_eq_true', Bool.not_eq_false', Bool.not_true, Bool.not_false, Bool.and_eq_true, Bool.or_eq_true, Bool.and_eq_false_iff, Bool.or_eq_false_iff] at hq
              have hq59 := hq
              refine T_seq ?_
              refine T_region ?_
              refine TL_pure rfl rfl rfl rfl (op_assign rfl) ?_
              refine TL_nil ?_
              refine T_ret ?_
              refine ⟨[_], [], ⟨rfl, trivial⟩, ?_, rfl, rfl, rfl, rfl⟩
              first | rfl | exact (hq rfl).elim | (exfalso; simp at hq; done)
            · try simp only [decide_eq_true_eq, decide_eq_false_iff_not, Bool.not_eq_true', Bool.not_eq_false', Bool.not_true, Bool.not_false, Bool.and_eq_true, Bool.or_eq_true, Bool.and_eq_false_iff, Bool.or_eq_false_iff] at hq
              have hq59 := hq
              refine T_skip ?_
              refine T_seq ?_
              refine T_seq ?_
              refine T_region ?_
              refine TL_pure rfl rfl rfl rfl (op_move rfl) ?_
              refine TL_pure rfl rfl rfl rfl (op_move rfl) ?_
              refine TL_callT (c17 _ (by omega)) Try.call17 rfl rfl rfl rfl rfl ?_
              refine TL_callF (c19 _ _) Try.call19 rfl rfl rfl rfl rfl ?_
              refine TL_pure rfl rfl rfl rfl (op_not rfl) ?_
              refine TL_nil ?_
              refine T_cond rfl (fun hq => ?_) (fun hq => ?_)
              · try simp only [decide_eq_true_eq, decide_eq_false_iff_not, Bool.not_eq_true', Bool.not_eq_false', Bool.not_true, Bool.not_false, Bool.and_eq_true, Bool.or_eq_true, Bool.and_eq_false_iff, Bool.or_eq_false_iff] at hq
                have hq64 := hq
                refine T_seq ?_
                refine T_region ?_
                refine TL_pure rfl rfl rfl rfl (op_assign rfl) ?_
                refine TL_nil ?_
                refine T_ret ?_
                refine ⟨[_], [], ⟨rfl, trivial⟩, ?_, rfl, rfl, rfl, rfl⟩
                first | rfl | exact (hq rfl).elim | (exfalso; simp at hq; done)
              · try simp only [decide_eq_true_eq, decide_eq_false_iff_not, Bool.not_eq_true', Bool.not_eq_false', Bool.not_true, Bool.not_false, Bool.and_eq_true, Bool.or_eq_true, Bool.and_eq_false_iff, Bool.or_eq_false_iff] at hq
                have hq64 := hq
                refine T_skip ?_
                refine T_seq ?_
                refine T_region ?_
                refine TL_pure rfl rfl rfl rfl (op_assign rfl) ?_
                refine TL_nil ?_
                refine T_ret ?_
                refine ⟨[_], [], ⟨rfl, trivial⟩, ?_, rfl, rfl, rfl, rfl⟩
                first | rfl | exact (hq rfl).elim | (exfalso; simp at hq; done)

end Go.Proofs.Pol
