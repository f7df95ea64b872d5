/- Walks over the policy seat, printed by wip/pol/mk.py. -/
import Derived.Test.YtejcidjaedahhaaPolD
namespace Go.Proofs.Pol
open Go Go.AM Go.Proofs
set_option linter.unusedVariables false
set_option linter.unusedSimpArgs false
set_option maxRecDepth 100000


def rowB (n : Int) (r : List Int) : Bool := decide ((r.length : Int) = 4) && r.all (fun k => decide (-1 ≤ k) && decide (k ≤ n - 1))
def validB (rows : List (List Int)) : Bool := decide (1 ≤ (rows.length : Int)) && decide ((rows.length : Int) ≤ 12) && rows.all (rowB rows.length)
theorem validB_bad {rows : List (List Int)} {x : List Int} (hm : x ∈ rows) (h : rowB rows.length x = false) : validB rows = false := by
  unfold validB
  rw [Bool.and_eq_false_iff]
  right
  rw [List.all_eq_false]
  exact ⟨x, hm, by rw [h]; decide⟩
theorem validB_len {rows : List (List Int)} (h : ¬ (1 ≤ (rows.length : Int)) ∨ ¬ ((rows.length : Int) ≤ 12)) : validB rows = false := by
  unfold validB; grind
theorem rowB_len {n : Int} {x : List Int} (h : ¬ ((x.length : Int) = 4)) : rowB n x = false := by
  unfold rowB; simp [h]
theorem rowB_elt {n : Int} {x : List Int} {k : Int} (hk : k ∈ x) (h : (decide (-1 ≤ k) && decide (k ≤ n - 1)) = false) : rowB n x = false := by
  unfold rowB
  rw [Bool.and_eq_false_iff]
  right
  rw [List.all_eq_false]
  exact ⟨k, hk, by rw [h]; decide⟩
theorem validB_true {rows : List (List Int)} (h1 : 1 ≤ (rows.length : Int)) (h2 : (rows.length : Int) ≤ 12) (h3 : rows.all (rowB rows.length) = true) : validB rows = true := by
  unfold validB; simp [h3]; omega

theorem c30 (rows : List (List Int)) (hlen : rows.length ≤ 1048576) : ACall Try.prog 30 [.cp [aiss rows]] [] (.bool (validB rows)) [] := by
  refine ACall.intro Try.func30 rfl Try.ntmps30 rfl (fun F hF => ?_)
  have hL : (rows.map ais).length = rows.length := List.length_map _
  refine T_seq ?_
  refine T_region ?_
  refine TL_pure rfl rfl rfl rfl (op_assign rfl) ?_
  refine TL_nil ?_
  refine T_seq ?_
  refine T_region ?_
  refine TL_pure rfl rfl rfl rfl (op_move rfl) ?_
  refine TL_pure rfl rfl rfl rfl (op_nilCheck rfl rfl) ?_
  refine TL_pure rfl rfl rfl rfl (op_fieldAddr fa27_0 rfl rfl) ?_
  first | refine TL_pure rfl rfl rfl rfl (op_load_one ag22 rfl rfl) ?_ | refine TL_pure rfl rfl rfl rfl (op_load_arr1 ag22 rfl rfl (by assumption) rfl rfl) ?_
  first | refine TL_pure rfl rfl rfl rfl (op_len_sl Try.underlying22 rfl) ?_ | refine TL_pure rfl rfl rfl rfl (op_len_ow Try.underlying22 rfl rfl) ?_ | refine TL_pure rfl rfl rfl rfl (op_len_snil Try.underlying22 rfl) ?_
  refine TL_pure rfl rfl rfl rfl (op_assign rfl) ?_
  refine TL_nil ?_
  refine T_seq ?_
  refine T_seq ?_
  refine T_region ?_
  refine TL_pure rfl rfl rfl rfl (op_move rfl) ?_
  refine TL_callF (c36 _ _ _) Try.call36 rfl rfl rfl rfl rfl ?_
  refine TL_pure rfl rfl rfl rfl (op_not rfl) ?_
  refine TL_nil ?_
  refine T_cond rfl (fun hq => ?_) (fun hq => ?_)
  · try simp only [decide_eq_true_eq, decide_eq_false_iff_not, Bool.not_eq_true', Bool.not_eq_false', Bool.not_true, Bool.not_false, Bool.and_eq_true, Bool.or_eq_true, Bool.and_eq_false_iff, Bool.or_eq_false_iff] at hq
    have hq13 := hq
    refine T_seq ?_
    refine T_region ?_
    refine TL_pure rfl rfl rfl rfl (op_assign rfl) ?_
    refine TL_nil ?_
    refine T_ret ?_
    refine ⟨[_], [], ⟨rfl, trivial⟩, ?_, rfl, rfl, rfl, rfl⟩
    try clear ih
    first | rfl | (simp only [resVal]; congr 1; symm; exact validB_len (by omega)) | (simp only [resVal]; congr 1; symm; exact validB_len (by rw [hL] at hq; omega)) | (simp only [resVal]; congr 1; symm; simp only [List.append_nil] at hx; subst hx; exact validB_true (by omega) (by omega) hI) | (simp only [resVal]; congr 1; symm; exact validB_bad (x := x) (by simp [hx]) (rowB_len (by omega))) | (simp only [resVal]; congr 1; symm; exact validB_bad (x := x) (by simp [hx]) (rowB_elt (k := x2) (by simp [hx2]) (by grind))) | (simp only [resVal]; congr 1; symm; refine validB_bad (x := x) (by simp [hx]) ?_; unfold rowB; grind)
  · try simp only [decide_eq_true_eq, decide_eq_false_iff_not, Bool.not_eq_true', Bool.not_eq_false', Bool.not_true, Bool.not_false, Bool.and_eq_true, Bool.or_eq_true, Bool.and_eq_false_iff, Bool.or_eq_false_iff] at hq
    have hq13 := hq
    refine T_skip ?_
    refine T_seq ?_
    refine T_seq ?_
    refine T_region ?_
    refine TL_pure rfl rfl rfl rfl (op_assign rfl) ?_
    refine TL_nil ?_
    refine T_block ?_
    refine T_loop ?_
    refine TR_keep [0, 2, 3, 4] rfl ?_
    refine TR_cast (at0 rows (fun pre suf => ⟨[(0, .cp [aiss rows]), (2, .bool false), (3, .int .i64 rows.length), (4, .int .i64 pre.length)], []⟩)) (by simp only [at0]; simp) ?_
    refine TR_list rows (fun pre suf => ⟨[(0, .cp [aiss rows]), (2, .bool false), (3, .int .i64 rows.length), (4, .int .i64 pre.length)], []⟩) (fun pre => pre.all (rowB rows.length) = true) (rfl) ?_
    intro pre suf hx hI ih
    rcases suf with _ | ⟨x, r⟩
    · have hl : pre.length = rows.length := by simp [hx]
      refine T_seq ?_
      refine T_seq ?_
      refine T_region ?_
      refine TL_pure rfl rfl rfl rfl (op_move rfl) ?_
      refine TL_pure rfl rfl rfl rfl (op_move rfl) ?_
      refine TL_pure rfl rfl rfl rfl (op_lss rfl rfl) ?_
      refine TL_nil ?_
      refine T_if_false rfl (by first | (rw [decide_eq_true_eq]; omega) | (rw [decide_eq_false_iff_not]; omega) | (simp [hx]; done) | (simp [hx]; omega)) ?_
      refine T_exit ?_
      refine T_seq ?_
      refine T_region ?_
      refine TL_pure rfl rfl rfl rfl (op_assign rfl) ?_
      refine TL_nil ?_
      refine T_ret ?_
      refine ⟨[_], [], ⟨rfl, trivial⟩, ?_, rfl, rfl, rfl, rfl⟩
      try clear ih
      first | rfl | (simp only [resVal]; congr 1; symm; exact validB_len (by omega)) | (simp only [resVal]; congr 1; symm; exact validB_len (by rw [hL] at hq; omega)) | (simp only [resVal]; congr 1; symm; simp only [List.append_nil] at hx; subst hx; exact validB_true (by omega) (by omega) hI) | (simp only [resVal]; congr 1; symm; exact validB_bad (x := x) (by simp [hx]) (rowB_len (by omega))) | (simp only [resVal]; congr 1; symm; exact validB_bad (x := x) (by simp [hx]) (rowB_elt (k := x2) (by simp [hx2]) (by grind))) | (simp only [resVal]; congr 1; symm; refine validB_bad (x := x) (by simp [hx]) ?_; unfold rowB; grind)
    · have hl : pre.length + (r.length + 1) = rows.length := by simp [hx]
      have he : (rows.map ais)[pre.length]? = some (ais x) := by simp [hx]
      have hLx : (x.map ai).length = x.length := List.length_map _
      refine T_seq ?_
      refine T_seq ?_
      refine T_region ?_
      refine TL_pure rfl rfl rfl rfl (op_move rfl) ?_
      refine TL_pure rfl rfl rfl rfl (op_move rfl) ?_
      refine TL_pure rfl rfl rfl rfl (op_lss rfl rfl) ?_
      refine TL_nil ?_
      refine T_if_true rfl (by first | (rw [decide_eq_true_eq]; omega) | (rw [decide_eq_false_iff_not]; omega) | (simp [hx]; done) | (simp [hx]; omega)) ?_
      refine T_skip ?_
      refine T_seq ?_
      refine T_block ?_
      refine T_seq ?_
      refine T_seq ?_
      refine T_region ?_
      refine TL_pure rfl rfl rfl rfl (op_move rfl) ?_
      refine TL_pure rfl rfl rfl rfl (op_nilCheck rfl rfl) ?_
      refine TL_pure rfl rfl rfl rfl (op_fieldAddr fa27_0 rfl rfl) ?_
      first | refine TL_pure rfl rfl rfl rfl (op_load_one ag22 rfl rfl) ?_ | refine TL_pure rfl rfl rfl rfl (op_load_arr1 ag22 rfl rfl (by assumption) rfl rfl) ?_
      refine TL_pure rfl rfl rfl rfl (op_move rfl) ?_
      first | refine TL_pure rfl rfl rfl rfl (op_index_sl el22 rfl rfl rfl (by assumption) rfl) ?_ | refine TL_pure rfl rfl rfl rfl (op_index_ow el22 rfl rfl rfl rfl (by first | omega | (simp; done) | (simp; omega))) ?_
      first | refine TL_pure rfl rfl rfl rfl (op_load_one ag34 rfl rfl) ?_ | refine TL_pure rfl rfl rfl rfl (op_load_arr1 ag34 rfl rfl (by assumption) rfl rfl) ?_
      first | refine TL_pure rfl rfl rfl rfl (op_len_sl Try.underlying34 rfl) ?_ | refine TL_pure rfl rfl rfl rfl (op_len_ow Try.underlying34 rfl rfl) ?_ | refine TL_pure rfl rfl rfl rfl (op_len_snil Try.underlying34 rfl) ?_
      refine TL_pure rfl rfl rfl rfl (op_neq rfl rfl) ?_
      refine TL_nil ?_
      refine T_cond rfl (fun hq => ?_) (fun hq => ?_)
      · try simp only [decide_eq_true_eq, decide_eq_false_iff_not, Bool.not_eq_true', Bool.not_eq_false', Bool.not_true, Bool.not_false, Bool.and_eq_true, Bool.or_eq_true, Bool.and_eq_false_iff, Bool.or_eq_false_iff] at hq
        have hq27 := hq
        refine T_seq ?_
        refine T_region ?_
        refine TL_pure rfl rfl rfl rfl (op_assign rfl) ?_
        refine TL_nil ?_
        refine T_ret ?_
        refine ⟨[_], [], ⟨rfl, trivial⟩, ?_, rfl, rfl, rfl, rfl⟩
        try clear ih
        first | rfl | (simp only [resVal]; congr 1; symm; exact validB_len (by omega)) | (simp only [resVal]; congr 1; symm; exact validB_len (by rw [hL] at hq; omega)) | (simp only [resVal]; congr 1; symm; simp only [List.append_nil] at hx; subst hx; exact validB_true (by omega) (by omega) hI) | (simp only [resVal]; congr 1; symm; exact validB_bad (x := x) (by simp [hx]) (rowB_len (by omega))) | (simp only [resVal]; congr 1; symm; exact validB_bad (x := x) (by simp [hx]) (rowB_elt (k := x2) (by simp [hx2]) (by grind))) | (simp only [resVal]; congr 1; symm; refine validB_bad (x := x) (by simp [hx]) ?_; unfold rowB; grind)
      · try simp only [decide_eq_true_eq, decide_eq_false_iff_not, Bool.not_eq_true', Bool.not_eq_false', Bool.not_true, Bool.not_false, Bool.and_eq_true, Bool.or_eq_true, Bool.and_eq_false_iff, Bool.or_eq_false_iff] at hq
        have hq27 := hq
        refine T_skip ?_
        refine T_seq ?_
        refine T_region ?_
        refine TL_pure rfl rfl rfl rfl (op_assign rfl) ?_
        refine TL_nil ?_
        refine T_block ?_
        refine T_loop ?_
        refine TR_keep [0, 2, 3, 4, 5] rfl ?_
        refine TR_list x (fun pre2 suf2 => ⟨[(0, .cp [aiss rows]), (2, .bool false), (3, .int .i64 rows.length), (4, .int .i64 pre.length), (5, .int .i64 pre2.length)], []⟩) (fun pre2 => pre2.all (fun k => decide (-1 ≤ k) && decide (k ≤ (rows.length : Int) - 1)) = true) (rfl) ?_
        intro pre2 suf2 hx2 hI2 ih2
        rcases suf2 with _ | ⟨x2, r2⟩
        · have hl2 : pre2.length = x.length := by simp [hx2]
          refine T_seq ?_
          refine T_seq ?_
          refine T_region ?_
          refine TL_pure rfl rfl rfl rfl (op_move rfl) ?_
          refine TL_pure rfl rfl rfl rfl (op_lss rfl rfl) ?_
          refine TL_nil ?_
          refine T_if_false rfl (by first | (rw [decide_eq_true_eq]; omega) | (rw [decide_eq_false_iff_not]; omega) | (simp [hx2]; done) | (simp [hx2]; omega)) ?_
          refine T_exit ?_
          refine T_region ?_
          refine TL_pure rfl rfl rfl rfl (op_move rfl) ?_
          refine TL_pure rfl rfl rfl rfl (op_add64 rfl rfl (by omega)) ?_
          refine TL_pure rfl rfl rfl rfl (op_assign rfl) ?_
          refine TL_nil ?_
          refine TR_keep [0, 2, 3, 4] rfl ?_
          simp only [List.append_nil] at hx2
          subst hx2
          exact ih _ r rfl (by rw [List.all_append, hI]; simp only [List.all_cons, List.all_nil, rowB, hI2]; simp; omega) _ (by simp)
        · have hl2 : pre2.length + (r2.length + 1) = x.length := by simp [hx2]
          have he2 : (x.map ai)[pre2.length]? = some (ai x2) := by simp [hx2]
          refine T_seq ?_
          refine T_seq ?_
          refine T_region ?_
          refine TL_pure rfl rfl rfl rfl (op_move rfl) ?_
          refine TL_pure rfl rfl rfl rfl (op_lss rfl rfl) ?_
          refine TL_nil ?_
          refine T_if_true rfl (by first | (rw [decide_eq_true_eq]; omega) | (rw [decide_eq_false_iff_not]; omega) | (simp [hx2]; done) | (simp [hx2]; omega)) ?_
          refine T_skip ?_
          refine T_seq ?_
          refine T_block ?_
          refine T_seq ?_
          refine T_region ?_
          refine TL_pure rfl rfl rfl rfl (op_move rfl) ?_
          refine TL_pure rfl rfl rfl rfl (op_nilCheck rfl rfl) ?_
          refine TL_pure rfl rfl rfl rfl (op_fieldAddr fa27_0 rfl rfl) ?_
          first | refine TL_pure rfl rfl rfl rfl (op_load_one ag22 rfl rfl) ?_ | refine TL_pure rfl rfl rfl rfl (op_load_arr1 ag22 rfl rfl (by assumption) rfl rfl) ?_
          refine TL_pure rfl rfl rfl rfl (op_move rfl) ?_
          first | refine TL_pure rfl rfl rfl rfl (op_index_sl el22 rfl rfl rfl (by assumption) rfl) ?_ | refine TL_pure rfl rfl rfl rfl (op_index_ow el22 rfl rfl rfl rfl (by first | omega | (simp; done) | (simp; omega))) ?_
          first | refine TL_pure rfl rfl rfl rfl (op_load_one ag34 rfl rfl) ?_ | refine TL_pure rfl rfl rfl rfl (op_load_arr1 ag34 rfl rfl (by assumption) rfl rfl) ?_
          refine TL_pure rfl rfl rfl rfl (op_move rfl) ?_
          first | refine TL_pure rfl rfl rfl rfl (op_index_sl el34 rfl rfl rfl (by assumption) rfl) ?_ | refine TL_pure rfl rfl rfl rfl (op_index_ow el34 rfl rfl rfl rfl (by first | omega | (simp; done) | (simp; omega))) ?_
          first | refine TL_pure rfl rfl rfl rfl (op_load_one ag2 rfl rfl) ?_ | refine TL_pure rfl rfl rfl rfl (op_load_arr1 ag2 rfl rfl (by assumption) rfl rfl) ?_
          refine TL_pure rfl rfl rfl rfl (op_move rfl) ?_
          refine TL_pure rfl rfl rfl rfl (op_sub64 rfl rfl (by omega)) ?_
          refine TL_callF (c36 _ _ _) Try.call36 rfl rfl rfl rfl rfl ?_
          refine TL_pure rfl rfl rfl rfl (op_not rfl) ?_
          refine TL_nil ?_
          refine T_cond rfl (fun hq => ?_) (fun hq => ?_)
          · try simp only [decide_eq_true_eq, decide_eq_false_iff_not, Bool.not_eq_true', Bool.not_eq_false', Bool.not_true, Bool.not_false, Bool.and_eq_true, Bool.or_eq_true, Bool.and_eq_false_iff, Bool.or_eq_false_iff] at hq
            have hq45 := hq
            refine T_seq ?_
            refine T_region ?_
            refine TL_pure rfl rfl rfl rfl (op_assign rfl) ?_
            refine TL_nil ?_
            refine T_ret ?_
            refine ⟨[_], [], ⟨rfl, trivial⟩, ?_, rfl, rfl, rfl, rfl⟩
            try clear ih
            first | rfl | (simp only [resVal]; congr 1; symm; exact validB_len (by omega)) | (simp only [resVal]; congr 1; symm; exact validB_len (by rw [hL] at hq; omega)) | (simp only [resVal]; congr 1; symm; simp only [List.append_nil] at hx; subst hx; exact validB_true (by omega) (by omega) hI) | (simp only [resVal]; congr 1; symm; exact validB_bad (x := x) (by simp [hx]) (rowB_len (by omega))) | (simp only [resVal]; congr 1; symm; exact validB_bad (x := x) (by simp [hx]) (rowB_elt (k := x2) (by simp [hx2]) (by grind))) | (simp only [resVal]; congr 1; symm; refine validB_bad (x := x) (by simp [hx]) ?_; unfold rowB; grind)
          · try simp only [decide_eq_true_eq, decide_eq_false_iff_not, Bool.not_eq_true', Bool.not_eq_false', Bool.not_true, Bool.not_false, Bool.and_eq_true, Bool.or_eq_true, Bool.and_eq_false_iff, Bool.or_eq_false_iff] at hq
            have hq45 := hq
            refine T_skip ?_
            refine T_region ?_
            refine TL_pure rfl rfl rfl rfl (op_move rfl) ?_
            refine TL_pure rfl rfl rfl rfl (op_add64 rfl rfl (by omega)) ?_
            refine TL_pure rfl rfl rfl rfl (op_assign rfl) ?_
            refine TL_nil ?_
            refine TR_keep [0, 2, 3, 4, 5] rfl ?_
            exact ih2 x2 r2 rfl (by rw [List.all_append, hI2]; simp; omega) _ (by simp)

theorem c10 (rows : List (List Int)) (hlen : rows.length ≤ 1048576) : ACall Try.prog 10 [.agg [aiss rows]] [] (.bool (validB rows)) [] := by
  refine ACall.intro Try.func10 rfl Try.ntmps10 rfl (fun F hF => ?_)
  refine T_seq ?_
  refine T_region ?_
  refine TL_box 11 rfl rfl rfl rfl rfl rfl rfl ?_
  refine TL_pure rfl rfl rfl rfl (op_assign rfl) ?_
  refine TL_nil ?_
  refine T_seq ?_
  refine T_region ?_
  refine TL_callF (c30 _ (by omega)) Try.call30 rfl rfl rfl rfl rfl ?_
  refine TL_pure rfl rfl rfl rfl (op_assign rfl) ?_
  refine TL_nil ?_
  refine T_ret ?_
  refine ⟨[_], [], ⟨rfl, trivial⟩, ?_, rfl, rfl, rfl, rfl⟩
  try clear ih
  first | rfl 

theorem c12 (rows : List (List Int)) (hlen : rows.length ≤ 1048576) : ACall Try.prog 12 [.agg [aiss rows]] [] (.bool (validB rows)) [] := by
  refine ACall.intro Try.func12 rfl Try.ntmps12 rfl (fun F hF => ?_)
  have hL : (rows.map ais).length = rows.length := List.length_map _
  refine T_seq ?_
  refine T_region ?_
  refine TL_box 11 rfl rfl rfl rfl rfl rfl rfl ?_
  refine TL_pure rfl rfl rfl rfl (op_assign rfl) ?_
  refine TL_nil ?_
  refine T_seq ?_
  refine T_region ?_
  refine TL_pure rfl rfl rfl rfl (op_fieldAddr fa27_0 rfl rfl) ?_
  first | refine TL_pure rfl rfl rfl rfl (op_load_one ag22 rfl rfl) ?_ | refine TL_pure rfl rfl rfl rfl (op_load_arr1 ag22 rfl rfl (by assumption) rfl rfl) ?_
  first | refine TL_pure rfl rfl rfl rfl (op_len_sl Try.underlying22 rfl) ?_ | refine TL_pure rfl rfl rfl rfl (op_len_ow Try.underlying22 rfl rfl) ?_ | refine TL_pure rfl rfl rfl rfl (op_len_snil Try.underlying22 rfl) ?_
  refine TL_callF (c32 _) Try.call32 rfl rfl rfl rfl rfl ?_
  refine TL_pure rfl rfl rfl rfl (op_assign rfl) ?_
  refine TL_nil ?_
  refine T_seq ?_
  refine T_seq ?_
  refine T_region ?_
  refine TL_pure rfl rfl rfl rfl (op_move rfl) ?_
  refine TL_callF (c33 _ _ _) Try.call33 rfl rfl rfl rfl rfl ?_
  refine TL_pure rfl rfl rfl rfl (op_not rfl) ?_
  refine TL_nil ?_
  refine T_cond rfl (fun hq => ?_) (fun hq => ?_)
  · try simp only [decide_eq_true_eq, decide_eq_false_iff_not, Bool.not_eq_true', Bool.not_eq_false', Bool.not_true, Bool.not_false, Bool.and_eq_true, Bool.or_eq_true, Bool.and_eq_false_iff, Bool.or_eq_false_iff] at hq
    have hq12 := hq
    refine T_seq ?_
    refine T_region ?_
    refine TL_pure rfl rfl rfl rfl (op_assign rfl) ?_
    refine TL_nil ?_
    refine T_ret ?_
    refine ⟨[_], [], ⟨rfl, trivial⟩, ?_, rfl, rfl, rfl, rfl⟩
    try clear ih
    first | rfl | (simp only [resVal]; congr 1; symm; exact validB_len (by omega)) | (simp only [resVal]; congr 1; symm; exact validB_len (by rw [hL] at hq; omega)) | (simp only [resVal]; congr 1; symm; simp only [List.append_nil] at hx; subst hx; exact validB_true (by omega) (by omega) hI) | (simp only [resVal]; congr 1; symm; exact validB_bad (x := x) (by simp [hx]) (rowB_len (by omega))) | (simp only [resVal]; congr 1; symm; exact validB_bad (x := x) (by simp [hx]) (rowB_elt (k := x2) (by simp [hx2]) (by grind))) | (simp only [resVal]; congr 1; symm; refine validB_bad (x := x) (by simp [hx]) ?_; unfold rowB; grind)
  · try simp only [decide_eq_true_eq, decide_eq_false_iff_not, Bool.not_eq_true', Bool.not_eq_false', Bool.not_true, Bool.not_false, Bool.and_eq_true, Bool.or_eq_true, Bool.and_eq_false_iff, Bool.or_eq_false_iff] at hq
    have hq12 := hq
    refine T_skip ?_
    refine T_seq ?_
    refine T_seq ?_
    refine T_region ?_
    refine TL_pure rfl rfl rfl rfl (op_fieldAddr fa27_0 rfl rfl) ?_
    first | refine TL_pure rfl rfl rfl rfl (op_load_one ag22 rfl rfl) ?_ | refine TL_pure rfl rfl rfl rfl (op_load_arr1 ag22 rfl rfl (by assumption) rfl rfl) ?_
    first | refine TL_pure rfl rfl rfl rfl (op_len_sl Try.underlying22 rfl) ?_ | refine TL_pure rfl rfl rfl rfl (op_len_ow Try.underlying22 rfl rfl) ?_ | refine TL_pure rfl rfl rfl rfl (op_len_snil Try.underlying22 rfl) ?_
    refine TL_pure rfl rfl rfl rfl (op_move rfl) ?_
    refine TL_nil ?_
    refine T_block ?_
    refine T_loop ?_
    refine TR_keep [2, 3, 14, 15, 16] rfl ?_
    refine TR_cast (at0 rows (fun pre suf => ⟨[(2, .bool false), (3, .int .i64 rows.length), (14, aiss rows), (15, .int .i64 rows.length), (16, .int .i64 pre.length)], [(11, .box [aiss rows])]⟩)) (by simp only [at0]; simp) ?_
    refine TR_list rows (fun pre suf => ⟨[(2, .bool false), (3, .int .i64 rows.length), (14, aiss rows), (15, .int .i64 rows.length), (16, .int .i64 pre.length)], [(11, .box [aiss rows])]⟩) (fun pre => pre.all (rowB rows.length) = true) (rfl) ?_
    intro pre suf hx hI ih
    rcases suf with _ | ⟨x, r⟩
    · have hl : pre.length = rows.length := by simp [hx]
      refine T_seq ?_
      refine T_region ?_
      refine TL_pure rfl rfl rfl rfl (op_lss rfl rfl) ?_
      refine TL_nil ?_
      refine T_seq ?_
      refine T_if_false rfl (by first | (rw [decide_eq_true_eq]; omega) | (rw [decide_eq_false_iff_not]; omega) | (simp [hx]; done) | (simp [hx]; omega)) ?_
      refine T_exit ?_
      refine T_seq ?_
      refine T_region ?_
      refine TL_pure rfl rfl rfl rfl (op_assign rfl) ?_
      refine TL_nil ?_
      refine T_ret ?_
      refine ⟨[_], [], ⟨rfl, trivial⟩, ?_, rfl, rfl, rfl, rfl⟩
      try clear ih
      first | rfl | (simp only [resVal]; congr 1; symm; exact validB_len (by omega)) | (simp only [resVal]; congr 1; symm; exact validB_len (by rw [hL] at hq; omega)) | (simp only [resVal]; congr 1; symm; simp only [List.append_nil] at hx; subst hx; exact validB_true (by omega) (by omega) hI) | (simp only [resVal]; congr 1; symm; exact validB_bad (x := x) (by simp [hx]) (rowB_len (by omega))) | (simp only [resVal]; congr 1; symm; exact validB_bad (x := x) (by simp [hx]) (rowB_elt (k := x2) (by simp [hx2]) (by grind))) | (simp only [resVal]; congr 1; symm; refine validB_bad (x := x) (by simp [hx]) ?_; unfold rowB; grind)
    · have hl : pre.length + (r.length + 1) = rows.length := by simp [hx]
      have he : (rows.map ais)[pre.length]? = some (ais x) := by simp [hx]
      have hLx : (x.map ai).length = x.length := List.length_map _
      refine T_seq ?_
      refine T_region ?_
      refine TL_pure rfl rfl rfl rfl (op_lss rfl rfl) ?_
      refine TL_nil ?_
      refine T_seq ?_
      refine T_if_true rfl (by first | (rw [decide_eq_true_eq]; omega) | (rw [decide_eq_false_iff_not]; omega) | (simp [hx]; done) | (simp [hx]; omega)) ?_
      refine T_skip ?_
      refine T_seq ?_
      refine T_block ?_
      refine T_seq ?_
      refine T_region ?_
      first | refine TL_pure rfl rfl rfl rfl (op_index_sl el22 rfl rfl rfl (by assumption) rfl) ?_ | refine TL_pure rfl rfl rfl rfl (op_index_ow el22 rfl rfl rfl rfl (by first | omega | (simp; done) | (simp; omega))) ?_
      first | refine TL_pure rfl rfl rfl rfl (op_load_one ag34 rfl rfl) ?_ | refine TL_pure rfl rfl rfl rfl (op_load_arr1 ag34 rfl rfl (by assumption) rfl rfl) ?_
      refine TL_pure rfl rfl rfl rfl (op_assign rfl) ?_
      refine TL_nil ?_
      refine T_seq ?_
      refine T_region ?_
      refine TL_pure rfl rfl rfl rfl (op_move rfl) ?_
      first | refine TL_pure rfl rfl rfl rfl (op_len_sl Try.underlying34 rfl) ?_ | refine TL_pure rfl rfl rfl rfl (op_len_ow Try.underlying34 rfl rfl) ?_ | refine TL_pure rfl rfl rfl rfl (op_len_snil Try.underlying34 rfl) ?_
      refine TL_pure rfl rfl rfl rfl (op_neq rfl rfl) ?_
      refine TL_pure rfl rfl rfl rfl (op_move rfl) ?_
      refine TL_split 23 rfl rfl rfl (fun hq => ?_) (fun hq => ?_)
      · try simp only [decide_eq_true_eq, decide_eq_false_iff_not, Bool.not_eq_true', Bool.not_eq_false', Bool.not_true, Bool.not_false, Bool.and_eq_true, Bool.or_eq_true, Bool.and_eq_false_iff, Bool.or_eq_false_iff] at hq
        have hq23 := hq
        refine TL_pass rfl rfl rfl rfl rfl rfl rfl ?_
        refine TL_pass rfl rfl rfl rfl rfl rfl rfl ?_
        refine TL_pass rfl rfl rfl rfl rfl rfl rfl ?_
        refine TL_pass rfl rfl rfl rfl rfl rfl rfl ?_
        refine TL_pass rfl rfl rfl rfl rfl rfl rfl ?_
        refine TL_pure rfl rfl rfl rfl (op_pick_true rfl rfl) ?_
        refine TL_nil ?_
        refine T_cond_true rfl ?_
        refine T_seq ?_
        refine T_region ?_
        refine TL_pure rfl rfl rfl rfl (op_assign rfl) ?_
        refine TL_nil ?_
        refine T_ret ?_
        refine ⟨[_], [], ⟨rfl, trivial⟩, ?_, rfl, rfl, rfl, rfl⟩
        try clear ih
        first | rfl | (simp only [resVal]; congr 1; symm; exact validB_len (by omega)) | (simp only [resVal]; congr 1; symm; exact validB_len (by rw [hL] at hq; omega)) | (simp only [resVal]; congr 1; symm; simp only [List.append_nil] at hx; subst hx; exact validB_true (by omega) (by omega) hI) | (simp only [resVal]; congr 1; symm; exact validB_bad (x := x) (by simp [hx]) (rowB_len (by omega))) | (simp only [resVal]; congr 1; symm; exact validB_bad (x := x) (by simp [hx]) (rowB_elt (k := x2) (by simp [hx2]) (by grind))) | (simp only [resVal]; congr 1; symm; refine validB_bad (x := x) (by simp [hx]) ?_; unfold rowB; grind)
      · try simp only [decide_eq_true_eq, decide_eq_false_iff_not, Bool.not_eq_true', Bool.not_eq_false', Bool.not_true, Bool.not_false, Bool.and_eq_true, Bool.or_eq_true, Bool.and_eq_false_iff, Bool.or_eq_false_iff] at hq
        have hq23 := hq
        refine TL_want rfl rfl ?_
        refine TL_pure rfl rfl rfl rfl (op_move rfl) ?_
        refine TL_want rfl rfl ?_
        refine TL_pure rfl rfl rfl rfl (op_move rfl) ?_
        refine TL_want rfl rfl ?_
        refine TL_pure rfl rfl rfl rfl (op_sub64 rfl rfl (by omega)) ?_
        refine TL_want rfl rfl ?_
        refine TL_callF (c34 _ _ _) Try.call34 rfl rfl rfl rfl rfl ?_
        refine TL_want rfl rfl ?_
        refine TL_pure rfl rfl rfl rfl (op_not rfl) ?_
        refine TL_pure rfl rfl rfl rfl (op_pick_false rfl rfl) ?_
        refine TL_nil ?_
        refine T_cond rfl (fun hq => ?_) (fun hq => ?_)
        · try simp only [decide_eq_true_eq, decide_eq_false_iff_not, Bool.not_eq_true', Bool.not_eq_false', Bool.not_true, Bool.not_false, Bool.and_eq_true, Bool.or_eq_true, Bool.and_eq_false_iff, Bool.or_eq_false_iff] at hq
          have hq29 := hq
          refine T_seq ?_
          refine T_region ?_
          refine TL_pure rfl rfl rfl rfl (op_assign rfl) ?_
          refine TL_nil ?_
          refine T_ret ?_
          refine ⟨[_], [], ⟨rfl, trivial⟩, ?_, rfl, rfl, rfl, rfl⟩
          try clear ih
          first | rfl | (simp only [resVal]; congr 1; symm; exact validB_len (by omega)) | (simp only [resVal]; congr 1; symm; exact validB_len (by rw [hL] at hq; omega)) | (simp only [resVal]; congr 1; symm; simp only [List.append_nil] at hx; subst hx; exact validB_true (by omega) (by omega) hI) | (simp only [resVal]; congr 1; symm; exact validB_bad (x := x) (by simp [hx]) (rowB_len (by omega))) | (simp only [resVal]; congr 1; symm; exact validB_bad (x := x) (by simp [hx]) (rowB_elt (k := x2) (by simp [hx2]) (by grind))) | (simp only [resVal]; congr 1; symm; refine validB_bad (x := x) (by simp [hx]) ?_; unfold rowB; grind)
        · try simp only [decide_eq_true_eq, decide_eq_false_iff_not, Bool.not_eq_true', Bool.not_eq_false', Bool.not_true, Bool.not_false, Bool.and_eq_true, Bool.or_eq_true, Bool.and_eq_false_iff, Bool.or_eq_false_iff] at hq
          have hq29 := hq
          refine T_skip ?_
          refine T_region ?_
          refine TL_pure rfl rfl rfl rfl (op_add64 rfl rfl (by omega)) ?_
          refine TL_pure rfl rfl rfl rfl (op_move rfl) ?_
          refine TL_nil ?_
          refine TR_keep [2, 3, 14, 15, 16] rfl ?_
          exact ih _ r rfl (by rw [List.all_append, hI]; simp only [List.all_cons, List.all_nil, rowB]; grind) _ (by simp)

end Go.Proofs.Pol
