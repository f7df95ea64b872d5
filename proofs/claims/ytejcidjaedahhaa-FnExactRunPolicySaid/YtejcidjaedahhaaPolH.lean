/- Walks over the policy seat, printed by wip/pol/mk.py. -/
import Derived.Test.YtejcidjaedahhaaPolG
namespace Go.Proofs.Pol
open Go Go.AM Go.Proofs
set_option linter.unusedVariables false
set_option linter.unusedSimpArgs false
set_option maxRecDepth 100000


def atB (rows : List (List Int)) (s e : Int) : Int := (rows[s.toNat]?.getD [])[e.toNat]?.getD 0
def runF (rows : List (List Int)) : Int → List Int → Nat → Int × Int
  | s, [], k => (k, s)
  | s, e :: r, k => if atB rows s e < 0 then (k, s) else runF rows (atB rows s e) r (k + 1)
def wordB (xs : List Int) : Bool := decide ((xs.length : Int) ≤ 40) && xs.all (fun e => decide (0 ≤ e) && decide (e ≤ 3))
theorem runFacts {rows : List (List Int)} {s e : Int} (hv : validB rows = true) (hs : 0 ≤ s ∧ s ≤ (rows.length : Int) - 1) (he : 0 ≤ e ∧ e ≤ 3) :
    ∃ (i j : Nat) (row : List Int) (v : Int), s = i ∧ e = j ∧ (rows.map ais)[i]? = some (ais row) ∧ (row.map ai)[j]? = some (ai v) ∧ atB rows s e = v ∧ -1 ≤ v ∧ v ≤ (rows.length : Int) - 1 := by
  obtain ⟨i, j, row, v, rfl, rfl, h1, h2, h3, h4, h5, h6, _⟩ := stepFacts hv hs he
  have := (validB_row hv h5).2 v h6
  exact ⟨i, j, row, v, rfl, rfl, h1, h2, by unfold atB; simp [h3, h4], this.1, this.2⟩
theorem wordB_spec {xs : List Int} (h : wordB xs = true) : xs.length ≤ 40 ∧ ∀ e ∈ xs, 0 ≤ e ∧ e ≤ 3 := by
  unfold wordB at h
  simp only [Bool.and_eq_true, List.all_eq_true, decide_eq_true_eq] at h
  exact ⟨by omega, h.2⟩

theorem c40 (xs : List Int) : ACall Try.prog 40 [ais xs] [] (.bool (wordB xs)) [] := by
  refine ACall.intro Try.func40 rfl Try.ntmps40 rfl (fun F hF => ?_)
  refine T_slLen 0 rfl (fun hlen => ?_)
  have hL : (xs.map ai).length = xs.length := List.length_map _
  rw [hL] at hlen
  refine T_seq ?_
  refine T_region ?_
  refine TL_pure rfl rfl rfl rfl (op_assign rfl) ?_
  refine TL_nil ?_
  refine T_seq ?_
  refine T_seq ?_
  refine T_region ?_
  refine TL_pure rfl rfl rfl rfl (op_assign rfl) ?_
  refine TL_nil ?_
  refine T_block ?_
  refine T_loop ?_
  refine TR_keep [0, 2, 3] rfl ?_
  refine TR_list xs (fun pre suf => ⟨[(0, ais xs), (2, .bool false), (3, .int .i64 pre.length)], []⟩) (fun pre => pre.all (fun e => decide (0 ≤ e) && decide (e ≤ 3)) = true) (rfl) ?_
  intro pre suf hx hI ih
  rcases suf with _ | ⟨x, r⟩
  · have hl : pre.length = xs.length := by simp [hx]
    refine T_seq ?_
    refine T_seq ?_
    refine T_region ?_
    refine TL_pure rfl rfl rfl rfl (op_move rfl) ?_
    refine TL_pure rfl rfl rfl rfl (op_move rfl) ?_
    first | refine TL_pure rfl rfl rfl rfl (op_len_sl Try.underlying34 rfl) ?_ | refine TL_pure rfl rfl rfl rfl (op_len_ow Try.underlying34 rfl rfl) ?_ | refine TL_pure rfl rfl rfl rfl (op_len_snil Try.underlying34 rfl) ?_
    refine TL_pure rfl rfl rfl rfl (op_lss rfl rfl) ?_
    refine TL_nil ?_
    refine T_if_false rfl (by first | (rw [decide_eq_true_eq]; omega) | (rw [decide_eq_false_iff_not]; omega) | (simp [hx]; done) | (simp [hx]; omega)) ?_
    refine T_exit ?_
    refine T_seq ?_
    refine T_region ?_
    refine TL_pure rfl rfl rfl rfl (op_move rfl) ?_
    first | refine TL_pure rfl rfl rfl rfl (op_len_sl Try.underlying34 rfl) ?_ | refine TL_pure rfl rfl rfl rfl (op_len_ow Try.underlying34 rfl rfl) ?_ | refine TL_pure rfl rfl rfl rfl (op_len_snil Try.underlying34 rfl) ?_
    refine TL_pure rfl rfl rfl rfl (op_leq rfl rfl) ?_
    refine TL_pure rfl rfl rfl rfl (op_assign rfl) ?_
    refine TL_nil ?_
    refine T_ret ?_
    refine ⟨[_], [], ⟨rfl, trivial⟩, ?_, rfl, rfl, rfl, rfl⟩
    try clear ih
    first | rfl | (simp only [resVal]; congr 1; simp only [List.append_nil] at hx; subst hx; rw [hL]; unfold wordB; rw [hI, Bool.and_true]) | (simp only [resVal]; congr 1; symm; unfold wordB; rw [Bool.and_eq_false_iff]; right; rw [List.all_eq_false]; exact ⟨x, by simp [hx], by grind⟩)
  · have hl : pre.length + (r.length + 1) = xs.length := by simp [hx]
    have he : (xs.map ai)[pre.length]? = some (ai x) := by simp [hx]
    refine T_seq ?_
    refine T_seq ?_
    refine T_region ?_
    refine TL_pure rfl rfl rfl rfl (op_move rfl) ?_
    refine TL_pure rfl rfl rfl rfl (op_move rfl) ?_
    first | refine TL_pure rfl rfl rfl rfl (op_len_sl Try.underlying34 rfl) ?_ | refine TL_pure rfl rfl rfl rfl (op_len_ow Try.underlying34 rfl rfl) ?_ | refine TL_pure rfl rfl rfl rfl (op_len_snil Try.underlying34 rfl) ?_
    refine TL_pure rfl rfl rfl rfl (op_lss rfl rfl) ?_
    refine TL_nil ?_
    refine T_if_true rfl (by first | (rw [decide_eq_true_eq]; omega) | (rw [decide_eq_false_iff_not]; omega) | (simp [hx]; done) | (simp [hx]; omega)) ?_
    refine T_skip ?_
    refine T_seq ?_
    refine T_block ?_
    refine T_seq ?_
    refine T_region ?_
    refine TL_pure rfl rfl rfl rfl (op_move rfl) ?_
    refine TL_pure rfl rfl rfl rfl (op_move rfl) ?_
    first | refine TL_pure rfl rfl rfl rfl (op_index_sl el34 rfl rfl rfl (by assumption) rfl) ?_ | refine TL_pure rfl rfl rfl rfl (op_index_ow el34 rfl rfl rfl rfl (by first | omega | (simp; done) | (simp; omega))) ?_
    first | refine TL_pure rfl rfl rfl rfl (op_load_one ag2 rfl rfl) ?_ | refine TL_pure rfl rfl rfl rfl (op_load_arr1 ag2 rfl rfl (by assumption) rfl rfl) ?_
    refine TL_callF (c37 _) Try.call37 rfl rfl rfl rfl rfl ?_
    refine TL_pure rfl rfl rfl rfl (op_not rfl) ?_
    refine TL_nil ?_
    refine T_cond rfl (fun hq => ?_) (fun hq => ?_)
    · try simp only [decide_eq_true_eq, decide_eq_false_iff_not, Bool.not_eq_true', Bool.not_eq_false', Bool.not_true, Bool.not_false, Bool.and_eq_true, Bool.or_eq_true, Bool.and_eq_false_iff, Bool.or_eq_false_iff] at hq
      have hq15 := hq
      refine T_seq ?_
      refine T_region ?_
      refine TL_pure rfl rfl rfl rfl (op_assign rfl) ?_
      refine TL_nil ?_
      refine T_ret ?_
      refine ⟨[_], [], ⟨rfl, trivial⟩, ?_, rfl, rfl, rfl, rfl⟩
      try clear ih
      first | rfl | (simp only [resVal]; congr 1; simp only [List.append_nil] at hx; subst hx; rw [hL]; unfold wordB; rw [hI, Bool.and_true]) | (simp only [resVal]; congr 1; symm; unfold wordB; rw [Bool.and_eq_false_iff]; right; rw [List.all_eq_false]; exact ⟨x, by simp [hx], by grind⟩)
    · try simp only [decide_eq_true_eq, decide_eq_false_iff_not, Bool.not_eq_true', Bool.not_eq_false', Bool.not_true, Bool.not_false, Bool.and_eq_true, Bool.or_eq_true, Bool.and_eq_false_iff, Bool.or_eq_false_iff] at hq
      have hq15 := hq
      refine T_skip ?_
      refine T_region ?_
      refine TL_pure rfl rfl rfl rfl (op_move rfl) ?_
      refine TL_pure rfl rfl rfl rfl (op_add64 rfl rfl (by omega)) ?_
      refine TL_pure rfl rfl rfl rfl (op_assign rfl) ?_
      refine TL_nil ?_
      refine TR_keep [0, 2, 3] rfl ?_
      exact ih x r rfl (by rw [List.all_append, hI]; simp; omega) _ (by simp)

theorem c41 (rows : List (List Int)) (s0 : Int) (xs : List Int) (hv : validB rows = true) (hs0 : 0 ≤ s0 ∧ s0 ≤ (rows.length : Int) - 1) (hev : ∀ e ∈ xs, 0 ≤ e ∧ e ≤ 3) : ACall Try.prog 41 [.cp [aiss rows], .int .i64 s0, ais xs] [] (.tup [ai (runF rows s0 xs 0).1, ai (runF rows s0 xs 0).2]) [] := by
  refine ACall.intro Try.func41 rfl Try.ntmps41 rfl (fun F hF => ?_)
  refine T_slLen 2 rfl (fun hlen => ?_)
  have hL : (xs.map ai).length = xs.length := List.length_map _
  rw [hL] at hlen
  refine T_seq ?_
  refine T_region ?_
  refine TL_pure rfl rfl rfl rfl (op_assign rfl) ?_
  refine TL_pure rfl rfl rfl rfl (op_assign rfl) ?_
  refine TL_nil ?_
  refine T_seq ?_
  refine T_seq ?_
  refine T_region ?_
  refine TL_pure rfl rfl rfl rfl (op_assign rfl) ?_
  refine TL_nil ?_
  refine T_block ?_
  refine T_loop ?_
  refine TR_keep [0, 1, 2, 6, 7, 8] rfl ?_
  refine TR_list xs (fun pre suf => ⟨[(0, .cp [aiss rows]), (1, .int .i64 (pre.foldl (atB rows) s0)), (2, ais xs), (6, .int .i64 0), (7, .int .i64 0), (8, .int .i64 pre.length)], []⟩) (fun pre => (0 ≤ pre.foldl (atB rows) s0 ∧ pre.foldl (atB rows) s0 ≤ (rows.length : Int) - 1) ∧ runF rows s0 xs 0 = runF rows (pre.foldl (atB rows) s0) (xs.drop pre.length) pre.length) (⟨hs0, by simp⟩) ?_
  intro pre suf hx hI ih
  rcases suf with _ | ⟨x, r⟩
  · have hl : pre.length = xs.length := by simp [hx]
    refine T_seq ?_
    refine T_seq ?_
    refine T_region ?_
    refine TL_pure rfl rfl rfl rfl (op_move rfl) ?_
    refine TL_pure rfl rfl rfl rfl (op_move rfl) ?_
    first | refine TL_pure rfl rfl rfl rfl (op_len_sl Try.underlying34 rfl) ?_ | refine TL_pure rfl rfl rfl rfl (op_len_ow Try.underlying34 rfl rfl) ?_ | refine TL_pure rfl rfl rfl rfl (op_len_snil Try.underlying34 rfl) ?_
    refine TL_pure rfl rfl rfl rfl (op_lss rfl rfl) ?_
    refine TL_nil ?_
    refine T_if_false rfl (by first | (rw [decide_eq_true_eq]; omega) | (rw [decide_eq_false_iff_not]; omega) | (simp [hx]; done) | (simp [hx]; omega)) ?_
    refine T_exit ?_
    refine T_seq ?_
    refine T_region ?_
    refine TL_pure rfl rfl rfl rfl (op_move rfl) ?_
    first | refine TL_pure rfl rfl rfl rfl (op_len_sl Try.underlying34 rfl) ?_ | refine TL_pure rfl rfl rfl rfl (op_len_ow Try.underlying34 rfl rfl) ?_ | refine TL_pure rfl rfl rfl rfl (op_len_snil Try.underlying34 rfl) ?_
    refine TL_pure rfl rfl rfl rfl (op_move rfl) ?_
    refine TL_pure rfl rfl rfl rfl (op_assign rfl) ?_
    refine TL_pure rfl rfl rfl rfl (op_assign rfl) ?_
    refine TL_nil ?_
    refine T_ret ?_
    refine ⟨[_, _], [], ⟨rfl, ⟨rfl, trivial⟩⟩, ?_, rfl, rfl, rfl, rfl⟩
    try clear ih
    first | rfl | (simp only [resVal]; simp only [List.append_nil] at hx; subst hx; rw [hI.2]; simp [runF, ai]) | (simp only [resVal]; rw [hrun, if_pos (by omega)]; simp [ai]) | (simp only [resVal]; rw [hrun, if_pos (by omega)] <;> rfl)
  · have hl : pre.length + (r.length + 1) = xs.length := by simp [hx]
    obtain ⟨s, hs⟩ : ∃ s, s = pre.foldl (atB rows) s0 := ⟨_, rfl⟩
    rw [← hs] at hI ⊢
    obtain ⟨i, j, row, v, rfl, rfl, he, hej, hat, hv1, hv2⟩ := runFacts (rows := rows) (e := x) hv hI.1 (hev x (by simp [hx]))
    have hex : (xs.map ai)[pre.length]? = some (ai (j : Int)) := by simp [hx]
    have hd : xs.drop pre.length = (j : Int) :: r := by simp [hx]
    have hrun := hI.2
    rw [hd] at hrun
    simp only [runF, hat] at hrun
    refine T_seq ?_
    refine T_seq ?_
    refine T_region ?_
    refine TL_pure rfl rfl rfl rfl (op_move rfl) ?_
    refine TL_pure rfl rfl rfl rfl (op_move rfl) ?_
    first | refine TL_pure rfl rfl rfl rfl (op_len_sl Try.underlying34 rfl) ?_ | refine TL_pure rfl rfl rfl rfl (op_len_ow Try.underlying34 rfl rfl) ?_ | refine TL_pure rfl rfl rfl rfl (op_len_snil Try.underlying34 rfl) ?_
    refine TL_pure rfl rfl rfl rfl (op_lss rfl rfl) ?_
    refine TL_nil ?_
    refine T_if_true rfl (by first | (rw [decide_eq_true_eq]; omega) | (rw [decide_eq_false_iff_not]; omega) | (simp [hx]; done) | (simp [hx]; omega)) ?_
    refine T_skip ?_
    refine T_seq ?_
    refine T_block ?_
    refine T_seq ?_
    refine T_drawZ [] mix (by kernel_rfl) rfl ?_
    refine TZ_pure 0 (by kernel_rfl) rfl rfl rfl rfl rfl (op_move rfl) ?_
    refine TZ_pure 1 (by kernel_rfl) rfl rfl rfl rfl rfl (op_nilCheck rfl rfl) ?_
    refine TZ_pure 2 (by kernel_rfl) rfl rfl rfl rfl rfl (op_fieldAddr fa27_0 rfl rfl) ?_
    first | refine TZ_pure 3 (by kernel_rfl) rfl rfl rfl rfl rfl (op_load_one ag22 rfl rfl) ?_ | refine TZ_pure 3 (by kernel_rfl) rfl rfl rfl rfl rfl (op_load_arr1 ag22 rfl rfl (by assumption) rfl rfl) ?_
    refine TZ_pure 4 (by kernel_rfl) rfl rfl rfl rfl rfl (op_move rfl) ?_
    first | refine TZ_pure 5 (by kernel_rfl) rfl rfl rfl rfl rfl (op_index_sl el22 rfl rfl rfl (by assumption) rfl) ?_ | refine TZ_pure 5 (by kernel_rfl) rfl rfl rfl rfl rfl (op_index_ow el22 rfl rfl rfl rfl (by first | omega | (simp; done) | (simp; omega))) ?_
    first | refine TZ_pure 6 (by kernel_rfl) rfl rfl rfl rfl rfl (op_load_one ag34 rfl rfl) ?_ | refine TZ_pure 6 (by kernel_rfl) rfl rfl rfl rfl rfl (op_load_arr1 ag34 rfl rfl (by assumption) rfl rfl) ?_
    refine TZ_pure 7 (by kernel_rfl) rfl rfl rfl rfl rfl (op_move rfl) ?_
    refine TZ_pure 8 (by kernel_rfl) rfl rfl rfl rfl rfl (op_move rfl) ?_
    first | refine TZ_pure 9 (by kernel_rfl) rfl rfl rfl rfl rfl (op_index_sl el34 rfl rfl rfl (by assumption) rfl) ?_ | refine TZ_pure 9 (by kernel_rfl) rfl rfl rfl rfl rfl (op_index_ow el34 rfl rfl rfl rfl (by first | omega | (simp; done) | (simp; omega))) ?_
    first | refine TZ_pure 10 (by kernel_rfl) rfl rfl rfl rfl rfl (op_load_one ag2 rfl rfl) ?_ | refine TZ_pure 10 (by kernel_rfl) rfl rfl rfl rfl rfl (op_load_arr1 ag2 rfl rfl (by assumption) rfl rfl) ?_
    first | refine TZ_pure 11 (by kernel_rfl) rfl rfl rfl rfl rfl (op_index_sl el34 rfl rfl rfl (by assumption) rfl) ?_ | refine TZ_pure 11 (by kernel_rfl) rfl rfl rfl rfl rfl (op_index_ow el34 rfl rfl rfl rfl (by first | omega | (simp; done) | (simp; omega))) ?_
    first | refine TZ_pure 12 (by kernel_rfl) rfl rfl rfl rfl rfl (op_load_one ag2 rfl rfl) ?_ | refine TZ_pure 12 (by kernel_rfl) rfl rfl rfl rfl rfl (op_load_arr1 ag2 rfl rfl (by assumption) rfl rfl) ?_
    refine TZ_pure 13 (by kernel_rfl) rfl rfl rfl rfl rfl (op_assign rfl) ?_
    refine TZ_done (by kernel_rfl) ?_
    refine T_seq ?_
    refine T_seq ?_
    refine T_region ?_
    refine TL_pure rfl rfl rfl rfl (op_move rfl) ?_
    refine TL_pure rfl rfl rfl rfl (op_lss rfl rfl) ?_
    refine TL_nil ?_
    refine T_cond rfl (fun hq => ?_) (fun hq => ?_)
    · try simp only [decide_eq_true_eq, decide_eq_false_iff_not, Bool.not_eq_true', Bool.not_eq_false', Bool.not_true, Bool.not_false, Bool.and_eq_true, Bool.or_eq_true, Bool.and_eq_false_iff, Bool.or_eq_false_iff] at hq
      have hq30 := hq
      refine T_seq ?_
      refine T_region ?_
      refine TL_pure rfl rfl rfl rfl (op_move rfl) ?_
      refine TL_pure rfl rfl rfl rfl (op_move rfl) ?_
      refine TL_pure rfl rfl rfl rfl (op_assign rfl) ?_
      refine TL_pure rfl rfl rfl rfl (op_assign rfl) ?_
      refine TL_nil ?_
      refine T_ret ?_
      refine ⟨[_, _], [], ⟨rfl, ⟨rfl, trivial⟩⟩, ?_, rfl, rfl, rfl, rfl⟩
      try clear ih
      first | rfl | (simp only [resVal]; simp only [List.append_nil] at hx; subst hx; rw [hI.2]; simp [runF, ai]) | (simp only [resVal]; rw [hrun, if_pos (by omega)]; simp [ai]) | (simp only [resVal]; rw [hrun, if_pos (by omega)] <;> rfl)
    · try simp only [decide_eq_true_eq, decide_eq_false_iff_not, Bool.not_eq_true', Bool.not_eq_false', Bool.not_true, Bool.not_false, Bool.and_eq_true, Bool.or_eq_true, Bool.and_eq_false_iff, Bool.or_eq_false_iff] at hq
      have hq30 := hq
      refine T_skip ?_
      refine T_region ?_
      refine TL_pure rfl rfl rfl rfl (op_move rfl) ?_
      refine TL_pure rfl rfl rfl rfl (op_assign rfl) ?_
      refine TL_nil ?_
      refine T_region ?_
      refine TL_pure rfl rfl rfl rfl (op_move rfl) ?_
      refine TL_pure rfl rfl rfl rfl (op_add64 rfl rfl (by omega)) ?_
      refine TL_pure rfl rfl rfl rfl (op_assign rfl) ?_
      refine TL_nil ?_
      refine TR_keep [0, 1, 2, 6, 7, 8] rfl ?_
      have hn : (pre ++ [(j : Int)]).foldl (atB rows) s0 = v := by rw [List.foldl_append, ← hs]; exact hat
      rw [if_neg (by omega)] at hrun
      exact ih _ r rfl ⟨by rw [hn]; omega, by rw [hn, hrun]; simp [hx]⟩ _ (by simp [hn, ai])

theorem c42 (rows : List (List Int)) (s0 : Int) (xs : List Int) (hv : validB rows = true) (hs0 : 0 ≤ s0 ∧ s0 ≤ (rows.length : Int) - 1) (hev : ∀ e ∈ xs, 0 ≤ e ∧ e ≤ 3) : ACall Try.prog 42 [.agg [aiss rows], .int .i64 s0, ais xs] [] (.tup [ai (runF rows s0 xs 0).1, ai (runF rows s0 xs 0).2]) [] := by
  refine ACall.intro Try.func42 rfl Try.ntmps42 rfl (fun F hF => ?_)
  refine T_slLen 2 rfl (fun hlen => ?_)
  have hL : (xs.map ai).length = xs.length := List.length_map _
  rw [hL] at hlen
  refine T_seq ?_
  refine T_region ?_
  refine TL_box 11 rfl rfl rfl rfl rfl rfl rfl ?_
  refine TL_pure rfl rfl rfl rfl (op_assign rfl) ?_
  refine TL_pure rfl rfl rfl rfl (op_assign rfl) ?_
  refine TL_nil ?_
  refine T_seq ?_
  refine T_seq ?_
  refine T_region ?_
  refine TL_pure rfl rfl rfl rfl (op_move rfl) ?_
  first | refine TL_pure rfl rfl rfl rfl (op_len_sl Try.underlying34 rfl) ?_ | refine TL_pure rfl rfl rfl rfl (op_len_ow Try.underlying34 rfl rfl) ?_ | refine TL_pure rfl rfl rfl rfl (op_len_snil Try.underlying34 rfl) ?_
  refine TL_pure rfl rfl rfl rfl (op_move rfl) ?_
  refine TL_nil ?_
  refine T_block ?_
  refine T_loop ?_
  refine TR_keep [1, 2, 3, 6, 7, 11, 12, 13] rfl ?_
  refine TR_list xs (fun pre suf => ⟨[(1, .int .i64 (pre.foldl (atB rows) s0)), (2, ais xs), (3, .ptr 11 0 0), (6, .int .i64 0), (7, .int .i64 0), (11, ais xs), (12, .int .i64 (xs.map ai).length), (13, .int .i64 pre.length)], [(11, .box [aiss rows])]⟩) (fun pre => (0 ≤ pre.foldl (atB rows) s0 ∧ pre.foldl (atB rows) s0 ≤ (rows.length : Int) - 1) ∧ runF rows s0 xs 0 = runF rows (pre.foldl (atB rows) s0) (xs.drop pre.length) pre.length) (⟨hs0, by simp⟩) ?_
  intro pre suf hx hI ih
  rcases suf with _ | ⟨x, r⟩
  · have hl : pre.length = xs.length := by simp [hx]
    refine T_seq ?_
    refine T_region ?_
    refine TL_pure rfl rfl rfl rfl (op_lss rfl rfl) ?_
    refine TL_nil ?_
    refine T_seq ?_
    refine T_if_false rfl (by first | (rw [decide_eq_true_eq]; omega) | (rw [decide_eq_false_iff_not]; omega) | (simp [hx]; done) | (simp [hx]; omega)) ?_
    refine T_exit ?_
    refine T_seq ?_
    refine T_region ?_
    refine TL_pure rfl rfl rfl rfl (op_move rfl) ?_
    first | refine TL_pure rfl rfl rfl rfl (op_len_sl Try.underlying34 rfl) ?_ | refine TL_pure rfl rfl rfl rfl (op_len_ow Try.underlying34 rfl rfl) ?_ | refine TL_pure rfl rfl rfl rfl (op_len_snil Try.underlying34 rfl) ?_
    refine TL_callF (c32 _) Try.call32 rfl rfl rfl rfl rfl ?_
    refine TL_pure rfl rfl rfl rfl (op_move rfl) ?_
    refine TL_pure rfl rfl rfl rfl (op_assign rfl) ?_
    refine TL_pure rfl rfl rfl rfl (op_assign rfl) ?_
    refine TL_nil ?_
    refine T_ret ?_
    refine ⟨[_, _], [], ⟨rfl, ⟨rfl, trivial⟩⟩, ?_, rfl, rfl, rfl, rfl⟩
    try clear ih
    first | rfl | (simp only [resVal]; simp only [List.append_nil] at hx; subst hx; rw [hI.2]; simp [runF, ai]) | (simp only [resVal]; rw [hrun, if_pos (by omega)]; simp [ai]) | (simp only [resVal]; rw [hrun, if_pos (by omega)] <;> rfl)
  · have hl : pre.length + (r.length + 1) = xs.length := by simp [hx]
    obtain ⟨s, hs⟩ : ∃ s, s = pre.foldl (atB rows) s0 := ⟨_, rfl⟩
    rw [← hs] at hI ⊢
    obtain ⟨i, j, row, v, rfl, rfl, he, hej, hat, hv1, hv2⟩ := runFacts (rows := rows) (e := x) hv hI.1 (hev x (by simp [hx]))
    have hex : (xs.map ai)[pre.length]? = some (ai (j : Int)) := by simp [hx]
    have hd : xs.drop pre.length = (j : Int) :: r := by simp [hx]
    have hrun := hI.2
    rw [hd] at hrun
    simp only [runF, hat] at hrun
    refine T_seq ?_
    refine T_region ?_
    refine TL_pure rfl rfl rfl rfl (op_lss rfl rfl) ?_
    refine TL_nil ?_
    refine T_seq ?_
    refine T_if_true rfl (by first | (rw [decide_eq_true_eq]; omega) | (rw [decide_eq_false_iff_not]; omega) | (simp [hx]; done) | (simp [hx]; omega)) ?_
    refine T_skip ?_
    refine T_seq ?_
    refine T_block ?_
    refine T_seq ?_
    refine T_region ?_
    refine TL_pure rfl rfl rfl rfl (op_move rfl) ?_
    first | refine TL_pure rfl rfl rfl rfl (op_index_sl el34 rfl rfl rfl (by assumption) rfl) ?_ | refine TL_pure rfl rfl rfl rfl (op_index_ow el34 rfl rfl rfl rfl (by first | omega | (simp; done) | (simp; omega))) ?_
    first | refine TL_pure rfl rfl rfl rfl (op_load_one ag2 rfl rfl) ?_ | refine TL_pure rfl rfl rfl rfl (op_load_arr1 ag2 rfl rfl (by assumption) rfl rfl) ?_
    refine TL_pure rfl rfl rfl rfl (op_assign rfl) ?_
    refine TL_pure rfl rfl rfl rfl (op_assign rfl) ?_
    refine TL_nil ?_
    refine T_seq ?_
    refine T_region ?_
    refine TL_pure rfl rfl rfl rfl (op_fieldAddr fa27_0 rfl rfl) ?_
    first | refine TL_pure rfl rfl rfl rfl (op_load_one ag22 rfl rfl) ?_ | refine TL_pure rfl rfl rfl rfl (op_load_arr1 ag22 rfl rfl (by assumption) rfl rfl) ?_
    refine TL_pure rfl rfl rfl rfl (op_move rfl) ?_
    first | refine TL_pure rfl rfl rfl rfl (op_index_sl el22 rfl rfl rfl (by assumption) rfl) ?_ | refine TL_pure rfl rfl rfl rfl (op_index_ow el22 rfl rfl rfl rfl (by first | omega | (simp; done) | (simp; omega))) ?_
    first | refine TL_pure rfl rfl rfl rfl (op_load_one ag34 rfl rfl) ?_ | refine TL_pure rfl rfl rfl rfl (op_load_arr1 ag34 rfl rfl (by assumption) rfl rfl) ?_
    refine TL_pure rfl rfl rfl rfl (op_move rfl) ?_
    first | refine TL_pure rfl rfl rfl rfl (op_index_sl el34 rfl rfl rfl (by assumption) rfl) ?_ | refine TL_pure rfl rfl rfl rfl (op_index_ow el34 rfl rfl rfl rfl (by first | omega | (simp; done) | (simp; omega))) ?_
    first | refine TL_pure rfl rfl rfl rfl (op_load_one ag2 rfl rfl) ?_ | refine TL_pure rfl rfl rfl rfl (op_load_arr1 ag2 rfl rfl (by assumption) rfl rfl) ?_
    refine TL_pure rfl rfl rfl rfl (op_assign rfl) ?_
    refine TL_nil ?_
    refine T_seq ?_
    refine T_seq ?_
    refine T_region ?_
    refine TL_pure rfl rfl rfl rfl (op_move rfl) ?_
    refine TL_pure rfl rfl rfl rfl (op_lss rfl rfl) ?_
    refine TL_nil ?_
    refine T_cond rfl (fun hq => ?_) (fun hq => ?_)
    · try simp only [decide_eq_true_eq, decide_eq_false_iff_not, Bool.not_eq_true', Bool.not_eq_false', Bool.not_true, Bool.not_false, Bool.and_eq_true, Bool.or_eq_true, Bool.and_eq_false_iff, Bool.or_eq_false_iff] at hq
      have hq27 := hq
      refine T_seq ?_
      refine T_region ?_
      refine TL_pure rfl rfl rfl rfl (op_move rfl) ?_
      refine TL_pure rfl rfl rfl rfl (op_move rfl) ?_
      refine TL_pure rfl rfl rfl rfl (op_assign rfl) ?_
      refine TL_pure rfl rfl rfl rfl (op_assign rfl) ?_
      refine TL_nil ?_
      refine T_ret ?_
      refine ⟨[_, _], [], ⟨rfl, ⟨rfl, trivial⟩⟩, ?_, rfl, rfl, rfl, rfl⟩
      try clear ih
      first | rfl | (simp only [resVal]; simp only [List.append_nil] at hx; subst hx; rw [hI.2]; simp [runF, ai]) | (simp only [resVal]; rw [hrun, if_pos (by omega)]; simp [ai]) | (simp only [resVal]; rw [hrun, if_pos (by omega)] <;> rfl)
    · try simp only [decide_eq_true_eq, decide_eq_false_iff_not, Bool.not_eq_true', Bool.not_eq_false', Bool.not_true, Bool.not_false, Bool.and_eq_true, Bool.or_eq_true, Bool.and_eq_false_iff, Bool.or_eq_false_iff] at hq
      have hq27 := hq
      refine T_skip ?_
      refine T_region ?_
      refine TL_pure rfl rfl rfl rfl (op_move rfl) ?_
      refine TL_pure rfl rfl rfl rfl (op_assign rfl) ?_
      refine TL_nil ?_
      refine T_region ?_
      refine TL_pure rfl rfl rfl rfl (op_add64 rfl rfl (by omega)) ?_
      refine TL_pure rfl rfl rfl rfl (op_move rfl) ?_
      refine TL_nil ?_
      refine TR_keep [1, 2, 3, 6, 7, 11, 12, 13] rfl ?_
      have hn : (pre ++ [(j : Int)]).foldl (atB rows) s0 = v := by rw [List.foldl_append, ← hs]; exact hat
      rw [if_neg (by omega)] at hrun
      exact ih _ r rfl ⟨by rw [hn]; omega, by rw [hn, hrun]; simp [hx]⟩ _ (by simp [hn, ai])

end Go.Proofs.Pol
