/- Walks over the policy seat, printed by wip/pol/mk.py. -/
import Derived.Test.YtejcidjaedahhaaPolF
namespace Go.Proofs.Pol
open Go Go.AM Go.Proofs
set_option linter.unusedVariables false
set_option linter.unusedSimpArgs false
set_option maxRecDepth 100000


def stepB (rows : List (List Int)) (s e : Int) : Int × Bool :=
  if validB rows = true ∧ (0 ≤ s ∧ s ≤ (rows.length : Int) - 1) ∧ (0 ≤ e ∧ e ≤ 3) then
    (if ((rows[s.toNat]?.getD [])[e.toNat]?.getD 0) < 0 then (0, false) else ((rows[s.toNat]?.getD [])[e.toNat]?.getD 0, true))
  else (0, false)
theorem validB_row {rows : List (List Int)} {x : List Int} (h : validB rows = true) (hm : x ∈ rows) : x.length = 4 ∧ ∀ k ∈ x, -1 ≤ k ∧ k ≤ (rows.length : Int) - 1 := by
  unfold validB at h
  simp only [Bool.and_eq_true, List.all_eq_true, rowB, decide_eq_true_eq] at h
  obtain ⟨h1, h2⟩ := h.2 x hm
  exact ⟨by omega, fun k hk => by have := h2 k hk; omega⟩
theorem validB_bnd {rows : List (List Int)} (h : validB rows = true) : 1 ≤ rows.length ∧ rows.length ≤ 12 := by
  unfold validB at h
  simp only [Bool.and_eq_true, decide_eq_true_eq] at h
  omega
theorem stepFacts {rows : List (List Int)} {s e : Int} (hv : validB rows = true) (hs : 0 ≤ s ∧ s ≤ (rows.length : Int) - 1) (he : 0 ≤ e ∧ e ≤ 3) :
    ∃ (i j : Nat) (row : List Int) (v : Int), s = i ∧ e = j ∧ (rows.map ais)[i]? = some (ais row) ∧ (row.map ai)[j]? = some (ai v) ∧ rows[i]? = some row ∧ row[j]? = some v ∧ row ∈ rows ∧ v ∈ row ∧
      stepB rows s e = (if v < 0 then (0, false) else (v, true)) := by
  obtain ⟨i, rfl⟩ := Int.eq_ofNat_of_zero_le hs.1
  obtain ⟨j, rfl⟩ := Int.eq_ofNat_of_zero_le he.1
  have hi : i < rows.length := by omega
  have hrow : rows[i]? = some rows[i] := by simp [hi]
  have hm : rows[i] ∈ rows := List.getElem_mem hi
  have h4 := (validB_row hv hm).1
  have hj : j < (rows[i]).length := by omega
  have hk : (rows[i])[j]? = some (rows[i])[j] := by simp [hj]
  refine ⟨i, j, rows[i], (rows[i])[j], rfl, rfl, get_map hrow, get_map hk, hrow, hk, hm, List.getElem_mem hj, ?_⟩
  unfold stepB
  rw [if_pos ⟨hv, hs, he⟩]
  simp only [Int.toNat_natCast, hrow, Option.getD_some, hk]
theorem stepB_no {rows : List (List Int)} {s e : Int} (h : ¬ (validB rows = true ∧ (0 ≤ s ∧ s ≤ (rows.length : Int) - 1) ∧ (0 ≤ e ∧ e ≤ 3))) : stepB rows s e = (0, false) := by
  unfold stepB; rw [if_neg h]

theorem c14 (rows : List (List Int)) (s e : Int) (hlen : rows.length ≤ 1048576) : ACall Try.prog 14 [.agg [aiss rows], .int .i64 s, .int .i64 e] [] (.tup [ai (stepB rows s e).1, .bool (stepB rows s e).2]) [] := by
  refine ACall.intro Try.func14 rfl Try.ntmps14 rfl (fun F hF => ?_)
  have hL : (rows.map ais).length = rows.length := List.length_map _
  refine T_seq ?_
  refine T_region ?_
  refine TL_box 11 rfl rfl rfl rfl rfl rfl rfl ?_
  refine TL_pure rfl rfl rfl rfl (op_assign rfl) ?_
  refine TL_pure rfl rfl rfl rfl (op_assign rfl) ?_
  refine TL_nil ?_
  refine T_seq ?_
  refine T_seq ?_
  refine T_region ?_
  refine TL_callF (c30 _ (by omega)) Try.call30 rfl rfl rfl rfl rfl ?_
  refine TL_pure rfl rfl rfl rfl (op_not rfl) ?_
  refine TL_pure rfl rfl rfl rfl (op_move rfl) ?_
  refine TL_split 10 rfl rfl rfl (fun hq => ?_) (fun hq => ?_)
  · try simp only [decide_eq_true_eq, decide_eq_false_iff_not, Bool.not_eq_true', Bool.not_eq_false', Bool.not_true, Bool.not_false, Bool.and_eq_true, Bool.or_eq_true, Bool.and_eq_false_iff, Bool.or_eq_false_iff] at hq
    have hq10 := hq
    refine TL_pass rfl rfl rfl rfl rfl rfl rfl ?_
    refine TL_pass rfl rfl rfl rfl rfl rfl rfl ?_
    refine TL_pass rfl rfl rfl rfl rfl rfl rfl ?_
    refine TL_pass rfl rfl rfl rfl rfl rfl rfl ?_
    refine TL_pass rfl rfl rfl rfl rfl rfl rfl ?_
    refine TL_pass rfl rfl rfl rfl rfl rfl rfl ?_
    refine TL_pass rfl rfl rfl rfl rfl rfl rfl ?_
    refine TL_pure rfl rfl rfl rfl (op_pick_true rfl rfl) ?_
    refine TL_pure rfl rfl rfl rfl (op_move rfl) ?_
    refine TL_pass rfl rfl rfl rfl rfl rfl rfl ?_
    refine TL_pass rfl rfl rfl rfl rfl rfl rfl ?_
    refine TL_pass rfl rfl rfl rfl rfl rfl rfl ?_
    refine TL_pure rfl rfl rfl rfl (op_pick_true rfl rfl) ?_
    refine TL_pure rfl rfl rfl rfl (op_move rfl) ?_
    refine TL_pass rfl rfl rfl rfl rfl rfl rfl ?_
    refine TL_pass rfl rfl rfl rfl rfl rfl rfl ?_
    refine TL_pass rfl rfl rfl rfl rfl rfl rfl ?_
    refine TL_pass rfl rfl rfl rfl rfl rfl rfl ?_
    refine TL_pass rfl rfl rfl rfl rfl rfl rfl ?_
    refine TL_pass rfl rfl rfl rfl rfl rfl rfl ?_
    refine TL_pass rfl rfl rfl rfl rfl rfl rfl ?_
    refine TL_pass rfl rfl rfl rfl rfl rfl rfl ?_
    refine TL_pass rfl rfl rfl rfl rfl rfl rfl ?_
    refine TL_pure rfl rfl rfl rfl (op_pick_true rfl rfl) ?_
    refine TL_nil ?_
    refine T_cond_true rfl ?_
    refine T_seq ?_
    refine T_region ?_
    refine TL_pure rfl rfl rfl rfl (op_assign rfl) ?_
    refine TL_pure rfl rfl rfl rfl (op_assign rfl) ?_
    refine TL_nil ?_
    refine T_ret ?_
    refine ⟨[_, _], [], ⟨rfl, ⟨rfl, trivial⟩⟩, ?_, rfl, rfl, rfl, rfl⟩
    try clear ih
    first | rfl | (simp only [resVal]; rw [hst, if_pos (by omega)] <;> rfl) | (simp only [resVal]; rw [hst, if_neg (by omega)] <;> rfl) | (simp only [resVal]; rw [stepB_no (by grind)] <;> rfl)
  · try simp only [decide_eq_true_eq, decide_eq_false_iff_not, Bool.not_eq_true', Bool.not_eq_false', Bool.not_true, Bool.not_false, Bool.and_eq_true, Bool.or_eq_true, Bool.and_eq_false_iff, Bool.or_eq_false_iff] at hq
    have hq10 := hq
    refine TL_want rfl rfl ?_
    refine TL_pure rfl rfl rfl rfl (op_move rfl) ?_
    refine TL_want rfl rfl ?_
    refine TL_pure rfl rfl rfl rfl (op_fieldAddr fa27_0 rfl rfl) ?_
    refine TL_want rfl rfl ?_
    first | refine TL_pure rfl rfl rfl rfl (op_load_one ag22 rfl rfl) ?_ | refine TL_pure rfl rfl rfl rfl (op_load_arr1 ag22 rfl rfl (by assumption) rfl rfl) ?_
    refine TL_want rfl rfl ?_
    first | refine TL_pure rfl rfl rfl rfl (op_len_sl Try.underlying22 rfl) ?_ | refine TL_pure rfl rfl rfl rfl (op_len_ow Try.underlying22 rfl rfl) ?_ | refine TL_pure rfl rfl rfl rfl (op_len_snil Try.underlying22 rfl) ?_
    refine TL_want rfl rfl ?_
    refine TL_pure rfl rfl rfl rfl (op_sub64 rfl rfl (by omega)) ?_
    refine TL_want rfl rfl ?_
    refine TL_callF (c36 _ _ _) Try.call36 rfl rfl rfl rfl rfl ?_
    refine TL_want rfl rfl ?_
    refine TL_pure rfl rfl rfl rfl (op_not rfl) ?_
    refine TL_pure rfl rfl rfl rfl (op_pick_false rfl rfl) ?_
    refine TL_pure rfl rfl rfl rfl (op_move rfl) ?_
    refine TL_split 19 rfl rfl rfl (fun hq => ?_) (fun hq => ?_)
    · try simp only [decide_eq_true_eq, decide_eq_false_iff_not, Bool.not_eq_true', Bool.not_eq_false', Bool.not_true, Bool.not_false, Bool.and_eq_true, Bool.or_eq_true, Bool.and_eq_false_iff, Bool.or_eq_false_iff] at hq
      have hq19 := hq
      refine TL_pass rfl rfl rfl rfl rfl rfl rfl ?_
      refine TL_pass rfl rfl rfl rfl rfl rfl rfl ?_
      refine TL_pass rfl rfl rfl rfl rfl rfl rfl ?_
      refine TL_pure rfl rfl rfl rfl (op_pick_true rfl rfl) ?_
      refine TL_pure rfl rfl rfl rfl (op_move rfl) ?_
      refine TL_pass rfl rfl rfl rfl rfl rfl rfl ?_
      refine TL_pass rfl rfl rfl rfl rfl rfl rfl ?_
      refine TL_pass rfl rfl rfl rfl rfl rfl rfl ?_
      refine TL_pass rfl rfl rfl rfl rfl rfl rfl ?_
      refine TL_pass rfl rfl rfl rfl rfl rfl rfl ?_
      refine TL_pass rfl rfl rfl rfl rfl rfl rfl ?_
      refine TL_pass rfl rfl rfl rfl rfl rfl rfl ?_
      refine TL_pass rfl rfl rfl rfl rfl rfl rfl ?_
      refine TL_pass rfl rfl rfl rfl rfl rfl rfl ?_
      refine TL_pure rfl rfl rfl rfl (op_pick_true rfl rfl) ?_
      refine TL_nil ?_
      refine T_cond_true rfl ?_
      refine T_seq ?_
      refine T_region ?_
      refine TL_pure rfl rfl rfl rfl (op_assign rfl) ?_
      refine TL_pure rfl rfl rfl rfl (op_assign rfl) ?_
      refine TL_nil ?_
      refine T_ret ?_
      refine ⟨[_, _], [], ⟨rfl, ⟨rfl, trivial⟩⟩, ?_, rfl, rfl, rfl, rfl⟩
      try clear ih
      first | rfl | (simp only [resVal]; rw [hst, if_pos (by omega)] <;> rfl) | (simp only [resVal]; rw [hst, if_neg (by omega)] <;> rfl) | (simp only [resVal]; rw [stepB_no (by grind)] <;> rfl)
    · try simp only [decide_eq_true_eq, decide_eq_false_iff_not, Bool.not_eq_true', Bool.not_eq_false', Bool.not_true, Bool.not_false, Bool.and_eq_true, Bool.or_eq_true, Bool.and_eq_false_iff, Bool.or_eq_false_iff] at hq
      have hq19 := hq
      refine TL_want rfl rfl ?_
      refine TL_pure rfl rfl rfl rfl (op_move rfl) ?_
      refine TL_want rfl rfl ?_
      refine TL_callF (c37 _) Try.call37 rfl rfl rfl rfl rfl ?_
      refine TL_want rfl rfl ?_
      refine TL_pure rfl rfl rfl rfl (op_not rfl) ?_
      refine TL_pure rfl rfl rfl rfl (op_pick_false rfl rfl) ?_
      refine TL_pure rfl rfl rfl rfl (op_move rfl) ?_
      refine TL_split 24 rfl rfl rfl (fun hq => ?_) (fun hq => ?_)
      · try simp only [decide_eq_true_eq, decide_eq_false_iff_not, Bool.not_eq_true', Bool.not_eq_false', Bool.not_true, Bool.not_false, Bool.and_eq_true, Bool.or_eq_true, Bool.and_eq_false_iff, Bool.or_eq_false_iff] at hq
        have hq24 := hq
        refine TL_pass rfl rfl rfl rfl rfl rfl rfl ?_
        refine TL_pass rfl rfl rfl rfl rfl rfl rfl ?_
        refine TL_pass rfl rfl rfl rfl rfl rfl rfl ?_
        refine TL_pass rfl rfl rfl rfl rfl rfl rfl ?_
        refine TL_pass rfl rfl rfl rfl rfl rfl rfl ?_
        refine TL_pass rfl rfl rfl rfl rfl rfl rfl ?_
        refine TL_pass rfl rfl rfl rfl rfl rfl rfl ?_
        refine TL_pass rfl rfl rfl rfl rfl rfl rfl ?_
        refine TL_pass rfl rfl rfl rfl rfl rfl rfl ?_
        refine TL_pure rfl rfl rfl rfl (op_pick_true rfl rfl) ?_
        refine TL_nil ?_
        refine T_cond_true rfl ?_
        refine T_seq ?_
        refine T_region ?_
        refine TL_pure rfl rfl rfl rfl (op_assign rfl) ?_
        refine TL_pure rfl rfl rfl rfl (op_assign rfl) ?_
        refine TL_nil ?_
        refine T_ret ?_
        refine ⟨[_, _], [], ⟨rfl, ⟨rfl, trivial⟩⟩, ?_, rfl, rfl, rfl, rfl⟩
        try clear ih
        first | rfl | (simp only [resVal]; rw [hst, if_pos (by omega)] <;> rfl) | (simp only [resVal]; rw [hst, if_neg (by omega)] <;> rfl) | (simp only [resVal]; rw [stepB_no (by grind)] <;> rfl)
      · try simp only [decide_eq_true_eq, decide_eq_false_iff_not, Bool.not_eq_true', Bool.not_eq_false', Bool.not_true, Bool.not_false, Bool.and_eq_true, Bool.or_eq_true, Bool.and_eq_false_iff, Bool.or_eq_false_iff] at hq
        have hq24 := hq
        refine TL_want rfl rfl ?_
        refine TL_pure rfl rfl rfl rfl (op_fieldAddr fa27_0 rfl rfl) ?_
        refine TL_want rfl rfl ?_
        first | refine TL_pure rfl rfl rfl rfl (op_load_one ag22 rfl rfl) ?_ | refine TL_pure rfl rfl rfl rfl (op_load_arr1 ag22 rfl rfl (by assumption) rfl rfl) ?_
        refine TL_want rfl rfl ?_
        refine TL_pure rfl rfl rfl rfl (op_move rfl) ?_
        refine TL_want rfl rfl ?_
        rw [hL] at *
        obtain ⟨i, j, row, v, rfl, rfl, he, hej, hgi, hgj, hm, hvm, hst⟩ := stepFacts (rows := rows) (by assumption) (by assumption) (by assumption)
        first | refine TL_pure rfl rfl rfl rfl (op_index_sl el22 rfl rfl rfl (by assumption) rfl) ?_ | refine TL_pure rfl rfl rfl rfl (op_index_ow el22 rfl rfl rfl rfl (by first | omega | (simp; done) | (simp; omega))) ?_
        refine TL_want rfl rfl ?_
        first | refine TL_pure rfl rfl rfl rfl (op_load_one ag34 rfl rfl) ?_ | refine TL_pure rfl rfl rfl rfl (op_load_arr1 ag34 rfl rfl (by assumption) rfl rfl) ?_
        refine TL_want rfl rfl ?_
        refine TL_pure rfl rfl rfl rfl (op_move rfl) ?_
        refine TL_want rfl rfl ?_
        first | refine TL_pure rfl rfl rfl rfl (op_index_sl el34 rfl rfl rfl (by assumption) rfl) ?_ | refine TL_pure rfl rfl rfl rfl (op_index_ow el34 rfl rfl rfl rfl (by first | omega | (simp; done) | (simp; omega))) ?_
        refine TL_want rfl rfl ?_
        first | refine TL_pure rfl rfl rfl rfl (op_load_one ag2 rfl rfl) ?_ | refine TL_pure rfl rfl rfl rfl (op_load_arr1 ag2 rfl rfl (by assumption) rfl rfl) ?_
        refine TL_want rfl rfl ?_
        refine TL_pure rfl rfl rfl rfl (op_lss rfl rfl) ?_
        refine TL_pure rfl rfl rfl rfl (op_pick_false rfl rfl) ?_
        refine TL_nil ?_
        refine T_cond rfl (fun hq => ?_) (fun hq => ?_)
        · try simp only [decide_eq_true_eq, decide_eq_false_iff_not, Bool.not_eq_true', Bool.not_eq_false', Bool.not_true, Bool.not_false, Bool.and_eq_true, Bool.or_eq_true, Bool.and_eq_false_iff, Bool.or_eq_false_iff] at hq
          have hq34 := hq
          refine T_seq ?_
          refine T_region ?_
          refine TL_pure rfl rfl rfl rfl (op_assign rfl) ?_
          refine TL_pure rfl rfl rfl rfl (op_assign rfl) ?_
          refine TL_nil ?_
          refine T_ret ?_
          refine ⟨[_, _], [], ⟨rfl, ⟨rfl, trivial⟩⟩, ?_, rfl, rfl, rfl, rfl⟩
          try clear ih
          first | rfl | (simp only [resVal]; rw [hst, if_pos (by omega)] <;> rfl) | (simp only [resVal]; rw [hst, if_neg (by omega)] <;> rfl) | (simp only [resVal]; rw [stepB_no (by grind)] <;> rfl)
        · try simp only [decide_eq_true_eq, decide_eq_false_iff_not, Bool.not_eq_true', Bool.not_eq_false', Bool.not_true, Bool.not_false, Bool.and_eq_true, Bool.or_eq_true, Bool.and_eq_false_iff, Bool.or_eq_false_iff] at hq
          have hq34 := hq
          refine T_skip ?_
          refine T_seq ?_
          refine T_region ?_
          refine TL_pure rfl rfl rfl rfl (op_fieldAddr fa27_0 rfl rfl) ?_
          first | refine TL_pure rfl rfl rfl rfl (op_load_one ag22 rfl rfl) ?_ | refine TL_pure rfl rfl rfl rfl (op_load_arr1 ag22 rfl rfl (by assumption) rfl rfl) ?_
          refine TL_pure rfl rfl rfl rfl (op_move rfl) ?_
          first | refine TL_pure rfl rfl rfl rfl (op_index_sl el22 rfl rfl rfl (by assumption) rfl) ?_ | refine TL_pure rfl rfl rfl rfl (op_index_ow el22 rfl rfl rfl rfl (by first | omega | (simp; done) | (simp; omega))) ?_
          first | refine TL_pure rfl rfl rfl rfl (op_load_one ag34 rfl rfl) ?_ | refine TL_pure rfl rfl rfl rfl (op_load_arr1 ag34 rfl rfl (by assumption) rfl rfl) ?_
          refine TL_pure rfl rfl rfl rfl (op_move rfl) ?_
          first | refine TL_pure rfl rfl rfl rfl (op_index_sl el34 rfl rfl rfl (by assumption) rfl) ?_ | refine TL_pure rfl rfl rfl rfl (op_index_ow el34 rfl rfl rfl rfl (by first | omega | (simp; done) | (simp; omega))) ?_
          first | refine TL_pure rfl rfl rfl rfl (op_load_one ag2 rfl rfl) ?_ | refine TL_pure rfl rfl rfl rfl (op_load_arr1 ag2 rfl rfl (by assumption) rfl rfl) ?_
          refine TL_pure rfl rfl rfl rfl (op_assign rfl) ?_
          refine TL_pure rfl rfl rfl rfl (op_assign rfl) ?_
          refine TL_nil ?_
          refine T_ret ?_
          refine ⟨[_, _], [], ⟨rfl, ⟨rfl, trivial⟩⟩, ?_, rfl, rfl, rfl, rfl⟩
          try clear ih
          first | rfl | (simp only [resVal]; rw [hst, if_pos (by omega)] <;> rfl) | (simp only [resVal]; rw [hst, if_neg (by omega)] <;> rfl) | (simp only [resVal]; rw [stepB_no (by grind)] <;> rfl)

theorem c15 (rows : List (List Int)) (s e : Int) (hlen : rows.length ≤ 1048576) : ACall Try.prog 15 [.agg [aiss rows], .int .i64 s, .int .i64 e] [] (.tup [ai (stepB rows s e).1, .bool (stepB rows s e).2]) [] := by
  refine ACall.intro Try.func15 rfl Try.ntmps15 rfl (fun F hF => ?_)
  have hL : (rows.map ais).length = rows.length := List.length_map _
  refine T_seq ?_
  refine T_region ?_
  refine TL_box 11 rfl rfl rfl rfl rfl rfl rfl ?_
  refine TL_pure rfl rfl rfl rfl (op_assign rfl) ?_
  refine TL_pure rfl rfl rfl rfl (op_assign rfl) ?_
  refine TL_nil ?_
  refine T_seq ?_
  refine T_seq ?_
  refine T_region ?_
  first | refine TL_pure rfl rfl rfl rfl (op_load_agg ag27 sz27 rfl rfl rfl) ?_ | refine TL_pure rfl rfl rfl rfl (op_load_arrN ag27 sz27 rfl rfl (by assumption) rfl rfl rfl) ?_
  refine TL_callF (c12 _ (by omega)) Try.call12 rfl rfl rfl rfl rfl ?_
  refine TL_pure rfl rfl rfl rfl (op_not rfl) ?_
  refine TL_pure rfl rfl rfl rfl (op_move rfl) ?_
  refine TL_split 11 rfl rfl rfl (fun hq => ?_) (fun hq => ?_)
  · try simp only [decide_eq_true_eq, decide_eq_false_iff_not, Bool.not_eq_true', Bool.not_eq_false', Bool.not_true, Bool.not_false, Bool.and_eq_true, Bool.or_eq_true, Bool.and_eq_false_iff, Bool.or_eq_false_iff] at hq
    have hq11 := hq
    refine TL_pass rfl rfl rfl rfl rfl rfl rfl ?_
    refine TL_pass rfl rfl rfl rfl rfl rfl rfl ?_
    refine TL_pass rfl rfl rfl rfl rfl rfl rfl ?_
    refine TL_pass rfl rfl rfl rfl rfl rfl rfl ?_
    refine TL_pass rfl rfl rfl rfl rfl rfl rfl ?_
    refine TL_pass rfl rfl rfl rfl rfl rfl rfl ?_
    refine TL_pure rfl rfl rfl rfl (op_pick_true rfl rfl) ?_
    refine TL_pure rfl rfl rfl rfl (op_move rfl) ?_
    refine TL_pass rfl rfl rfl rfl rfl rfl rfl ?_
    refine TL_pass rfl rfl rfl rfl rfl rfl rfl ?_
    refine TL_pass rfl rfl rfl rfl rfl rfl rfl ?_
    refine TL_pure rfl rfl rfl rfl (op_pick_true rfl rfl) ?_
    refine TL_pure rfl rfl rfl rfl (op_move rfl) ?_
    refine TL_pass rfl rfl rfl rfl rfl rfl rfl ?_
    refine TL_pass rfl rfl rfl rfl rfl rfl rfl ?_
    refine TL_pass rfl rfl rfl rfl rfl rfl rfl ?_
    refine TL_pass rfl rfl rfl rfl rfl rfl rfl ?_
    refine TL_pass rfl rfl rfl rfl rfl rfl rfl ?_
    refine TL_pass rfl rfl rfl rfl rfl rfl rfl ?_
    refine TL_pass rfl rfl rfl rfl rfl rfl rfl ?_
    refine TL_pass rfl rfl rfl rfl rfl rfl rfl ?_
    refine TL_pass rfl rfl rfl rfl rfl rfl rfl ?_
    refine TL_pure rfl rfl rfl rfl (op_pick_true rfl rfl) ?_
    refine TL_nil ?_
    refine T_cond_true rfl ?_
    refine T_seq ?_
    refine T_region ?_
    refine TL_pure rfl rfl rfl rfl (op_assign rfl) ?_
    refine TL_pure rfl rfl rfl rfl (op_assign rfl) ?_
    refine TL_nil ?_
    refine T_ret ?_
    refine ⟨[_, _], [], ⟨rfl, ⟨rfl, trivial⟩⟩, ?_, rfl, rfl, rfl, rfl⟩
    try clear ih
    first | rfl | (simp only [resVal]; rw [hst, if_pos (by omega)] <;> rfl) | (simp only [resVal]; rw [hst, if_neg (by omega)] <;> rfl) | (simp only [resVal]; rw [stepB_no (by grind)] <;> rfl)
  · try simp only [decide_eq_true_eq, decide_eq_false_iff_not, Bool.not_eq_true', Bool.not_eq_false', Bool.not_true, Bool.not_false, Bool.and_eq_true, Bool.or_eq_true, Bool.and_eq_false_iff, Bool.or_eq_false_iff] at hq
    have hq11 := hq
    refine TL_want rfl rfl ?_
    refine TL_pure rfl rfl rfl rfl (op_move rfl) ?_
    refine TL_want rfl rfl ?_
    refine TL_pure rfl rfl rfl rfl (op_fieldAddr fa27_0 rfl rfl) ?_
    refine TL_want rfl rfl ?_
    first | refine TL_pure rfl rfl rfl rfl (op_load_one ag22 rfl rfl) ?_ | refine TL_pure rfl rfl rfl rfl (op_load_arr1 ag22 rfl rfl (by assumption) rfl rfl) ?_
    refine TL_want rfl rfl ?_
    first | refine TL_pure rfl rfl rfl rfl (op_len_sl Try.underlying22 rfl) ?_ | refine TL_pure rfl rfl rfl rfl (op_len_ow Try.underlying22 rfl rfl) ?_ | refine TL_pure rfl rfl rfl rfl (op_len_snil Try.underlying22 rfl) ?_
    refine TL_want rfl rfl ?_
    refine TL_callF (c38 _ _ (by omega) (by omega)) Try.call38 rfl rfl rfl rfl rfl ?_
    refine TL_want rfl rfl ?_
    refine TL_pure rfl rfl rfl rfl (op_not rfl) ?_
    refine TL_pure rfl rfl rfl rfl (op_pick_false rfl rfl) ?_
    refine TL_pure rfl rfl rfl rfl (op_move rfl) ?_
    refine TL_split 19 rfl rfl rfl (fun hq => ?_) (fun hq => ?_)
    · try simp only [decide_eq_true_eq, decide_eq_false_iff_not, Bool.not_eq_true', Bool.not_eq_false', Bool.not_true, Bool.not_false, Bool.and_eq_true, Bool.or_eq_true, Bool.and_eq_false_iff, Bool.or_eq_false_iff] at hq
      have hq19 := hq
      refine TL_pass rfl rfl rfl rfl rfl rfl rfl ?_
      refine TL_pass rfl rfl rfl rfl rfl rfl rfl ?_
      refine TL_pass rfl rfl rfl rfl rfl rfl rfl ?_
      refine TL_pure rfl rfl rfl rfl (op_pick_true rfl rfl) ?_
      refine TL_pure rfl rfl rfl rfl (op_move rfl) ?_
      refine TL_pass rfl rfl rfl rfl rfl rfl rfl ?_
      refine TL_pass rfl rfl rfl rfl rfl rfl rfl ?_
      refine TL_pass rfl rfl rfl rfl rfl rfl rfl ?_
      refine TL_pass rfl rfl rfl rfl rfl rfl rfl ?_
      refine TL_pass rfl rfl rfl rfl rfl rfl rfl ?_
      refine TL_pass rfl rfl rfl rfl rfl rfl rfl ?_
      refine TL_pass rfl rfl rfl rfl rfl rfl rfl ?_
      refine TL_pass rfl rfl rfl rfl rfl rfl rfl ?_
      refine TL_pass rfl rfl rfl rfl rfl rfl rfl ?_
      refine TL_pure rfl rfl rfl rfl (op_pick_true rfl rfl) ?_
      refine TL_nil ?_
      refine T_cond_true rfl ?_
      refine T_seq ?_
      refine T_region ?_
      refine TL_pure rfl rfl rfl rfl (op_assign rfl) ?_
      refine TL_pure rfl rfl rfl rfl (op_assign rfl) ?_
      refine TL_nil ?_
      refine T_ret ?_
      refine ⟨[_, _], [], ⟨rfl, ⟨rfl, trivial⟩⟩, ?_, rfl, rfl, rfl, rfl⟩
      try clear ih
      first | rfl | (simp only [resVal]; rw [hst, if_pos (by omega)] <;> rfl) | (simp only [resVal]; rw [hst, if_neg (by omega)] <;> rfl) | (simp only [resVal]; rw [stepB_no (by grind)] <;> rfl)
    · try simp only [decide_eq_true_eq, decide_eq_false_iff_not, Bool.not_eq_true', Bool.not_eq_false', Bool.not_true, Bool.not_false, Bool.and_eq_true, Bool.or_eq_true, Bool.and_eq_false_iff, Bool.or_eq_false_iff] at hq
      have hq19 := hq
      refine TL_want rfl rfl ?_
      refine TL_pure rfl rfl rfl rfl (op_move rfl) ?_
      refine TL_want rfl rfl ?_
      refine TL_callF (c39 _) Try.call39 rfl rfl rfl rfl rfl ?_
      refine TL_want rfl rfl ?_
      refine TL_pure rfl rfl rfl rfl (op_not rfl) ?_
      refine TL_pure rfl rfl rfl rfl (op_pick_false rfl rfl) ?_
      refine TL_pure rfl rfl rfl rfl (op_move rfl) ?_
      refine TL_split 24 rfl rfl rfl (fun hq => ?_) (fun hq => ?_)
      · try simp only [decide_eq_true_eq, decide_eq_false_iff_not, Bool.not_eq_true', Bool.not_eq_false', Bool.not_true, Bool.not_false, Bool.and_eq_true, Bool.or_eq_true, Bool.and_eq_false_iff, Bool.or_eq_false_iff] at hq
        have hq24 := hq
        refine TL_pass rfl rfl rfl rfl rfl rfl rfl ?_
        refine TL_pass rfl rfl rfl rfl rfl rfl rfl ?_
        refine TL_pass rfl rfl rfl rfl rfl rfl rfl ?_
        refine TL_pass rfl rfl rfl rfl rfl rfl rfl ?_
        refine TL_pass rfl rfl rfl rfl rfl rfl rfl ?_
        refine TL_pass rfl rfl rfl rfl rfl rfl rfl ?_
        refine TL_pass rfl rfl rfl rfl rfl rfl rfl ?_
        refine TL_pass rfl rfl rfl rfl rfl rfl rfl ?_
        refine TL_pass rfl rfl rfl rfl rfl rfl rfl ?_
        refine TL_pure rfl rfl rfl rfl (op_pick_true rfl rfl) ?_
        refine TL_nil ?_
        refine T_cond_true rfl ?_
        refine T_seq ?_
        refine T_region ?_
        refine TL_pure rfl rfl rfl rfl (op_assign rfl) ?_
        refine TL_pure rfl rfl rfl rfl (op_assign rfl) ?_
        refine TL_nil ?_
        refine T_ret ?_
        refine ⟨[_, _], [], ⟨rfl, ⟨rfl, trivial⟩⟩, ?_, rfl, rfl, rfl, rfl⟩
        try clear ih
        first | rfl | (simp only [resVal]; rw [hst, if_pos (by omega)] <;> rfl) | (simp only [resVal]; rw [hst, if_neg (by omega)] <;> rfl) | (simp only [resVal]; rw [stepB_no (by grind)] <;> rfl)
      · try simp only [decide_eq_true_eq, decide_eq_false_iff_not, Bool.not_eq_true', Bool.not_eq_false', Bool.not_true, Bool.not_false, Bool.and_eq_true, Bool.or_eq_true, Bool.and_eq_false_iff, Bool.or_eq_false_iff] at hq
        have hq24 := hq
        refine TL_want rfl rfl ?_
        refine TL_pure rfl rfl rfl rfl (op_fieldAddr fa27_0 rfl rfl) ?_
        refine TL_want rfl rfl ?_
        first | refine TL_pure rfl rfl rfl rfl (op_load_one ag22 rfl rfl) ?_ | refine TL_pure rfl rfl rfl rfl (op_load_arr1 ag22 rfl rfl (by assumption) rfl rfl) ?_
        refine TL_want rfl rfl ?_
        refine TL_pure rfl rfl rfl rfl (op_move rfl) ?_
        refine TL_want rfl rfl ?_
        rw [hL] at *
        obtain ⟨i, j, row, v, rfl, rfl, he, hej, hgi, hgj, hm, hvm, hst⟩ := stepFacts (rows := rows) (by assumption) (by assumption) (by assumption)
        first | refine TL_pure rfl rfl rfl rfl (op_index_sl el22 rfl rfl rfl (by assumption) rfl) ?_ | refine TL_pure rfl rfl rfl rfl (op_index_ow el22 rfl rfl rfl rfl (by first | omega | (simp; done) | (simp; omega))) ?_
        refine TL_want rfl rfl ?_
        first | refine TL_pure rfl rfl rfl rfl (op_load_one ag34 rfl rfl) ?_ | refine TL_pure rfl rfl rfl rfl (op_load_arr1 ag34 rfl rfl (by assumption) rfl rfl) ?_
        refine TL_want rfl rfl ?_
        refine TL_pure rfl rfl rfl rfl (op_move rfl) ?_
        refine TL_want rfl rfl ?_
        first | refine TL_pure rfl rfl rfl rfl (op_index_sl el34 rfl rfl rfl (by assumption) rfl) ?_ | refine TL_pure rfl rfl rfl rfl (op_index_ow el34 rfl rfl rfl rfl (by first | omega | (simp; done) | (simp; omega))) ?_
        refine TL_want rfl rfl ?_
        first | refine TL_pure rfl rfl rfl rfl (op_load_one ag2 rfl rfl) ?_ | refine TL_pure rfl rfl rfl rfl (op_load_arr1 ag2 rfl rfl (by assumption) rfl rfl) ?_
        refine TL_want rfl rfl ?_
        refine TL_pure rfl rfl rfl rfl (op_lss rfl rfl) ?_
        refine TL_pure rfl rfl rfl rfl (op_pick_false rfl rfl) ?_
        refine TL_nil ?_
        refine T_cond rfl (fun hq => ?_) (fun hq => ?_)
        · try simp only [decide_eq_true_eq, decide_eq_false_iff_not, Bool.not_eq_true', Bool.not_eq_false', Bool.not_true, Bool.not_false, Bool.and_eq_true, Bool.or_eq_true, Bool.and_eq_false_iff, Bool.or_eq_false_iff] at hq
          have hq34 := hq
          refine T_seq ?_
          refine T_region ?_
          refine TL_pure rfl rfl rfl rfl (op_assign rfl) ?_
          refine TL_pure rfl rfl rfl rfl (op_assign rfl) ?_
          refine TL_nil ?_
          refine T_ret ?_
          refine ⟨[_, _], [], ⟨rfl, ⟨rfl, trivial⟩⟩, ?_, rfl, rfl, rfl, rfl⟩
          try clear ih
          first | rfl | (simp only [resVal]; rw [hst, if_pos (by omega)] <;> rfl) | (simp only [resVal]; rw [hst, if_neg (by omega)] <;> rfl) | (simp only [resVal]; rw [stepB_no (by grind)] <;> rfl)
        · try simp only [decide_eq_true_eq, decide_eq_false_iff_not, Bool.not_eq_true', Bool.not_eq_false', Bool.not_true, Bool.not_false, Bool.and_eq_true, Bool.or_eq_true, Bool.and_eq_false_iff, Bool.or_eq_false_iff] at hq
          have hq34 := hq
          refine T_skip ?_
          refine T_seq ?_
          refine T_region ?_
          refine TL_pure rfl rfl rfl rfl (op_fieldAddr fa27_0 rfl rfl) ?_
          first | refine TL_pure rfl rfl rfl rfl (op_load_one ag22 rfl rfl) ?_ | refine TL_pure rfl rfl rfl rfl (op_load_arr1 ag22 rfl rfl (by assumption) rfl rfl) ?_
          refine TL_pure rfl rfl rfl rfl (op_move rfl) ?_
          first | refine TL_pure rfl rfl rfl rfl (op_index_sl el22 rfl rfl rfl (by assumption) rfl) ?_ | refine TL_pure rfl rfl rfl rfl (op_index_ow el22 rfl rfl rfl rfl (by first | omega | (simp; done) | (simp; omega))) ?_
          first | refine TL_pure rfl rfl rfl rfl (op_load_one ag34 rfl rfl) ?_ | refine TL_pure rfl rfl rfl rfl (op_load_arr1 ag34 rfl rfl (by assumption) rfl rfl) ?_
          refine TL_pure rfl rfl rfl rfl (op_move rfl) ?_
          first | refine TL_pure rfl rfl rfl rfl (op_index_sl el34 rfl rfl rfl (by assumption) rfl) ?_ | refine TL_pure rfl rfl rfl rfl (op_index_ow el34 rfl rfl rfl rfl (by first | omega | (simp; done) | (simp; omega))) ?_
          first | refine TL_pure rfl rfl rfl rfl (op_load_one ag2 rfl rfl) ?_ | refine TL_pure rfl rfl rfl rfl (op_load_arr1 ag2 rfl rfl (by assumption) rfl rfl) ?_
          refine TL_pure rfl rfl rfl rfl (op_assign rfl) ?_
          refine TL_pure rfl rfl rfl rfl (op_assign rfl) ?_
          refine TL_nil ?_
          refine T_ret ?_
          refine ⟨[_, _], [], ⟨rfl, ⟨rfl, trivial⟩⟩, ?_, rfl, rfl, rfl, rfl⟩
          try clear ih
          first | rfl | (simp only [resVal]; rw [hst, if_pos (by omega)] <;> rfl) | (simp only [resVal]; rw [hst, if_neg (by omega)] <;> rfl) | (simp only [resVal]; rw [stepB_no (by grind)] <;> rfl)

theorem c4 (rows : List (List Int)) (s e : Int) : ACall Try.prog 4 [.agg [aiss rows], .int .i64 s, .int .i64 e] [] (.bool true) [] := by
  refine ACall.intro Try.func4 rfl Try.ntmps4 rfl (fun F hF => ?_)
  refine T_seq ?_
  refine T_region ?_
  refine TL_box 11 rfl rfl rfl rfl rfl rfl rfl ?_
  refine TL_pure rfl rfl rfl rfl (op_assign rfl) ?_
  refine TL_nil ?_
  refine T_seq ?_
  refine T_region ?_
  refine TL_pure rfl rfl rfl rfl (op_assign rfl) ?_
  refine TL_nil ?_
  refine T_seq ?_
  refine T_region ?_
  first | refine TL_pure rfl rfl rfl rfl (op_load_agg ag24 sz24 rfl rfl rfl) ?_ | refine TL_pure rfl rfl rfl rfl (op_load_arrN ag24 sz24 rfl rfl (by assumption) rfl rfl rfl) ?_
  refine TL_pure rfl rfl rfl rfl (op_move rfl) ?_
  refine TL_callF (c9 _ _ (by omega) (by omega)) Try.call9 rfl rfl rfl rfl rfl ?_
  refine TL_pure rfl rfl rfl rfl (op_assign rfl) ?_
  refine TL_nil ?_
  refine T_seq ?_
  refine T_seq ?_
  refine T_region ?_
  refine TL_pure rfl rfl rfl rfl (op_move rfl) ?_
  refine TL_pure rfl rfl rfl rfl (op_lss rfl rfl) ?_
  refine TL_nil ?_
  refine T_cond rfl (fun hq => ?_) (fun hq => ?_)
  · try simp only [decide_eq_true_eq, decide_eq_false_iff_not, Bool.not_eq_true', Bool.not_eq_false', Bool.not_true, Bool.not_false, Bool.and_eq_true, Bool.or_eq_true, Bool.and_eq_false_iff, Bool.or_eq_false_iff] at hq
    have hq17 := hq
    refine T_seq ?_
    refine T_region ?_
    refine TL_pure rfl rfl rfl rfl (op_assign rfl) ?_
    refine TL_nil ?_
    refine T_ret ?_
    refine ⟨[_], [], ⟨rfl, trivial⟩, ?_, rfl, rfl, rfl, rfl⟩
    first | rfl | exact (hq rfl).elim | (exfalso; simp at hq; done)
  · try simp only [decide_eq_true_eq, decide_eq_false_iff_not, Bool.not_eq_true', Bool.not_eq_false', Bool.not_true, Bool.not_false, Bool.and_eq_true, Bool.or_eq_true, Bool.and_eq_false_iff, Bool.or_eq_false_iff] at hq
    have hq17 := hq
    refine T_skip ?_
    refine T_seq ?_
    refine T_region ?_
    obtain ⟨hr1, hr2⟩ := szSS0_le (xs := rows) (left := 1048576) (by omega)
    have hs : rows.length ≤ 1048576 := by omega
    have hrow : ∀ x ∈ rows, x.length ≤ 1048576 := fun x hx => by have := hr2 x hx; omega
    first | refine TL_pure rfl rfl rfl rfl (op_load_agg ag24 sz24 rfl rfl rfl) ?_ | refine TL_pure rfl rfl rfl rfl (op_load_arrN ag24 sz24 rfl rfl (by assumption) rfl rfl rfl) ?_
    refine TL_callT (c11 _ (by omega) (by assumption)) Try.call11 rfl rfl rfl rfl rfl ?_
    refine TL_pure rfl rfl rfl rfl (op_move rfl) ?_
    refine TL_pure rfl rfl rfl rfl (op_move rfl) ?_
    refine TL_callF (c14 _ _ _ (by omega)) Try.call14 rfl rfl rfl rfl rfl ?_
    refine TL_pure rfl rfl rfl rfl (op_move rfl) ?_
    refine TL_pure rfl rfl rfl rfl (op_extract rfl rfl) ?_
    refine TL_pure rfl rfl rfl rfl (op_extract rfl rfl) ?_
    refine TL_pure rfl rfl rfl rfl (op_assign rfl) ?_
    refine TL_pure rfl rfl rfl rfl (op_assign rfl) ?_
    refine TL_nil ?_
    refine T_seq ?_
    refine T_region ?_
    first | refine TL_pure rfl rfl rfl rfl (op_load_agg ag24 sz24 rfl rfl rfl) ?_ | refine TL_pure rfl rfl rfl rfl (op_load_arrN ag24 sz24 rfl rfl (by assumption) rfl rfl rfl) ?_
    refine TL_callT (c11 _ (by omega) (by assumption)) Try.call11 rfl rfl rfl rfl rfl ?_
    refine TL_alloc 12 z27 rfl rfl rfl rfl rfl rfl rfl ?_
    first | refine TL_store_box sz27 rfl rfl rfl rfl rfl rfl rfl rfl rfl ?_ | refine TL_store_elt sz27 rfl rfl (by first | omega | (simp; done) | (simp; omega)) rfl rfl rfl ?_ | refine TL_store_part sz27 rfl rfl (by assumption) rfl rfl rfl rfl rfl rfl rfl rfl ?_
    refine TL_nil ?_
    refine T_seq ?_
    refine T_region ?_
    first | refine TL_pure rfl rfl rfl rfl (op_load_agg ag27 sz27 rfl rfl rfl) ?_ | refine TL_pure rfl rfl rfl rfl (op_load_arrN ag27 sz27 rfl rfl (by assumption) rfl rfl rfl) ?_
    refine TL_pure rfl rfl rfl rfl (op_move rfl) ?_
    refine TL_pure rfl rfl rfl rfl (op_move rfl) ?_
    refine TL_callF (c15 _ _ _ (by omega)) Try.call15 rfl rfl rfl rfl rfl ?_
    refine TL_pure rfl rfl rfl rfl (op_move rfl) ?_
    refine TL_pure rfl rfl rfl rfl (op_extract rfl rfl) ?_
    refine TL_pure rfl rfl rfl rfl (op_extract rfl rfl) ?_
    refine TL_pure rfl rfl rfl rfl (op_assign rfl) ?_
    refine TL_pure rfl rfl rfl rfl (op_assign rfl) ?_
    refine TL_nil ?_
    refine T_seq ?_
    refine T_seq ?_
    refine T_region ?_
    refine TL_pure rfl rfl rfl rfl (op_move rfl) ?_
    refine TL_pure rfl rfl rfl rfl (op_move rfl) ?_
    refine TL_pure rfl rfl rfl rfl (op_neq rfl rfl) ?_
    refine TL_pure rfl rfl rfl rfl (op_move rfl) ?_
    refine TL_split 38 rfl rfl rfl (fun hq => ?_) (fun hq => ?_)
    · try simp only [decide_eq_true_eq, decide_eq_false_iff_not, Bool.not_eq_true', Bool.not_eq_false', Bool.not_true, Bool.not_false, Bool.and_eq_true, Bool.or_eq_true, Bool.and_eq_false_iff, Bool.or_eq_false_iff] at hq
      have hq38 := hq
      refine TL_pass rfl rfl rfl rfl rfl rfl rfl ?_
      refine TL_pass rfl rfl rfl rfl rfl rfl rfl ?_
      refine TL_pass rfl rfl rfl rfl rfl rfl rfl ?_
      refine TL_pure rfl rfl rfl rfl (op_pick_true rfl rfl) ?_
      refine TL_nil ?_
      refine T_cond_true rfl ?_
      refine T_seq ?_
      refine T_region ?_
      refine TL_pure rfl rfl rfl rfl (op_assign rfl) ?_
      refine TL_nil ?_
      refine T_ret ?_
      refine ⟨[_], [], ⟨rfl, trivial⟩, ?_, rfl, rfl, rfl, rfl⟩
      first | rfl | exact (hq rfl).elim | (exfalso; simp at hq; done)
    · try simp only [decide_eq_true_eq, decide_eq_false_iff_not, Bool.not_eq_true', Bool.not_eq_false', Bool.not_true, Bool.not_false, Bool.and_eq_true, Bool.or_eq_true, Bool.and_eq_false_iff, Bool.or_eq_false_iff] at hq
      have hq38 := hq
      refine TL_want rfl rfl ?_
      refine TL_pure rfl rfl rfl rfl (op_move rfl) ?_
      refine TL_want rfl rfl ?_
      refine TL_pure rfl rfl rfl rfl (op_move rfl) ?_
      refine TL_want rfl rfl ?_
      refine TL_pure rfl rfl rfl rfl (op_neqB Try.underlying4 rfl rfl) ?_
      refine TL_pure rfl rfl rfl rfl (op_pick_false rfl rfl) ?_
      refine TL_nil ?_
      refine T_cond rfl (fun hq => ?_) (fun hq => ?_)
      · try simp only [decide_eq_true_eq, decide_eq_false_iff_not, Bool.not_eq_true', Bool.not_eq_false', Bool.not_true, Bool.not_false, Bool.and_eq_true, Bool.or_eq_true, Bool.and_eq_false_iff, Bool.or_eq_false_iff] at hq
        have hq42 := hq
        refine T_seq ?_
        refine T_region ?_
        refine TL_pure rfl rfl rfl rfl (op_assign rfl) ?_
        refine TL_nil ?_
        refine T_ret ?_
        refine ⟨[_], [], ⟨rfl, trivial⟩, ?_, rfl, rfl, rfl, rfl⟩
        first | rfl | exact (hq rfl).elim | (exfalso; simp at hq; done)
      · try simp only [decide_eq_true_eq, decide_eq_false_iff_not, Bool.not_eq_true', Bool.not_eq_false', Bool.not_true, Bool.not_false, Bool.and_eq_true, Bool.or_eq_true, Bool.and_eq_false_iff, Bool.or_eq_false_iff] at hq
        have hq42 := hq
        refine T_skip ?_
        refine T_seq ?_
        refine T_seq ?_
        refine T_drawZ [] mix (by kernel_rfl) rfl ?_
        first | refine TZ_pure 0 (by kernel_rfl) rfl rfl rfl rfl rfl (op_load_agg ag27 sz27 rfl rfl rfl) ?_ | refine TZ_pure 0 (by kernel_rfl) rfl rfl rfl rfl rfl (op_load_arrN ag27 sz27 rfl rfl (by assumption) rfl rfl rfl) ?_
        first | refine TZ_pure 1 (by kernel_rfl) rfl rfl rfl rfl rfl (op_load_agg ag24 sz24 rfl rfl rfl) ?_ | refine TZ_pure 1 (by kernel_rfl) rfl rfl rfl rfl rfl (op_load_arrN ag24 sz24 rfl rfl (by assumption) rfl rfl rfl) ?_
        refine TZ_one 2 (by kernel_rfl) rfl ?_
        refine TL_callT (c11 _ (by omega) (by assumption)) Try.call11 rfl rfl rfl rfl rfl ?_
        refine TL_nil ?_
        refine TZ_one 3 (by kernel_rfl) rfl ?_
        refine TL_callF (c13 _ _) Try.call13 rfl rfl rfl rfl rfl ?_
        refine TL_nil ?_
        refine TZ_pure 4 (by kernel_rfl) rfl rfl rfl rfl rfl (op_not rfl) ?_
        refine TZ_done (by kernel_rfl) ?_
        refine T_cond rfl (fun hq => ?_) (fun hq => ?_)
        · try simp only [decide_eq_true_eq, decide_eq_false_iff_not, Bool.not_eq_true', Bool.not_eq_false', Bool.not_true, Bool.not_false, Bool.and_eq_true, Bool.or_eq_true, Bool.and_eq_false_iff, Bool.or_eq_false_iff] at hq
          have hq47 := hq
          refine T_seq ?_
          refine T_region ?_
          refine TL_pure rfl rfl rfl rfl (op_assign rfl) ?_
          refine TL_nil ?_
          refine T_ret ?_
          refine ⟨[_], [], ⟨rfl, trivial⟩, ?_, rfl, rfl, rfl, rfl⟩
          first | rfl | exact (hq rfl).elim | (exfalso; simp at hq; done)
        · try simp only [decide_eq_true_eq, decide_eq_false_iff_not, Bool.not_eq_true', Bool.not_eq_false', Bool.not_true, Bool.not_false, Bool.and_eq_true, Bool.or_eq_true, Bool.and_eq_false_iff, Bool.or_eq_false_iff] at hq
          have hq47 := hq
          refine T_skip ?_
          refine T_seq ?_
          refine T_region ?_
          refine TL_pure rfl rfl rfl rfl (op_assign rfl) ?_
          refine TL_nil ?_
          refine T_ret ?_
          refine ⟨[_], [], ⟨rfl, trivial⟩, ?_, rfl, rfl, rfl, rfl⟩
          first | rfl | exact (hq rfl).elim | (exfalso; simp at hq; done)

end Go.Proofs.Pol
