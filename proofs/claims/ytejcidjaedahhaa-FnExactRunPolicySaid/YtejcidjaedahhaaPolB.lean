/- Walks over the policy seat, printed by wip/pol/mk.py. -/
import Derived.Test.YtejcidjaedahhaaPolA
namespace Go.Proofs.Pol
open Go Go.AM Go.Proofs
set_option linter.unusedVariables false
set_option linter.unusedSimpArgs false
set_option maxRecDepth 100000
theorem ag22 : tyAgg Try.prog 22 = some false := by kernel_rfl
theorem ag34 : tyAgg Try.prog 34 = some false := by kernel_rfl
theorem el22 : tyElem Try.prog 22 = some (34, 1) := by kernel_rfl
theorem fa24_0 : tyField Try.prog 24 0 = some 0 := by kernel_rfl

def szS (n : Nat) (left : Int) : Int := if left - n < 0 then -1 else left - n
def szF (l : Int) (x : List Int) : Int := if l < 0 then -1 else szS x.length l
def szSS (xs : List (List Int)) (left : Int) : Int := xs.foldl szF left
def szSS0 (xs : List (List Int)) (left : Int) : Int := if left - xs.length < 0 then -1 else szSS xs (left - xs.length)

theorem szS_le {n : Nat} {left : Int} (h : 0 ≤ szS n left) : szS n left = left - n ∧ 0 ≤ left - n := by
  unfold szS at *; grind
theorem szS_ge (n : Nat) (left : Int) (h : -1 ≤ left) : -1 ≤ szS n left ∧ szS n left ≤ left := by unfold szS; grind
theorem szF_neg (r : List (List Int)) : r.foldl szF (-1) = -1 := by
  induction r with
  | nil => rfl
  | cons x r ih => simpa [szF] using ih
theorem szSS_app (pre r : List (List Int)) (left : Int) : szSS (pre ++ r) left = szSS r (szSS pre left) := by simp [szSS]
theorem szSS_snoc (pre : List (List Int)) (x : List Int) (left : Int) (h : 0 ≤ szSS pre left) : szSS (pre ++ [x]) left = szS x.length (szSS pre left) := by
  rw [szSS_app]; show szF (szSS pre left) x = _; unfold szF; rw [if_neg (by omega)]
theorem szSS_bad (pre : List (List Int)) (x : List Int) (r : List (List Int)) (left : Int) (h : 0 ≤ szSS pre left) (hx : szS x.length (szSS pre left) < 0) (hm : -1 ≤ szS x.length (szSS pre left)) :
    szSS (pre ++ x :: r) left = -1 := by
  have : pre ++ x :: r = (pre ++ [x]) ++ r := by simp
  rw [this, szSS_app, szSS_snoc _ _ _ h, show szS x.length (szSS pre left) = -1 by omega]
  exact szF_neg r
theorem szSS_le : ∀ (xs : List (List Int)) (left : Int), 0 ≤ left → 0 ≤ szSS xs left → szSS xs left ≤ left ∧ ∀ x ∈ xs, (x.length : Int) ≤ left := by
  intro xs
  induction xs with
  | nil => intro left _ h; exact ⟨Int.le_refl _, fun x hx => by cases hx⟩
  | cons x r ih =>
    intro left h0 h
    have e : szSS (x :: r) left = szSS r (szS x.length left) := by simp only [szSS, List.foldl_cons]; unfold szF; rw [if_neg (by omega)]
    rw [e] at h ⊢
    by_cases h1 : szS x.length left < 0
    · have := szS_ge x.length left (by omega)
      rw [show szS x.length left = -1 by omega] at h
      have := szF_neg r
      unfold szSS at h; omega
    · obtain ⟨h2, h3⟩ := szS_le (n := x.length) (left := left) (by omega)
      obtain ⟨h4, h5⟩ := ih _ (by omega) h
      refine ⟨by omega, fun y hy => ?_⟩
      rcases List.mem_cons.1 hy with rfl | hy
      · omega
      · have := h5 y hy; omega
theorem szSS_ge : ∀ (xs : List (List Int)) (left : Int), -1 ≤ left → -1 ≤ szSS xs left := by
  intro xs
  induction xs with
  | nil => intro left h; exact h
  | cons x r ih =>
    intro left h
    show -1 ≤ szSS r (szF left x)
    refine ih _ ?_
    unfold szF szS; grind
theorem szSS0_ge (xs : List (List Int)) (left : Int) (h : 0 ≤ left) : -1 ≤ szSS0 xs left := by
  unfold szSS0
  split
  · omega
  · exact szSS_ge _ _ (by omega)
theorem szSS0_le {xs : List (List Int)} {left : Int} (h : 0 ≤ szSS0 xs left) : (xs.length : Int) ≤ left ∧ ∀ x ∈ xs, (x.length : Int) ≤ left := by
  unfold szSS0 at h
  split at h
  · omega
  · obtain ⟨h1, h2⟩ := szSS_le _ _ (by omega) h
    exact ⟨by omega, fun x hx => by have := h2 x hx; omega⟩

theorem c51 (xs : List Int) (left : Int) (h0 : 0 ≤ left) (h1 : left ≤ 9223372036854775807) : ACall Try.prog 51 [ais xs, .int .i64 left] [] (.int .i64 (szS xs.length left)) [] := by
  refine ACall.intro Try.func51 rfl Try.ntmps51 rfl (fun F hF => ?_)
  refine T_slLen 0 rfl (fun hlen => ?_)
  have hL : (xs.map ai).length = xs.length := List.length_map _
  rw [hL] at hlen
  refine T_seq ?_
  refine T_region ?_
  refine TL_pure rfl rfl rfl rfl (op_assign rfl) ?_
  refine TL_nil ?_
  refine T_seq ?_
  refine T_region ?_
  refine TL_pure rfl rfl rfl rfl (op_move rfl) ?_
  refine TL_pure rfl rfl rfl rfl (op_move rfl) ?_
  first | refine TL_pure rfl rfl rfl rfl (op_len_sl Try.underlying34 rfl) ?_ | refine TL_pure rfl rfl rfl rfl (op_len_ow Try.underlying34 rfl rfl) ?_ | refine TL_pure rfl rfl rfl rfl (op_len_snil Try.underlying34 rfl) ?_
  refine TL_pure rfl rfl rfl rfl (op_sub64 rfl rfl (by omega)) ?_
  refine TL_pure rfl rfl rfl rfl (op_assign rfl) ?_
  refine TL_nil ?_
  refine T_seq ?_
  refine T_seq ?_
  refine T_region ?_
  refine TL_pure rfl rfl rfl rfl (op_move rfl) ?_
  refine TL_pure rfl rfl rfl rfl (op_lss rfl rfl) ?_
  refine TL_nil ?_
  refine T_cond rfl (fun hq => ?_) (fun hq => ?_)
  · try simp only [decide_eq_true_eq, decide_eq_false_iff_not, Bool.not_eq_true', Bool.not_eq_false', Bool.not_true, Bool.not_false, Bool.and_eq_true, Bool.or_eq_true, Bool.and_eq_false_iff, Bool.or_eq_false_iff] at hq
    have hq10 := hq
    refine T_seq ?_
    refine T_region ?_
    refine TL_pure rfl rfl rfl rfl (op_assign rfl) ?_
    refine TL_nil ?_
    refine T_ret ?_
    refine ⟨[_], [], ⟨rfl, trivial⟩, ?_, rfl, rfl, rfl, rfl⟩
    simp [resVal, szS, *]
    try omega
  · try simp only [decide_eq_true_eq, decide_eq_false_iff_not, Bool.not_eq_true', Bool.not_eq_false', Bool.not_true, Bool.not_false, Bool.and_eq_true, Bool.or_eq_true, Bool.and_eq_false_iff, Bool.or_eq_false_iff] at hq
    have hq10 := hq
    refine T_skip ?_
    refine T_seq ?_
    refine T_region ?_
    refine TL_pure rfl rfl rfl rfl (op_move rfl) ?_
    refine TL_pure rfl rfl rfl rfl (op_assign rfl) ?_
    refine TL_nil ?_
    refine T_ret ?_
    refine ⟨[_], [], ⟨rfl, trivial⟩, ?_, rfl, rfl, rfl, rfl⟩
    simp [resVal, szS, *]
    try omega

theorem c29 (xs : List (List Int)) (left : Int) (h0 : 0 ≤ left) (h1 : left ≤ 9223372036854775807) : ACall Try.prog 29 [aiss xs, .int .i64 left] [] (.int .i64 (szSS0 xs left)) [] := by
  refine ACall.intro Try.func29 rfl Try.ntmps29 rfl (fun F hF => ?_)
  refine T_slLen 0 rfl (fun hlen => ?_)
  have hL : (xs.map ais).length = xs.length := List.length_map _
  rw [hL] at hlen
  refine T_seq ?_
  refine T_region ?_
  refine TL_pure rfl rfl rfl rfl (op_assign rfl) ?_
  refine TL_nil ?_
  refine T_seq ?_
  refine T_region ?_
  refine TL_pure rfl rfl rfl rfl (op_move rfl) ?_
  refine TL_pure rfl rfl rfl rfl (op_move rfl) ?_
  first | refine TL_pure rfl rfl rfl rfl (op_len_sl Try.underlying22 rfl) ?_ | refine TL_pure rfl rfl rfl rfl (op_len_ow Try.underlying22 rfl rfl) ?_ | refine TL_pure rfl rfl rfl rfl (op_len_snil Try.underlying22 rfl) ?_
  refine TL_pure rfl rfl rfl rfl (op_sub64 rfl rfl (by omega)) ?_
  refine TL_pure rfl rfl rfl rfl (op_assign rfl) ?_
  refine TL_nil ?_
  refine T_seq ?_
  refine T_seq ?_
  refine T_region ?_
  refine TL_pure rfl rfl rfl rfl (op_move rfl) ?_
  refine TL_pure rfl rfl rfl rfl (op_lss rfl rfl) ?_
  refine TL_nil ?_
  refine T_cond rfl (fun hq => ?_) (fun hq => ?_)
  · try simp only [decide_eq_true_eq, decide_eq_false_iff_not, Bool.not_eq_true', Bool.not_eq_false', Bool.not_true, Bool.not_false, Bool.and_eq_true, Bool.or_eq_true, Bool.and_eq_false_iff, Bool.or_eq_false_iff] at hq
    have hq11 := hq
    refine T_seq ?_
    refine T_region ?_
    refine TL_pure rfl rfl rfl rfl (op_assign rfl) ?_
    refine TL_nil ?_
    refine T_ret ?_
    refine ⟨[_], [], ⟨rfl, trivial⟩, ?_, rfl, rfl, rfl, rfl⟩
    try clear ih
    first | rfl | (simp only [resVal]; unfold szSS0; rw [if_pos (by omega)]) | (simp only [resVal]; have hbad := szSS_bad pre x r (left - xs.length) hI.1 hq hg.1; rw [← hx] at hbad; unfold szSS0; rw [if_neg (by omega), hbad]) | (simp only [resVal]; simp only [List.append_nil] at hx; subst hx; unfold szSS0; rw [if_neg (by omega)])
  · try simp only [decide_eq_true_eq, decide_eq_false_iff_not, Bool.not_eq_true', Bool.not_eq_false', Bool.not_true, Bool.not_false, Bool.and_eq_true, Bool.or_eq_true, Bool.and_eq_false_iff, Bool.or_eq_false_iff] at hq
    have hq11 := hq
    refine T_skip ?_
    refine T_seq ?_
    refine T_seq ?_
    refine T_region ?_
    refine TL_pure rfl rfl rfl rfl (op_assign rfl) ?_
    refine TL_nil ?_
    refine T_block ?_
    refine T_loop ?_
    refine TR_keep [0, 1, 4, 5] rfl ?_
    refine TR_cast (at0 xs (fun pre suf => ⟨[(0, aiss xs), (1, .int .i64 (szSS pre (left - xs.length))), (4, .int .i64 0), (5, .int .i64 pre.length)], []⟩)) (by simp only [at0]; simp [szSS]) ?_
    refine TR_list xs (fun pre suf => ⟨[(0, aiss xs), (1, .int .i64 (szSS pre (left - xs.length))), (4, .int .i64 0), (5, .int .i64 pre.length)], []⟩) (fun pre => 0 ≤ szSS pre (left - xs.length) ∧ szSS pre (left - xs.length) ≤ left) (⟨by simp [szSS]; omega, by simp [szSS]; omega⟩) ?_
    intro pre suf hx hI ih
    rcases suf with _ | ⟨x, r⟩
    · have hl : pre.length = xs.length := by simp [hx]
      refine T_seq ?_
      refine T_seq ?_
      refine T_region ?_
      refine TL_pure rfl rfl rfl rfl (op_move rfl) ?_
      refine TL_pure rfl rfl rfl rfl (op_move rfl) ?_
      first | refine TL_pure rfl rfl rfl rfl (op_len_sl Try.underlying22 rfl) ?_ | refine TL_pure rfl rfl rfl rfl (op_len_ow Try.underlying22 rfl rfl) ?_ | refine TL_pure rfl rfl rfl rfl (op_len_snil Try.underlying22 rfl) ?_
      refine TL_pure rfl rfl rfl rfl (op_lss rfl rfl) ?_
      refine TL_nil ?_
      refine T_if_false rfl (by first | (rw [decide_eq_true_eq]; omega) | (rw [decide_eq_false_iff_not]; omega) | (simp [hx]; done) | (simp [hx]; omega)) ?_
      refine T_exit ?_
      refine T_seq ?_
      refine T_region ?_
      refine TL_pure rfl rfl rfl rfl (op_move rfl) ?_
      refine TL_pure rfl rfl rfl rfl (op_assign rfl) ?_
      refine TL_nil ?_
      refine T_ret ?_
      refine ⟨[_], [], ⟨rfl, trivial⟩, ?_, rfl, rfl, rfl, rfl⟩
      try clear ih
      first | rfl | (simp only [resVal]; unfold szSS0; rw [if_pos (by omega)]) | (simp only [resVal]; have hbad := szSS_bad pre x r (left - xs.length) hI.1 hq hg.1; rw [← hx] at hbad; unfold szSS0; rw [if_neg (by omega), hbad]) | (simp only [resVal]; simp only [List.append_nil] at hx; subst hx; unfold szSS0; rw [if_neg (by omega)])
    · have hl : pre.length + (r.length + 1) = xs.length := by simp [hx]
      have he : (xs.map ais)[pre.length]? = some (ais x) := by simp [hx]
      have hg := szS_ge x.length (szSS pre (left - xs.length)) (by omega)
      refine T_seq ?_
      refine T_seq ?_
      refine T_region ?_
      refine TL_pure rfl rfl rfl rfl (op_move rfl) ?_
      refine TL_pure rfl rfl rfl rfl (op_move rfl) ?_
      first | refine TL_pure rfl rfl rfl rfl (op_len_sl Try.underlying22 rfl) ?_ | refine TL_pure rfl rfl rfl rfl (op_len_ow Try.underlying22 rfl rfl) ?_ | refine TL_pure rfl rfl rfl rfl (op_len_snil Try.underlying22 rfl) ?_
      refine TL_pure rfl rfl rfl rfl (op_lss rfl rfl) ?_
      refine TL_nil ?_
      refine T_if_true rfl (by first | (rw [decide_eq_true_eq]; omega) | (rw [decide_eq_false_iff_not]; omega) | (simp [hx]; done) | (simp [hx]; omega)) ?_
      refine T_skip ?_
      refine T_seq ?_
      refine T_block ?_
      refine T_seq ?_
      refine T_region ?_
      refine TL_pure rfl rfl rfl rfl (op_move rfl) ?_
      refine TL_pure rfl rfl rfl rfl (op_move rfl) ?_
      first | refine TL_pure rfl rfl rfl rfl (op_index_sl el22 rfl rfl rfl (by assumption) rfl) ?_ | refine TL_pure rfl rfl rfl rfl (op_index_ow el22 rfl rfl rfl rfl (by first | omega | (simp; done) | (simp; omega))) ?_
      first | refine TL_pure rfl rfl rfl rfl (op_load_one ag34 rfl rfl) ?_ | refine TL_pure rfl rfl rfl rfl (op_load_arr1 ag34 rfl rfl (by assumption) rfl rfl) ?_
      refine TL_pure rfl rfl rfl rfl (op_move rfl) ?_
      refine TL_callF (c51 _ _ (by omega) (by omega)) Try.call51 rfl rfl rfl rfl rfl ?_
      refine TL_pure rfl rfl rfl rfl (op_assign rfl) ?_
      refine TL_nil ?_
      refine T_seq ?_
      refine T_region ?_
      refine TL_pure rfl rfl rfl rfl (op_move rfl) ?_
      refine TL_pure rfl rfl rfl rfl (op_lss rfl rfl) ?_
      refine TL_nil ?_
      refine T_cond rfl (fun hq => ?_) (fun hq => ?_)
      · try simp only [decide_eq_true_eq, decide_eq_false_iff_not, Bool.not_eq_true', Bool.not_eq_false', Bool.not_true, Bool.not_false, Bool.and_eq_true, Bool.or_eq_true, Bool.and_eq_false_iff, Bool.or_eq_false_iff] at hq
        have hq25 := hq
        refine T_seq ?_
        refine T_region ?_
        refine TL_pure rfl rfl rfl rfl (op_assign rfl) ?_
        refine TL_nil ?_
        refine T_ret ?_
        refine ⟨[_], [], ⟨rfl, trivial⟩, ?_, rfl, rfl, rfl, rfl⟩
        try clear ih
        first | rfl | (simp only [resVal]; unfold szSS0; rw [if_pos (by omega)]) | (simp only [resVal]; have hbad := szSS_bad pre x r (left - xs.length) hI.1 hq hg.1; rw [← hx] at hbad; unfold szSS0; rw [if_neg (by omega), hbad]) | (simp only [resVal]; simp only [List.append_nil] at hx; subst hx; unfold szSS0; rw [if_neg (by omega)])
      · try simp only [decide_eq_true_eq, decide_eq_false_iff_not, Bool.not_eq_true', Bool.not_eq_false', Bool.not_true, Bool.not_false, Bool.and_eq_true, Bool.or_eq_true, Bool.and_eq_false_iff, Bool.or_eq_false_iff] at hq
        have hq25 := hq
        refine T_skip ?_
        refine T_region ?_
        refine TL_pure rfl rfl rfl rfl (op_move rfl) ?_
        refine TL_pure rfl rfl rfl rfl (op_add64 rfl rfl (by omega)) ?_
        refine TL_pure rfl rfl rfl rfl (op_assign rfl) ?_
        refine TL_nil ?_
        refine TR_keep [0, 1, 4, 5] rfl ?_
        have hs := szSS_snoc pre x (left - xs.length) hI.1
        exact ih x r rfl (by rw [hs]; omega) _ (by simp [hs])

theorem c9 (xs : List (List Int)) (left : Int) (h0 : 0 ≤ left) (h1 : left ≤ 9223372036854775807) : ACall Try.prog 9 [.agg [aiss xs], .int .i64 left] [] (.int .i64 (szSS0 xs left)) [] := by
  refine ACall.intro Try.func9 rfl Try.ntmps9 rfl (fun F hF => ?_)
  refine T_seq ?_
  refine T_region ?_
  refine TL_box 11 rfl rfl rfl rfl rfl rfl rfl ?_
  refine TL_pure rfl rfl rfl rfl (op_assign rfl) ?_
  refine TL_nil ?_
  refine T_seq ?_
  refine T_region ?_
  refine TL_pure rfl rfl rfl rfl (op_fieldAddr fa24_0 rfl rfl) ?_
  first | refine TL_pure rfl rfl rfl rfl (op_load_one ag22 rfl rfl) ?_ | refine TL_pure rfl rfl rfl rfl (op_load_arr1 ag22 rfl rfl (by assumption) rfl rfl) ?_
  refine TL_pure rfl rfl rfl rfl (op_move rfl) ?_
  refine TL_callF (c29 _ _ (by omega) (by omega)) Try.call29 rfl rfl rfl rfl rfl ?_
  refine TL_pure rfl rfl rfl rfl (op_assign rfl) ?_
  refine TL_nil ?_
  refine T_seq ?_
  refine T_seq ?_
  refine T_region ?_
  refine TL_pure rfl rfl rfl rfl (op_move rfl) ?_
  refine TL_pure rfl rfl rfl rfl (op_lss rfl rfl) ?_
  refine TL_nil ?_
  refine T_cond rfl (fun hq => ?_) (fun hq => ?_)
  · try simp only [decide_eq_true_eq, decide_eq_false_iff_not, Bool.not_eq_true', Bool.not_eq_false', Bool.not_true, Bool.not_false, Bool.and_eq_true, Bool.or_eq_true, Bool.and_eq_false_iff, Bool.or_eq_false_iff] at hq
    have hq10 := hq
    refine T_seq ?_
    refine T_region ?_
    refine TL_pure rfl rfl rfl rfl (op_assign rfl) ?_
    refine TL_nil ?_
    refine T_ret ?_
    refine ⟨[_], [], ⟨rfl, trivial⟩, ?_, rfl, rfl, rfl, rfl⟩
    try clear ih
    first | rfl | (simp only [resVal]; rfl) | (simp only [resVal]; have hb := szSS0_ge xs left h0; rw [show szSS0 xs left = -1 by omega])
  · try simp only [decide_eq_true_eq, decide_eq_false_iff_not, Bool.not_eq_true', Bool.not_eq_false', Bool.not_true, Bool.not_false, Bool.and_eq_true, Bool.or_eq_true, Bool.and_eq_false_iff, Bool.or_eq_false_iff] at hq
    have hq10 := hq
    refine T_skip ?_
    refine T_seq ?_
    refine T_region ?_
    refine TL_pure rfl rfl rfl rfl (op_move rfl) ?_
    refine TL_pure rfl rfl rfl rfl (op_assign rfl) ?_
    refine TL_nil ?_
    refine T_ret ?_
    refine ⟨[_], [], ⟨rfl, trivial⟩, ?_, rfl, rfl, rfl, rfl⟩
    try clear ih
    first | rfl | (simp only [resVal]; rfl) | (simp only [resVal]; have hb := szSS0_ge xs left h0; rw [show szSS0 xs left = -1 by omega])

end Go.Proofs.Pol
