/- Multiples and opposites. Plain Lean. -/
import Derived.Test.YtlijhkhbdfgapaaPuD
namespace Go.Mod
open Go.AM
set_option linter.unusedVariables false
set_option linter.unusedSimpArgs false

theorem vT_one (c : Int) (h : inR c = true) : vT (Term.mk c []) = true := by unfold vT; simp only [h]; rfl
theorem coef_nil (i : Nat) : coef [] i = 0 := rfl

def fScale (p : Term) (m : Int) : Term × Bool := bif vT p && inR m then chk (Term.mk (m * p.Const) (trim (tab fun i => m * coef p.Coeffs i))) else (Term.mk 0 [], false)
theorem spec_scale {p : Term} {m : Int} (hp : cTerm p ≤ 1048576) : m_spec_ScaleTerm p m = some (fScale p m) := by
  unfold m_spec_ScaleTerm fScale
  rw [spec_is hp, Option.bind_some, spec_number, Option.bind_some]
  cases h1 : vT p with
  | false => rfl
  | true =>
    cases h2 : inR m with
    | false => rfl
    | true =>
      unfold m_spec_l02Scale
      rw [spec_sum h1 (vT_one 0 rfl) (inR_iff.1 h2) (by unfold mOK; omega)]
      simp only [Int.zero_mul, Int.add_zero]; rfl
theorem lin_one (p : Term) (m : Int) (g : Term → Int) : lin [p] [m] g 1 = m * g p := by
  unfold lin
  simp [sumN, coef, tAt]
theorem impl_scale {p : Term} {m : Int} : m_impl_ScaleTerm p m = some (fScale p m) := by
  unfold m_impl_ScaleTerm fScale
  rw [impl_valid, Option.bind_some, show m_impl_isCoeff m = some (inR m) from rfl, Option.bind_some]
  cases h1 : vT p with
  | false => rfl
  | true =>
    cases h2 : inR m with
    | false => rfl
    | true =>
      rw [impl_combined ⟨by simp [h1], by simpa [mOK] using inR_iff.1 h2, by simp, rfl⟩, Option.bind_some, impl_checked]
      simp only [List.length_cons, List.length_nil, Nat.zero_add, lin_one]
      rfl
theorem fScale_small (p : Term) (m : Int) : small (fScale p m) := by
  unfold fScale
  cases vT p && inR m
  · exact Nat.zero_le _
  · exact chk_small _

def fOpp (p : Term) : Term × Bool := bif vT p then chk (Term.mk (-p.Const - 1) (trim (tab fun i => -coef p.Coeffs i))) else (Term.mk 0 [], false)
theorem spec_opp {p : Term} (hp : cTerm p ≤ 1048576) : m_spec_OppositeOf p = some (fOpp p) := by
  unfold m_spec_OppositeOf fOpp
  rw [spec_is hp, Option.bind_some]
  cases h1 : vT p with
  | false => rfl
  | true =>
    unfold m_spec_l02Opposite
    rw [spec_sum h1 (vT_one 1 rfl) (by unfold mOK; omega) (by unfold mOK; omega)]
    simp only [coef_nil, Int.mul_zero, Int.add_zero, Int.neg_mul, Int.one_mul]; rfl
theorem impl_opp {p : Term} : m_impl_OppositeOf p = some (fOpp p) := by
  unfold m_impl_OppositeOf fOpp
  rw [impl_valid, Option.bind_some]
  cases h1 : vT p with
  | false => rfl
  | true =>
    unfold m_impl_Term_opposite
    have := const_rng h1
    rw [impl_combined ⟨by simp [h1], by simp [mOK], by simp, rfl⟩]
    simp only [List.length_cons, List.length_nil, Nat.zero_add, lin_one, Option.bind_some, Int.neg_mul, Int.one_mul, Bool.not_true, cond_false, cond_true, impl_checked]
    rw [w64_eq (by omega)]
theorem fOpp_small (p : Term) : small (fOpp p) := by
  unfold fOpp
  cases vT p
  · exact Nat.zero_le _
  · exact chk_small _

theorem law_ScaleTerm {p : Term} {m : Int} (kp : k_Term p) (km : k_i64 m) : m_laws_FnExactScaleTerm p m = some true := by
  unfold m_laws_FnExactScaleTerm
  rw [show (1048576 : Int) = ((1048576 : Nat) : Int) from rfl, sz_Term kp.2.1 _ (Nat.le_refl _), Option.bind_some]
  by_cases h1 : cTerm p ≤ 1048576
  · obtain ⟨r1, a1, b1⟩ := mk_Term h1 (k := 1) (by omega)
    obtain ⟨r3, a3, b3⟩ := mk_Term (fScale_small p m) (k := 1) (by omega)
    replace a1 : m_laws_markTerm p 1 = _ := a1
    replace a3 : m_laws_markTerm (fScale p m).1 1 = _ := a3
    replace b3 : m_laws_heldTerm (Term.mk (fScale p m).1.Const r3) 1 = _ := b3
    simp only [szOut_ok h1, dec_neg, cond_false, Option.bind_some, to_Term h1, spec_scale h1, impl_scale, eq_Term (fScale_small p m), eq_Term h1, decide_true, bool_beq, Bool.not_true, Bool.or_false, a1, a3, b3]
  · rw [szOut_no h1]; rfl
theorem law_OppositeOf {p : Term} (kp : k_Term p) : m_laws_FnExactOppositeOf p = some true := by
  unfold m_laws_FnExactOppositeOf
  rw [show (1048576 : Int) = ((1048576 : Nat) : Int) from rfl, sz_Term kp.2.1 _ (Nat.le_refl _), Option.bind_some]
  by_cases h1 : cTerm p ≤ 1048576
  · obtain ⟨r1, a1, b1⟩ := mk_Term h1 (k := 1) (by omega)
    obtain ⟨r3, a3, b3⟩ := mk_Term (fOpp_small p) (k := 1) (by omega)
    replace a1 : m_laws_markTerm p 1 = _ := a1
    replace a3 : m_laws_markTerm (fOpp p).1 1 = _ := a3
    replace b3 : m_laws_heldTerm (Term.mk (fOpp p).1.Const r3) 1 = _ := b3
    simp only [szOut_ok h1, dec_neg, cond_false, Option.bind_some, to_Term h1, spec_opp h1, impl_opp, eq_Term (fOpp_small p), eq_Term h1, decide_true, bool_beq, Bool.not_true, Bool.or_false, a1, a3, b3]
  · rw [szOut_no h1]; rfl
end Go.Mod
