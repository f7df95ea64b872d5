/- The first laws. Plain Lean. -/
import Derived.Test.YtlijhkhbdfgapaaPuC
namespace Go.Mod
open Go.AM
set_option linter.unusedVariables false

theorem law_AddTerms {p q : Term} (kp : k_Term p) (kq : k_Term q) : m_laws_FnExactAddTerms p q = some true := by
  have hp := kp.2.1
  have hq := kq.2.1
  unfold m_laws_FnExactAddTerms
  rw [show (1048576 : Int) = ((1048576 : Nat) : Int) from rfl, sz_Term hp _ (Nat.le_refl _), Option.bind_some]
  by_cases h1 : cTerm p ≤ 1048576
  · rw [szOut_ok h1, dec_neg, cond_false, sz_Term hq _ (by omega), Option.bind_some]
    by_cases h2 : cTerm q ≤ 1048576 - cTerm p
    · have h3 : cTerm q ≤ 1048576 := by omega
      obtain ⟨r1, a1, b1⟩ := mk_Term h1 (k := 1) (by omega)
      obtain ⟨r2, a2, b2⟩ := mk_Term h3 (k := 1 + cTerm p) (by omega)
      obtain ⟨r3, a3, b3⟩ := mk_Term (fAdd_small p q) (k := 1) (by omega)
      replace a1 : m_laws_markTerm p 1 = _ := a1
      replace a3 : m_laws_markTerm (fAdd p q).1 1 = _ := a3
      replace b3 : m_laws_heldTerm (Term.mk (fAdd p q).1.Const r3) 1 = _ := b3
      simp only [m_laws_FnExactAddTerms_J0, m_laws_FnExactAddTerms_J1, Term.eta, szOut_ok h2, dec_neg, cond_false, Option.bind_some, to_Term h1, to_Term h3, spec_add h1 h3, impl_add, eq_Term (fAdd_small p q), eq_Term h1, eq_Term h3, decide_true, bool_beq, Bool.not_true, Bool.or_false, a1, a2, a3, b3]
    · rw [szOut_no h2]; rfl
  · rw [szOut_no h1]; rfl
end Go.Mod
