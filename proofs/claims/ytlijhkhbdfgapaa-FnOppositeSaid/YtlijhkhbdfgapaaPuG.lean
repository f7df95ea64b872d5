/- Sequents and their contexts. Plain Lean. -/
import Derived.Test.YtlijhkhbdfgapaaPuF
namespace Go.Mod
open Go.AM
set_option linter.unusedVariables false
set_option linter.unusedSimpArgs false

theorem mk_ints' {xs : List Int} {k : Nat} (hk : k + xs.length ≤ 4611686018427387904) :
    ∃ xs', m_laws_markInt64S xs k = some (((k + xs.length : Nat) : Int), xs') ∧ m_laws_heldInt64S xs' k = some ((k + xs.length : Nat) : Int) := by
  obtain ⟨xs', h1, h2, h3⟩ := iter_mark (xs := xs) (m := fun _ => 1) (mk := markI) (held := heldI)
    (step := m_laws_markInt64S_L0) (hstep := m_laws_heldInt64S_L0)
    (fun n ys x k hk hx => by unfold m_laws_markInt64S_L0; rw [dec_lt (get_lt hx), cond_true, getI_some hx]; rfl)
    (fun ys k => by unfold m_laws_markInt64S_L0; rw [dec_self]; rfl)
    (fun n ys x k hk hx => by
      unfold m_laws_heldInt64S_L0 heldI; rw [dec_lt (get_lt hx), cond_true, getI_some hx, Option.bind_some, Option.bind_some]
      have h2 : w64 ((k : Int) + 1) = ((k + 1 : Nat) : Int) := w64_succ (by omega)
      by_cases h : x = k
      · rw [decide_eq_true h, Bool.not_true, cond_false, cond_false, h2, decide_eq_false (by omega), cond_false]
      · rw [decide_eq_false h, Bool.not_false, cond_true, cond_true, decide_eq_true (by decide), cond_true])
    (fun ys k => by unfold m_laws_heldInt64S_L0; rw [dec_self]; rfl)
    (by omega) (fun x _ => mk_I x) (k := k) (by rw [sum_one]; omega)
  rw [sum_one] at h1 h3
  exact ⟨xs', by unfold m_laws_markInt64S; rw [h1]; rfl, by unfold m_laws_heldInt64S; rw [h3]; rfl⟩
noncomputable def heldEl (x : Term) (k : Int) : Option Int := bif !decide (x.Const = k) then some (-1) else m_laws_heldInt64S x.Coeffs (w64 (k + 1))
theorem mk_El (x : Term) : MkP mkEl heldEl (fun x => 1 + cTerm x) x := fun k hk => by
  simp only [cTerm] at hk ⊢
  obtain ⟨r, h1, h2⟩ := mk_ints' (xs := x.Coeffs) (k := k + 1) (by omega)
  refine ⟨Term.mk k r, ?_, ?_⟩
  · unfold mkEl
    rw [w64_succ (by omega), h1, Option.bind_some]
    congr 3; omega
  · unfold heldEl
    rw [decide_eq_true rfl, Bool.not_true, cond_false, w64_succ (by omega), h2]
    congr 2; omega
theorem sum_add {α : Type} (c : α → Nat) (xs : List α) : (xs.map fun x => 1 + c x).sum = xs.length + (xs.map c).sum := by
  induction xs with
  | nil => rfl
  | cons x r ih => simp only [List.map_cons, List.sum_cons, List.length_cons, ih]; omega
theorem mkh_TermS {ts : List Term} {k : Nat} (hk : k + cTermS ts ≤ 4611686018427387904) :
    ∃ ts', m_laws_markTermS ts k = some (((k + cTermS ts : Nat) : Int), ts') ∧ m_laws_heldTermS ts' k = some ((k + cTermS ts : Nat) : Int) := by
  unfold cTermS at hk ⊢
  obtain ⟨xs', h1, h2, h3⟩ := iter_mark (xs := ts) (m := fun x => 1 + cTerm x) (mk := mkEl) (held := heldEl)
    (step := m_laws_markTermS_L0) (hstep := m_laws_heldTermS_L0)
    (fun n ys x k hk hx => by
      unfold m_laws_markTermS_L0 mkEl
      have hn := get_lt hx
      simp only
      rw [dec_lt hn, cond_true, getI_some hx, Option.bind_some, Int.toNat_natCast, getI_some (x := Term.mk k x.Coeffs) (by rw [List.getElem?_set_self hn]), Option.bind_some]
      cases m_laws_markInt64S x.Coeffs (w64 ((k : Int) + 1)) with
      | none => rfl
      | some r => simp only [Option.bind_some, List.set_set])
    (fun ys k => by unfold m_laws_markTermS_L0; simp only; rw [dec_self]; rfl)
    (fun n ys x k hk hx => by
      unfold m_laws_heldTermS_L0 heldEl
      simp only
      rw [dec_lt (get_lt hx), cond_true, getI_some hx, Option.bind_some]
      by_cases h : x.Const = k
      · rw [decide_eq_true h]; rfl
      · rw [decide_eq_false h, Bool.not_false, cond_true, cond_true, Option.bind_some, decide_eq_true (by decide), cond_true])
    (fun ys k => by unfold m_laws_heldTermS_L0; simp only; rw [dec_self]; rfl)
    (by omega) (fun x _ => mk_El x) (k := k) (by rw [sum_add]; omega)
  rw [sum_add] at h1 h3
  exact ⟨xs', by unfold m_laws_markTermS; rw [h1]; rfl, by unfold m_laws_heldTermS; rw [h3]; rfl⟩
theorem mkh_Term {t : Term} {k : Nat} (hk : k + cTerm t ≤ 4611686018427387904) :
    ∃ r, m_laws_markTerm t k = some (((k + cTerm t : Nat) : Int), r) ∧ m_laws_heldTerm (Term.mk t.Const r) k = some ((k + cTerm t : Nat) : Int) := by
  obtain ⟨r, h1, h2⟩ := mk_ints' hk
  refine ⟨r, ?_, ?_⟩
  · unfold m_laws_markTerm; rw [h1]; rfl
  · unfold m_laws_heldTerm; rw [h2, Option.bind_some, decide_eq_false (by omega)]; rfl

/-! ### Sequents -/
def cSeq (s : Sequent) : Nat := cTermS s.Facts + cTerm s.Goal
theorem sz_Seq {s : Sequent} (k : k_Sequent s) : SzP m_laws_szSequent cSeq s := fun b hb => by
  unfold m_laws_szSequent cSeq
  rw [sz_TermS k.1 b hb, Option.bind_some]
  by_cases h : cTermS s.Facts ≤ b
  · rw [szOut_ok h, dec_neg, cond_false, sz_Term k.2.2.1 _ (by omega), Option.bind_some]
    by_cases h2 : cTerm s.Goal ≤ b - cTermS s.Facts
    · rw [szOut_ok h2, dec_neg, cond_false, szOut_ok (by omega)]; congr 2; omega
    · rw [szOut_no h2, szOut_no (by omega)]; rfl
  · rw [szOut_no h, szOut_no (by omega)]; rfl
theorem to_Seq {s : Sequent} (hl : cSeq s ≤ 1048576) : m_laws_toSequent s = some s := by
  unfold cSeq at hl
  unfold m_laws_toSequent; rw [to_TermS (by omega), Option.bind_some, to_Term (by omega)]; rfl
theorem eq_Seq {x y : Sequent} (hl : cSeq x ≤ 1048576) : m_laws_eqSequent x y = some (decide (x = y)) := by
  unfold cSeq at hl
  unfold m_laws_eqSequent
  rw [eq_TermS (by omega), eq_Term (by omega)]
  obtain ⟨a, as⟩ := x
  obtain ⟨b, bs⟩ := y
  by_cases h1 : a = b <;> by_cases h2 : as = bs <;> simp [h1, h2]
theorem mk_Seq {s : Sequent} {k : Nat} (hk : k + cSeq s ≤ 4611686018427387904) : ∃ r, m_laws_markSequent s k = some (((k + cSeq s : Nat) : Int), r) := by
  unfold cSeq at hk ⊢
  obtain ⟨r1, a1, _⟩ := mkh_TermS (ts := s.Facts) (k := k) (by omega)
  obtain ⟨r2, a2, _⟩ := mkh_Term (t := s.Goal) (k := k + cTermS s.Facts) (by omega)
  refine ⟨(r1, r2), ?_⟩
  unfold m_laws_markSequent
  rw [a1, Option.bind_some, a2, Option.bind_some, Nat.add_assoc]

theorem foldl_snoc {α : Type} (xs s : List α) : xs.foldl (fun s x => s ++ [x]) s = s ++ xs := by
  induction xs generalizing s with
  | nil => simp
  | cons x r ih => simp [ih]
theorem impl_ownTerms {ts : List Term} (hl : cTermS ts ≤ 1048576) : m_impl_ownTerms ts = some ts := by
  have hlen : ts.length ≤ 1048576 := by unfold cTermS at hl; omega
  unfold m_impl_ownTerms
  rw [forL_fold (fun s x => s ++ [x]) (fun k s => s.length = k) ts 0 [] rfl (fun n x s hx hs => by
    have := get_lt hx
    unfold m_impl_ownTerms_L0
    rw [impl_own (by have := cTermS_mem (List.mem_of_getElem? hx); unfold cTerm at this; omega), Option.bind_some, capI_some (by simp; omega), Option.bind_some]
    exact ⟨rfl, by simp [hs]⟩), Option.bind_some, foldl_snoc]
  rfl
theorem spec_ownAll {ts : List Term} (hl : cTermS ts ≤ 1048576) : m_spec_l02OwnAll ts = some ts := by
  have hlen : ts.length ≤ 1048576 := by unfold cTermS at hl; omega
  have h := iter_for (step := m_spec_l02OwnAll_L0 ts) ts (fun n (s : List Term) => (s, (n : Int))) m_impl_ownTerms_L0 (fun s0 => s0)
    (fun n x r hx => by
      unfold m_spec_l02OwnAll_L0 m_impl_ownTerms_L0 m_spec_l02Own
      have hc := cTermS_mem (List.mem_of_getElem? hx)
      unfold cTerm at hc
      simp only
      rw [dec_lt (get_lt hx), cond_true, getI_some hx, Option.bind_some, spec_own (by omega), Option.bind_some, Option.bind_some, impl_own (by omega), Option.bind_some]
      simp only [List.length_cons, List.length_nil, Nat.zero_add]
      cases capI (r.length + 1) 32 with
      | none => rfl
      | some u => simp only [Option.bind_some]; rw [w64_succ (by have := get_lt hx; omega)]; rfl)
    (fun r => by unfold m_spec_l02OwnAll_L0; simp only; rw [dec_self]; rfl) ([] : List Term)
  have h2 := impl_ownTerms hl
  unfold m_impl_ownTerms at h2
  unfold m_spec_l02OwnAll
  rw [show (0 : Int) = ((0 : Nat) : Int) from rfl, h]
  exact h2

def opp (t : Term) : Term := Term.mk (-t.Const - 1) (trim (tab fun i => -coef t.Coeffs i))
theorem spec_opposite {t : Term} (h : vT t = true) : m_spec_l02Opposite t = some (chk (opp t)) := by
  unfold m_spec_l02Opposite
  rw [spec_sum h (vT_one 1 rfl) (by unfold mOK; omega) (by unfold mOK; omega)]
  simp only [coef_nil, Int.mul_zero, Int.add_zero, Int.neg_mul, Int.one_mul]; rfl
theorem impl_opposite {t : Term} (h : vT t = true) : m_impl_Term_opposite t = some (opp t) := by
  unfold m_impl_Term_opposite
  have := const_rng h
  rw [impl_combined ⟨by simp [h], by simp [mOK], by simp, rfl⟩]
  simp only [List.length_cons, List.length_nil, Nat.zero_add, lin_one, Option.bind_some, Int.neg_mul, Int.one_mul]
  rw [w64_eq (by omega)]; rfl
theorem opp_len (t : Term) : (opp t).Coeffs.length ≤ 10 := by unfold opp; have := trim_len (tab fun i => -coef t.Coeffs i); rw [tab_len] at this; exact this
def vSeq (s : Sequent) : Bool := s.Facts.all vT && decide (s.Facts.length ≤ 13) && vT s.Goal
def fCtx (s : Sequent) : List Term × Bool := bif vSeq s && vT (opp s.Goal) then (s.Facts ++ [opp s.Goal], true) else ([], false)
theorem spec_ctx {s : Sequent} (hl : cSeq s ≤ 1048576) : m_spec_ContextOf s = some (fCtx s) := by
  unfold cSeq at hl
  have hlen : s.Facts.length ≤ 1048576 := by have : s.Facts.length ≤ cTermS s.Facts := by { unfold cTermS; omega }; omega
  unfold m_spec_ContextOf m_spec_l02Sequent fCtx vSeq
  rw [show (13 : Int) = ((13 : Nat) : Int) from rfl, spec_all (by omega), Option.bind_some, spec_is (by omega)]
  cases h1 : s.Facts.all vT && decide (s.Facts.length ≤ 13) with
  | false => rfl
  | true =>
    cases h2 : vT s.Goal with
    | false => rfl
    | true =>
      unfold m_spec_l02Context
      simp only [cond_true, Option.bind_some, Bool.not_true, cond_false, Bool.true_and]
      rw [spec_opposite h2, Option.bind_some, spec_ownAll (by omega)]
      unfold chk
      cases h3 : vT (opp s.Goal) with
      | false => rfl
      | true =>
        simp only [cond_true, Bool.not_true, cond_false, Option.bind_some]
        rw [capI_some (by simp; omega)]; rfl
theorem impl_ctx {s : Sequent} (hl : cSeq s ≤ 1048576) : m_impl_ContextOf s = some (fCtx s) := by
  unfold cSeq at hl
  have hlen : s.Facts.length ≤ 1048576 := by have : s.Facts.length ≤ cTermS s.Facts := by { unfold cTermS; omega }; omega
  unfold m_impl_ContextOf m_impl_ValidSequent fCtx vSeq
  rw [show (13 : Int) = ((13 : Nat) : Int) from rfl, impl_terms, Option.bind_some, impl_valid, Bool.and_comm (decide (s.Facts.length ≤ 13))]
  cases h1 : s.Facts.all vT && decide (s.Facts.length ≤ 13) with
  | false => rfl
  | true =>
    cases h2 : vT s.Goal with
    | false => rfl
    | true =>
      simp only [cond_true, Option.bind_some, Bool.not_true, cond_false, Bool.true_and]
      rw [impl_opposite h2, Option.bind_some, impl_valid, Option.bind_some, impl_ownTerms (by omega), Option.bind_some, Option.bind_some, impl_own (by have := opp_len s.Goal; omega), Option.bind_some]
      cases h3 : vT (opp s.Goal) with
      | false => rfl
      | true =>
        simp only [cond_true, Bool.not_true, cond_false]
        rw [capI_some (by simp; omega)]; rfl
theorem fCtx_small (s : Sequent) : cTermS (fCtx s).1 ≤ 1048576 := by
  unfold fCtx
  cases h : vSeq s && vT (opp s.Goal) with
  | false => exact Nat.zero_le _
  | true =>
    simp only [cond_true]
    simp only [vSeq, Bool.and_eq_true, List.all_eq_true, decide_eq_true_eq] at h
    have hk : ∀ (ts : List Term), (∀ t ∈ ts, vT t = true) → (ts.map cTerm).sum ≤ ts.length * 10 := by
      intro ts
      induction ts with
      | nil => intro _; simp
      | cons t r ih =>
        intro h
        have h1 := ih (fun t ht => h t (by simp [ht]))
        have h2 := vT_len (h t (by simp))
        simp only [List.map_cons, List.sum_cons, List.length_cons]
        unfold cTerm at *
        omega
    have h1 := hk (s.Facts ++ [opp s.Goal]) (fun t ht => by
      rcases List.mem_append.1 ht with ht | ht
      · exact h.1.1.1 t ht
      · rw [List.mem_singleton.1 ht]; exact h.2)
    unfold cTermS
    simp only [List.length_append, List.length_cons, List.length_nil] at h1 ⊢
    have := h.1.1.2
    omega
theorem law_ContextOf {s : Sequent} (ks : k_Sequent s) : m_laws_FnExactContextOf s = some true := by
  unfold m_laws_FnExactContextOf
  rw [show (1048576 : Int) = ((1048576 : Nat) : Int) from rfl, sz_Seq ks _ (Nat.le_refl _), Option.bind_some]
  by_cases h1 : cSeq s ≤ 1048576
  · have hs := fCtx_small s
    obtain ⟨r1, a1⟩ := mk_Seq (s := s) (k := 1) (by omega)
    obtain ⟨r3, a3, b3⟩ := mkh_TermS (ts := (fCtx s).1) (k := 1) (by omega)
    replace a1 : m_laws_markSequent s 1 = _ := a1
    replace a3 : m_laws_markTermS (fCtx s).1 1 = _ := a3
    replace b3 : m_laws_heldTermS r3 1 = _ := b3
    simp only [szOut_ok h1, dec_neg, cond_false, Option.bind_some, to_Seq h1, spec_ctx h1, impl_ctx h1, eq_TermS hs, eq_Seq h1, decide_true, bool_beq, Bool.not_true, Bool.or_false, a1, a3, b3]
  · rw [szOut_no h1]; rfl
end Go.Mod
