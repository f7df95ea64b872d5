import Derived.Test.YtlijhkhbdfgapaaGe
/- The law of sums, multiples and substitutions. Plain Lean. -/
namespace Go.Mod
open Go.AM
set_option linter.unusedVariables false
set_option linter.unusedSimpArgs false

theorem sumN_shift (f : Nat → Int) : ∀ n, sumN f (n + 1) = f 0 + sumN (fun i => f (i + 1)) n := by
  intro n
  induction n with
  | zero => simp [sumN]
  | succ n ih => rw [show sumN f (n + 1 + 1) = sumN f (n + 1) + f (n + 1) from rfl, ih, show sumN (fun i => f (i + 1)) (n + 1) = sumN (fun i => f (i + 1)) n + f (n + 1) from rfl]; omega
theorem lin_cons (t : Term) (ts : List Term) (m : Int) (ms : List Int) (g : Term → Int) (n : Nat) : lin (t :: ts) (m :: ms) g (n + 1) = m * g t + lin ts ms g n := by
  unfold lin
  rw [sumN_shift]
  rfl
/-- The value of a sum of multiples is the sum of the multiples of the values. -/
theorem val_lin (ts : List Term) (ms : List Int) (v : List Int) : ∀ n, lin ts ms Term.Const n + sumN (fun i => lin ts ms (fun t => coef t.Coeffs i) n * coef v i) 10 = lin ts ms (fun t => val t v) n := by
  intro n
  induction n with
  | zero => simp [lin, sumN]
  | succ n ih =>
    have e : ∀ g : Term → Int, lin ts ms g (n + 1) = lin ts ms g n + coef ms n * g (tAt ts n) := fun g => rfl
    simp only [e]
    rw [← ih]
    have e2 : sumN (fun i => (lin ts ms (fun t => coef t.Coeffs i) n + coef ms n * coef (tAt ts n).Coeffs i) * coef v i) 10 =
        sumN (fun i => lin ts ms (fun t => coef t.Coeffs i) n * coef v i) 10 + coef ms n * sumN (fun i => coef (tAt ts n).Coeffs i * coef v i) 10 := by
      rw [← sumN_mul, ← sumN_add]
      exact sumN_congr 10 (fun i _ => by rw [Int.add_mul, Int.mul_assoc])
    rw [e2]
    unfold val
    rw [Int.mul_add]
    omega
theorem val_mkT_lin (ts : List Term) (ms : List Int) (v : List Int) (n : Nat) : val (mkT (lin ts ms Term.Const n) (fun i => lin ts ms (fun t => coef t.Coeffs i) n)) v = lin ts ms (fun t => val t v) n := by
  rw [val_mkT]; exact val_lin ts ms v n

theorem prod_small {a b : Int} {A B : Int} (h1 : -A ≤ a ∧ a ≤ A) (h2 : -B ≤ b ∧ b ≤ B) : -(A * B) ≤ a * b ∧ a * b ≤ A * B := prod_rng h1.1 h1.2 h2.1 h2.2
theorem val_small {t : Term} {v : List Int} (ht : Small t) (hv : Vals v) : -247 ≤ val t v ∧ val t v ≤ 247 := by
  have h := sumN_rng (f := fun i => coef t.Coeffs i * coef v i) (B := 24) (fun i => by have := prod_small (A := 4) (B := 6) (ht.f i) (hv.coef i); omega) 10
  have := ht.c
  unfold val
  omega

/-! ### Values by the implementation -/
theorem values_yes {v : List Int} (hv : Vals v) : m_impl_areValues v = some true := by
  unfold m_impl_areValues
  rw [decide_eq_true (by have := hv.1; omega), cond_true, impl_all, Option.bind_some]
  congr 1
  rw [List.all_eq_true]
  intro x hx
  have := hv.2 x hx
  rw [decide_eq_true (by omega), decide_eq_true (by omega)]; rfl
theorem eval_ok {t : Term} {v : List Int} (ht : vT t = true) (hv : Vals v) : m_impl_EvalTerm t v = some (val t v, true) := by
  have hl := vT_len ht
  unfold m_impl_EvalTerm
  rw [impl_valid, Option.bind_some, ht, Bool.not_true, cond_false, values_yes hv, Option.bind_some, Bool.not_true, cond_false]
  have hp : ∀ i, -6000000 ≤ coef t.Coeffs i * coef v i ∧ coef t.Coeffs i * coef v i ≤ 6000000 := by
    intro i
    have := prod_small (A := 1000000) (B := 6) (coef_rng ht i) (hv.coef i)
    omega
  have hsum := sumN_rng (f := fun i => coef t.Coeffs i * coef v i) (B := 6000000) hp
  have hc := const_rng ht
  unfold m_impl_Term_eval
  obtain ⟨u, e1, e2⟩ := forL_inv (step := m_impl_Term_eval_L0 v) (fin := fun s0 => s0) (xs := t.Coeffs)
    (fun n s => s = t.Const + sumN (fun i => coef t.Coeffs i * coef v i) n) (fun s => s = val t v)
    (fun n x s hx hs => by
      subst hs
      have hlt := get_lt hx
      have hltv : n < v.length := by rw [hv.1]; omega
      have hy : v[n]? = some v[n] := by simp
      have hs := hsum n
      have hpn := hp n
      rw [coef_get hx, coef_get hy] at hpn
      refine .inl ⟨_, ?_, rfl⟩
      unfold m_impl_Term_eval_L0
      rw [getI_some hy, Option.bind_some, w64_eq (n := x * v[n]) (by omega), w64_eq (by omega), sumN, coef_get hx, coef_get hy, Int.add_assoc])
    (fun s hs => by
      subst hs
      unfold val
      rw [sumN_stop (n := t.Coeffs.length) (fun i hi => by rw [coef_no hi, Int.zero_mul]) 10 hl])
    (s := t.Const) (by simp [sumN])
  rw [e1, e2]; rfl

/-! ### The law -/
theorem sub_form (t : Term) (ps : List Term) (g : Term → Int) : lin (subL t ps t.Coeffs.length) (subM t) g (t.Coeffs.length + 1) = g (Term.mk t.Const []) + sumN (fun i => coef t.Coeffs i * g (subT ps i)) t.Coeffs.length := by
  unfold subL subM
  rw [lin_cons, Int.one_mul]
  congr 1
  unfold lin
  refine sumN_congr _ (fun i hi => ?_)
  unfold tAt
  rw [List.getElem?_map, List.getElem?_range hi]
  rfl
theorem val_unit (i : Nat) (v : List Int) (hi : i < 10) : val (unitT i) v = coef v i := by
  unfold val
  simp only [unit_coef]
  have : ∀ n, sumN (fun j => (if j = i then 1 else 0) * coef v j) n = if i < n then coef v i else 0 := by
    intro n
    induction n with
    | zero => simp [sumN]
    | succ n ih =>
      unfold sumN
      rw [ih]
      by_cases h1 : n = i
      · subst h1; simp
      · rw [if_neg h1]
        by_cases h2 : i < n
        · rw [if_pos h2, if_pos (by omega)]; omega
        · rw [if_neg h2, if_neg (by omega)]; omega
  rw [this, if_pos hi]
  show 0 + _ = _
  omega
theorem sub_val {t p : Term} {v : List Int} (ht : Small t) (hp : Small p) (hv : Vals v) :
    fSub t [p] = (mkT (lin (subL t [p] t.Coeffs.length) (subM t) Term.Const (t.Coeffs.length + 1)) (fun i => lin (subL t [p] t.Coeffs.length) (subM t) (fun t => coef t.Coeffs i) (t.Coeffs.length + 1)), true) ∧
    vT (mkT (lin (subL t [p] t.Coeffs.length) (subM t) Term.Const (t.Coeffs.length + 1)) (fun i => lin (subL t [p] t.Coeffs.length) (subM t) (fun t => coef t.Coeffs i) (t.Coeffs.length + 1))) = true ∧
    val (mkT (lin (subL t [p] t.Coeffs.length) (subM t) Term.Const (t.Coeffs.length + 1)) (fun i => lin (subL t [p] t.Coeffs.length) (subM t) (fun t => coef t.Coeffs i) (t.Coeffs.length + 1))) v =
      val t v - coef t.Coeffs 0 * coef v 0 + coef t.Coeffs 0 * val p v := by
  have hl := vT_len ht.v
  have hs0 : subT [p] 0 = p := rfl
  have hsn : ∀ i, i ≠ 0 → subT [p] i = unitT i := by
    intro i hi
    unfold subT
    cases i with
    | zero => exact absurd rfl hi
    | succ i => rfl
  have hB : ∀ g : Term → Int, (-7 ≤ g p ∧ g p ≤ 7) → (∀ i, -1 ≤ g (unitT i) ∧ g (unitT i) ≤ 1) → ∀ n : Nat, n ≤ 10 → -280 ≤ sumN (fun i => coef t.Coeffs i * g (subT [p] i)) n ∧ sumN (fun i => coef t.Coeffs i * g (subT [p] i)) n ≤ 280 := by
    intro g h1 h2 n hn
    have := sumN_rng (f := fun i => coef t.Coeffs i * g (subT [p] i)) (B := 28) (fun i => by
      have h3 : -7 ≤ g (subT [p] i) ∧ g (subT [p] i) ≤ 7 := by
        by_cases hi : i = 0
        · subst hi; exact h1
        · rw [hsn i hi]; have := h2 i; omega
      have := prod_small (A := 4) (B := 7) (ht.f i) h3
      omega) n
    omega
  have hC : -1000000 ≤ lin (subL t [p] t.Coeffs.length) (subM t) Term.Const (t.Coeffs.length + 1) ∧ lin (subL t [p] t.Coeffs.length) (subM t) Term.Const (t.Coeffs.length + 1) ≤ 1000000 := by
    rw [sub_form]
    have h1 := hB Term.Const hp.c (fun i => by show -1 ≤ (0 : Int) ∧ (0 : Int) ≤ 1; omega) _ hl
    have h2 := ht.c
    simp only
    omega
  have hF : ∀ i, i < 10 → -1000000 ≤ lin (subL t [p] t.Coeffs.length) (subM t) (fun t => coef t.Coeffs i) (t.Coeffs.length + 1) ∧ lin (subL t [p] t.Coeffs.length) (subM t) (fun t => coef t.Coeffs i) (t.Coeffs.length + 1) ≤ 1000000 := by
    intro i _
    rw [sub_form]
    have h1 := hB (fun t => coef t.Coeffs i) (by have := hp.f i; omega) (fun j => by rw [unit_coef]; split <;> omega) _ hl
    simp only [coef_nil]
    omega
  refine ⟨?_, mkT_valid hC hF, ?_⟩
  · unfold fSub
    rw [ht.v, show [p].all vT = true by simp [hp.v]]
    exact mkT_chk hC hF
  · rw [val_mkT_lin, sub_form]
    have e0 : val (Term.mk t.Const []) v = t.Const := by
      unfold val
      simp only [coef_nil, Int.zero_mul, sumN_zero, Int.add_zero]
    rw [e0]
    by_cases hz : t.Coeffs.length = 0
    · have : t.Coeffs = [] := List.length_eq_zero_iff.1 hz
      unfold val
      rw [this]
      simp only [coef_nil, Int.zero_mul, sumN_zero, List.length_nil, sumN]
      omega
    · have e1 : sumN (fun i => coef t.Coeffs i * val (subT [p] i) v) t.Coeffs.length = sumN (fun i => coef t.Coeffs i * coef v i) t.Coeffs.length + (coef t.Coeffs 0 * val p v - coef t.Coeffs 0 * coef v 0) := by
        obtain ⟨k, hk⟩ : ∃ k, t.Coeffs.length = k + 1 := ⟨t.Coeffs.length - 1, by omega⟩
        rw [hk, sumN_shift, sumN_shift, hs0]
        rw [sumN_congr (f := fun i => coef t.Coeffs (i + 1) * val (subT [p] (i + 1)) v) (g := fun i => coef t.Coeffs (i + 1) * coef v (i + 1)) k (fun i hi => by rw [hsn (i + 1) (by omega), val_unit _ _ (by omega)])]
        omega
      rw [e1]
      unfold val
      rw [sumN_stop (f := fun i => coef t.Coeffs i * coef v i) (n := t.Coeffs.length) (fun i hi => by rw [coef_no hi, Int.zero_mul]) 10 hl]
      omega
theorem law_Terms {a b : List Int} (ka : kLa_u8 a) (kb : kLa_u8 b) : m_laws_FnTerms a b = some true := by
  unfold m_laws_FnTerms
  by_cases hl : a.length ≤ 1048576 ∧ b.length ≤ 1048576
  · rw [long_no hl.1 hl.2, Option.bind_some, cond_false]
    obtain ⟨t, et, ht⟩ := term_ok ka.2 hl.1
    obtain ⟨p, ep, hp⟩ := term_ok kb.2 hl.2
    obtain ⟨v, ev, hv⟩ := values_ok kb.2 hl.2
    obtain ⟨r, er, hr0, hr1⟩ := at_ok (i := 0) (n := 9) kb.2 (by omega) (by omega)
    replace er : m_laws_b10At b 0 9 = some r := er
    have hct := ht.c
    have hcp := hp.c
    have hA : -1000000 ≤ t.Const + p.Const ∧ t.Const + p.Const ≤ 1000000 := by omega
    have hAf : ∀ i, i < 10 → -1000000 ≤ coef t.Coeffs i + coef p.Coeffs i ∧ coef t.Coeffs i + coef p.Coeffs i ≤ 1000000 := fun i _ => by have := ht.f i; have := hp.f i; omega
    have eA : fAdd t p = (mkT (t.Const + p.Const) (fun i => coef t.Coeffs i + coef p.Coeffs i), true) := by
      unfold fAdd; rw [ht.v, hp.v]; exact mkT_chk hA hAf
    have hk : -4 ≤ r - 4 ∧ r - 4 ≤ 4 := by omega
    generalize hke : r - 4 = k at hk
    have hSc : -1000000 ≤ k * t.Const ∧ k * t.Const ≤ 1000000 := by have := prod_small (A := 4) (B := 7) hk ht.c; omega
    have hSf : ∀ i, i < 10 → -1000000 ≤ k * coef t.Coeffs i ∧ k * coef t.Coeffs i ≤ 1000000 := fun i _ => by have := prod_small (A := 4) (B := 4) hk (ht.f i); omega
    have eS : fScale t k = (mkT (k * t.Const) (fun i => k * coef t.Coeffs i), true) := by
      unfold fScale; rw [ht.v, inR_iff.2 (show -1000000 ≤ k ∧ k ≤ 1000000 by omega)]; exact mkT_chk hSc hSf
    obtain ⟨eB, hB, vB⟩ := sub_val ht hp hv
    have vA : val (mkT (t.Const + p.Const) (fun i => coef t.Coeffs i + coef p.Coeffs i)) v = val t v + val p v := by
      rw [val_mkT, sumN_congr (g := fun i => coef t.Coeffs i * coef v i + coef p.Coeffs i * coef v i) 10 (fun i _ => Int.add_mul _ _ _), sumN_add]
      unfold val; omega
    have vS : val (mkT (k * t.Const) (fun i => k * coef t.Coeffs i)) v = k * val t v := by
      rw [val_mkT, sumN_congr (g := fun i => k * (coef t.Coeffs i * coef v i)) 10 (fun i _ => Int.mul_assoc _ _ _), sumN_mul]
      unfold val; rw [Int.mul_add]
    have ht1 := val_small ht hv
    have hp1 := val_small hp hv
    have hkv := prod_small (A := 4) (B := 247) hk ht1
    have hv0 := hv.coef 0
    have hc0 := ht.f 0
    have h1 := prod_small (A := 4) (B := 6) hc0 hv0
    have h2 := prod_small (A := 4) (B := 247) hc0 hp1
    rw [et, Option.bind_some, ep, Option.bind_some, ev, Option.bind_some, er, Option.bind_some, impl_add, Option.bind_some, w64_eq (n := r - 4) (by omega), hke, impl_scale, Option.bind_some, impl_sub, Option.bind_some,
      eA, eS, eB, eval_ok ht.v hv, Option.bind_some, eval_ok hp.v hv, Option.bind_some, eval_ok (mkT_valid hA hAf) hv, Option.bind_some, eval_ok (mkT_valid hSc hSf) hv, Option.bind_some, eval_ok hB hv, Option.bind_some, vA, vS, vB]
    simp only [Bool.not_true, Bool.or_false, Bool.false_or]
    rw [w64_eq (n := val t v + val p v) (by omega), w64_eq (n := k * val t v) (by omega), decide_eq_true rfl, decide_eq_true rfl]
    simp only [Bool.not_true, Bool.or_false, cond_false]
    have hJ : ∀ j, j = coef t.Coeffs 0 → m_laws_FnTerms_J0 v (val t v, true) (val p v, true) (val t v - coef t.Coeffs 0 * coef v 0 + coef t.Coeffs 0 * val p v, true) j = some true := by
      rintro j rfl
      unfold m_laws_FnTerms_J0
      have hv10 : 0 < v.length := by have := hv.1; omega
      rw [show (0 : Int) = ((0 : Nat) : Int) from rfl, getI_some (show v[0]? = some (coef v 0) by unfold coef; rw [show v[0]? = some v[0] by simp]; rfl), Option.bind_some]
      simp only
      rw [w64_eq (n := coef t.Coeffs 0 * coef v 0) (by omega), w64_eq (n := coef t.Coeffs 0 * val p v) (by omega), w64_eq (n := val t v - coef t.Coeffs 0 * coef v 0) (by omega), w64_eq (by omega), decide_eq_true rfl]
    by_cases h0 : 0 < t.Coeffs.length
    · rw [decide_eq_true (show (0 : Int) < (t.Coeffs.length : Int) by omega), cond_true]
      have hx : t.Coeffs[0]? = some t.Coeffs[0] := by simp
      rw [show getI t.Coeffs 0 = some t.Coeffs[0] from getI_some (n := 0) hx, Option.bind_some]
      exact hJ _ (coef_get hx).symm
    · rw [decide_eq_false (show ¬ (0 : Int) < (t.Coeffs.length : Int) by omega), cond_false]
      exact hJ _ (coef_no (by omega)).symm
  · rw [long_yes hl]; rfl
end Go.Mod
