import Derived.Test.YtlijhkhbdfgapaaGe
/- The law of sums, multiples and substitutions. Plain Lean. -/
namespace Go.Mod
open Go.AM
set_option linter.unusedVariables false
set_option linter.unusedSimpArgs false

theorem sumN_shift (f : Nat → Int) : ∀ n, sumN f (n + 1) = f 0 + sumN (fun i => f (i + 1)) n := by
  intro n
  induction n with
  | zero => simp [sumN]
  | succ n ih => rw [show sumN f (n + 1 + 1) = sumN f (n + 1) + f (n + 1) from rfl, ih, show sumN (fun i => f (i + 1)) (n + 1) = sumN (fun i => f (i + 1)) n + f (n + 1) from rfl]; omega
theorem lin_cons (t : Term) (ts : List Term) (m : Int) (ms : List Int) (g : Term → Int) (n : Nat) : lin (t :: ts) (m :: ms) g (n + 1) = m * g t + lin ts ms g n := by
  unfold lin
  rw [sumN_shift]
  rfl
/-- The value of a sum of multiples is the sum of the multiples of the values. -/
theorem val_lin (ts : List Term) (ms : List Int) (v : List Int) : ∀ n, lin ts ms Term.Const n + sumN (fun i => lin ts ms (fun t => coef t.Coeffs i) n * coef v i) 10 = lin ts ms (fun t => val t v) n := by
  intro n
  induction n with
  | zero => simp [lin, sumN]
  | succ n ih =>
    have e : ∀ g : Term → Int, lin ts ms g (n + 1) = lin ts ms g n + coef ms n * g (tAt ts n) := fun g => rfl
    simp only [e]
    rw [← ih]
    have e2 : sumN (fun i => (lin ts ms (fun t => coef t.Coeffs i) n + coef ms n * coef (tAt ts n).Coeffs i) * coef v i) 10 =
        sumN (fun i => lin ts ms (fun t => coef t.Coeffs i) n * coef v i) 10 + coef ms n * sumN (fun i => coef (tAt ts n).Coeffs i * coef v i) 10 := by
      rw [← sumN_mul, ← sumN_add]
      exact sumN_congr 10 (fun i _ => by rw [Int.add_mul, Int.mul_assoc])
    rw [e2]
    unfold val
    rw [Int.mul_add]
    omega
theorem val_mkT_lin (ts : List Term) (ms : List Int) (v : List Int) (n : Nat) : val (mkT (lin ts ms Term.Const n) (fun i => lin ts ms (fun t => coef t.Coeffs i) n)) v = lin ts ms (fun t => val t v) n := by
  rw [val_mkT]; exact val_lin ts ms v n

theorem prod_small {a b : Int} {A B : Int} (h1 : -A ≤ a ∧ a ≤ A) (h2 : -B ≤ b ∧ b ≤ B) : -(A * B) ≤ a * b ∧ a * b ≤ A * B := prod_rng h1.1 h1.2 h2.1 h2.2
theorem val_small {t : Term} {v : List Int} (ht : Small t) (hv : Vals v) : -247 ≤ val t v ∧ val t v ≤ 247 := by
  have h := sumN_rng (f := fun i => coef t.Coeffs i * coef v i) (B := 24) (fun i => by have := prod_small (A := 4) (B := 6) (ht.f i) (hv.coef i); omega) 10
  have := ht.c
  unfold val
  omega

/-! ### Values by the implementation -/
theorem values_yes {v : List Int} (hv : Vals v) : m_impl_areValues v = some true := by
  unfold m_impl_areValues
  rw [decide_eq_true (by have := hv.1; omega), cond_true, impl_all, Option.bind_some]
  congr 1
  rw [List.all_eq_true]
  intro x hx
  have := hv.2 x hx
  rw [decide_eq_true (by omega), decide_eq_true (by omega)]; rfl
theorem eval_ok {t : Term} {v : List Int} (ht : vT t = true) (hv : Vals v) : m_impl_EvalTerm t v = some (val t v, true) := by
  have hl := vT_len ht
  unfold m_impl_EvalTerm
  rw [impl_valid, Option.bind_some, ht, Bool.not_true, cond_false, values_yes hv, Option.bind_some, Bool.not_true, cond_false]
  have hp : ∀ i, -6000000 ≤ coef t.Coeffs i * coef v i ∧ coef t.Coeffs i * coef v i ≤ 6000000 := by
    intro i
    have := prod_small (A := 1000000) (B := 6) (coef_rng ht i) (hv.coef i)
    omega
  have hsum := sumN_rng (f := fun i => coef t.Coeffs i * coef v i) (B := 6000000) hp
  have hc := const_rng ht
  unfold m_impl_Term_eval
  obtain ⟨u, e1, e2⟩ := forL_inv (step := m_impl_Term_eval_L0 v) (fin := fun s0 => s0) (xs := t.Coeffs)
    (fun n s => s = t.Const + sumN (fun i => coef t.Coeffs i * coef v i) n) (fun s => s = val t v)
    (fun n x s hx hs => by
      subst hs
      have hlt := get_lt hx
      have hltv : n < v.length := by rw [hv.1]; omega
      have hy : v[n]? = some v[n] := by simp
      have hs := hsum n
      have hpn := hp n
      rw [coef_get hx, coef_get hy] at hpn
      refine .inl ⟨_, ?_, rfl⟩
      unfold m_impl_Term_eval_L0
      rw [getI_some hy, Option.bind_some, w64_eq (n := x * v[n]) (by omega), w64_eq (by omega), sumN, coef_get hx, coef_get hy, Int.add_assoc])
    (fun s hs => by
      subst hs
      unfold val
      rw [sumN_stop (n := t.Coeffs.length) (fun i hi => by rw [coef_no hi, Int.zero_mul]) 10 hl])
    (s := t.Const) (by simp [sumN])
  rw [e1, e2]; rfl

/-! ### The law -/
theorem sub_form (t : Term) (ps : List Term) (g : Term → Int) : lin (subL t ps t.Coeffs.length) (subM t) g (t.Coeffs.length + 1) = g (Term.mk t.Const []) + sumN (fun i => coef t.Coeffs i * g (subT ps i)) t.Coeffs.length := by
  unfold subL subM
  rw [lin_cons, Int.one_mul]
  congr 1
  unfold lin
  refine sumN_congr _ (fun i hi => ?_)
  unfold tAt
  rw [List.getElem?_map, List.getElem?_range hi]
  rfl
theorem val_unit (i : Nat) (v : List Int) (hi : i < 10) : val (unitT i) v = coef v i := by
  unfold val
  simp only [unit_coef]
  have : ∀ n, sumN (fun j => (if j = i then 1 else 0) * coef v j) n = if i < n then coef v i else 0 := by
    intro n
    induction n with
    | zero => simp [sumN]
    | succ n ih =>
      unfold sumN
      rw [ih]
      by_cases h1 : n = i
      · subst h1; simp
      · rw [if_neg h1]
        by_cases h2 : i < n
        · rw [if_pos h2, if_pos (by omega)]; omega
        · rw [if_neg h2, if_neg (by omega)]; omega
  rw [this, if_pos hi]
  show 0 + _ = _
  omega
theorem sub_val {t p : Term} {v : List Int} (ht : Small t) (hp : Small p) (hv : Vals v) :
    fSub t [p] = (mkT (lin (subL t [p] t.Coeffs.length) (subM t) Term.Const (t.Coeffs.length + 1)) (fun i => lin (subL t [p] t.Coeffs.length) (subM t) (fun t => coef t.Coeffs i) (t.Coeffs.length + 1)), true) ∧
    vT (mkT (lin (subL t [p] t.Coeffs.length) (subM t) Term.Const (t.Coeffs.length + 1)) (fun i => lin (subL t [p] t.Coeffs.length) (subM t) (fun t => coef t.Coeffs i) (t.Coeffs.length + 1))) = true ∧
    val (mkT (lin (subL t [p] t.Coeffs.length) (subM t) Term.Const (t.Coeffs.length + 1)) (fun i => lin (subL t [p] t.Coeffs.length) (subM t) (fun t => coef t.Coeffs i) (t.Coeffs.length + 1))) v =
      val t v - coef t.Coeffs 0 * coef v 0 + coef t.Coeffs 0 * val p v := by
  have hl := vT_len ht.v
  have hs0 : subT [p] 0 = p := rfl
  have hsn : ∀ i, i ≠ 0 → subT [p] i = unitT i := by
    intro i hi
    unfold subT
    cases i with
    | zero => exact absurd rfl hi
    | succ i => rfl
  have hB : ∀ g : Term → Int, (-7 ≤ g p ∧ g p ≤ 7) → (∀ i, -1 ≤ g (unitT i) ∧ g (unitT i) ≤ 1) → ∀ n : Nat, n ≤ 10 → -280 ≤ sumN (fun i => coef t.Coeffs i * g (subT [p] i)) n ∧ sumN (fun i => coef t.Coeffs i * g (subT [p] i)) n ≤ 280 := by
    intro g h1 h2 n hn
    have := sumN_rng (f := fun i => coef t.Coeffs i * g (subT [p] i)) (B := 28) (fun i => by
      have h3 : -7 ≤ g (subT [p] i) ∧ g (subT [p] i) ≤ 7 := by
        by_cases hi : i = 0
        · subst hi; exact h1
        · rw [hsn i hi]; have := h2 i; omega
      have := prod_small (A := 4) (B := 7) (ht.f i) h3
      omega) n
    omega
  have hC : -1000000 ≤ lin (subL t [p] t.Coeffs.length) (subM t) Term.Const (t.Coeffs.length + 1) ∧ lin (subL t [p] t.Coeffs.length) (subM t) Term.Const (t.Coeffs.length + 1) ≤ 1000000 := by
    rw [sub_form]
    have h1 := hB Term.Const hp.c (fun i => by show -1 ≤ (0 : Int) ∧ (0 : Int) ≤ 1; omega) _ hl
    have h2 := ht.c
    simp only
    omega
  have hF : ∀ i, i < 10 → -1000000 ≤ lin (subL t [p] t.Coeffs.length) (subM t) (fun t => coef t.Coeffs i) (t.Coeffs.length + 1) ∧ lin (subL t [p] t.Coeffs.length) (subM t) (fun t => coef t.Coeffs i) (t.Coeffs.length + 1) ≤ 1000000 := by
    intro i _
    rw [sub_form]
    have h1 := hB (fun t => coef t.Coeffs i) (by have := hp.f i; omega) (fun j => by rw [unit_coef]; split <;> omega) _ hl
    simp only [coef_nil]
    omega
  refine ⟨?_, mkT_valid hC hF, ?_⟩
  · unfold fSub
    rw [ht.v, show [p].all vT = true by simp [hp.v]]
    exact mkT_chk hC hF
  · rw [val_mkT_lin, sub_form]
    have e0 : val (Term.mk t.Const []) v = t.Const := by
      unfold val
      simp only [coef_nil, Int.zero_mul, sumN_zero, Int.add_zero]
    rw [e0]
    by_cases hz : t.Coeffs.length = 0
    · have : t.Coeffs = [] := List.length_eq_zero_iff.1 hz
      unfold val
      rw [this]
      simp only [coef_nil, Int.zero_mul, sumN_zero, List.length_nil, sumN]
      omega
    · have e1 : sumN (fun i => coef t.Coeffs i * val (subT [p] i) v) t.Coeffs.length = sumN (fun i => coef t.Coeffs i * coef v i) t.Coeffs.length + (coef t.Coeffs 0 * val p v - coef t.Coeffs 0 * coef v 0) := by
        obtain ⟨k, hk⟩ : ∃ k, t.Coeffs.length = k + 1 := ⟨t.Coeffs.length - 1, by omega⟩
        rw [hk, sumN_shift, sumN_shift, hs0]
        rw [sumN_congr (f := fun i => coef t.Coeffs (i + 1) * val (subT [p] (i + 1)) v) (g := fun i => coef t.Coeffs (i + 1) * coef v (i + 1)) k (fun i hi => by rw [hsn (i + 1) (by omega), val_unit _ _ (by omega)])]
        omega
      rw [e1]
      unfold val
      rw [sumN_stop (f := fun i => coef t.Coeffs i * coef v i) (n := t.Coeffs.length) (fun i hi => by rw [coef_no hi, Int.zero_mul]) 10 hl]
      omega
theorem law_Terms {a b : List Int} (ka : kLa_u8 a) (kb : kLa_u8 b) : m_laws_FnTerms a b = some true := by
  unfold m_laws_FnTerms
  by_cases hl : a.length ≤ 1048576 ∧ b.length ≤ 1048576
  · rw [long_no hl.1 hl.2, Option.bind_some, cond_false]
    obtain ⟨t, et, ht⟩ := term_ok ka.2 hl.1
    obtain ⟨p, ep, hp⟩ := term_ok kb.2 hl.2
    obtain ⟨v, ev, hv⟩ := values_ok kb.2 hl.2
    obtain ⟨r, er, hr0, hr1⟩ := at_ok (i := 0) (n := 9) kb.2 (by omega) (by omega)
    replace er : m_laws_b10At b 0 9 = some r := er
    have hct := ht.c
    have hcp := hp.c
    have hA : -1000000 ≤ t.Const + p.Const ∧ t.Const + p.Const ≤ 1000000 := by omega
    have hAf : ∀ i, i < 10 → -1000000 ≤ coef t.Coeffs i + coef p.Coeffs i ∧ coef t.Coeffs i + coef p.Coeffs i ≤ 1000000 := fun i _ => by have := ht.f i; have := hp.f i; omega
    have eA : fAdd t p = (mkT (t.Const + p.Const) (fun i => coef t.Coeffs i + coef p.Coeffs i), true) := by
      unfold fAdd; rw [ht.v, hp.v]; exact mkT_chk hA hAf
    have hk : -4 ≤ r - 4 ∧ r - 4 ≤ 4 := by omega
    generalize hke : r - 4 = k at hk
    have hSc : -1000000 ≤ k * t.Const ∧ k * t.Const ≤ 1000000 := by have := prod_small (A := 4) (B := 7) hk ht.c; omega
    have hSf : ∀ i, i < 10 → -1000000 ≤ k * coef t.Coeffs i ∧ k * coef t.Coeffs i ≤ 1000000 := fun i _ => by have := prod_small (A := 4) (B := 4) hk (ht.f i); omega
    have eS : fScale t k = (mkT (k * t.Const) (fun i => k * coef t.Coeffs i), true) := by
      unfold fScale; rw [ht.v, inR_iff.2 (show -1000000 ≤ k ∧ k ≤ 1000000 by omega)]; exact mkT_chk hSc hSf
    obtain ⟨eB, hB, vB⟩ := sub_val ht hp hv
    have vA : val (mkT (t.Const + p.Const) (fun i => coef t.Coeffs i + coef p.Coeffs i)) v = val t v + val p v := by
      rw [val_mkT, sumN_congr (g := fun i => coef t.Coeffs i * coef v i + coef p.Coeffs i * coef v i) 10 (fun i _ => Int.add_mul _ _ _), sumN_add]
      unfold val; omega
    have vS : val (mkT (k * t.Const) (fun i => k * coef t.Coeffs i)) v = k * val t v := by
      rw [val_mkT, sumN_congr (g := fun i => k * (coef t.Coeffs i * coef v i)) 10 (fun i _ => Int.mul_assoc _ _ _), sumN_mul]
      unfold val; rw [Int.mul_add]
    have ht1 := val_small ht hv
    have hp1 := val_small hp hv
    have hkv := prod_small (A := 4) (B := 247) hk ht1
    have hv0 := hv.coef 0
    have hc0 := ht.f 0
    have h1 := prod_small (A := 4) (B := 6) hc0 hv0
    have h2 := prod_small (A := 4) (B := 247) hc0 hp1
    rw [et, Option.bind_some, ep, Option.bind_some, ev, Option.bind_some, er, Option.bind_some, impl_add, Option.bind_some, w64_eq (n := r - 4) (by omega), hke, impl_scale, Option.bind_some, impl_sub, Option.bind_some,
      eA, eS, eB, eval_ok ht.v hv, Option.bind_some, eval_ok hp.v hv, Option.bind_some, eval_ok (mkT_valid hA hAf) hv, Option.bind_some, eval_ok (mkT_valid hSc hSf) hv, Option.bind_some, eval_ok hB hv, Option.bind_some, vA, vS, vB]
    simp only [Bool.not_true, Bool.or_false, Bool.false_or]
    rw [w64_eq (n := val t v + val p v) (by omega), w64_eq (n := k * val t v) (by omega), decide_eq_true rfl, decide_eq_true rfl]
    simp only [Bool.not_true, Bool.or_false, cond_false]
    have hJ : ∀ j, j = coef t.Coeffs 0 → m_laws_FnTerms_J0 v (val t v, true) (val p v, true) (val t v - coef t.Coeffs 0 * coef v 0 + coef t.Coeffs 0 * val p v, true) j = some true := by
      rintro j rfl
      unfold m_laws_FnTerms_J0
      have hv10 : 0 < v.length := by have := hv.1; omega
      rw [show (0 : Int) = ((0 : Nat) : Int) from rfl, getI_some (show v[0]? = some (coef v 0) by unfold coef; rw [show v[0]? = some v[0] by simp]; rfl), Option.bind_some]
      simp only
      rw [w64_eq (n := coef t.Coeffs 0 * coef v 0) (by omega), w64_eq (n := coef t.Coeffs 0 * val p v) (by omega), w64_eq (n := val t v - coef t.Coeffs 0 * coef v 0) (by omega), w64_eq (by omega), decide_eq_true rfl]
    by_cases h0 : 0 < t.Coeffs.length
    · rw [decide_eq_true (show (0 : Int) < (t.Coeffs.length : Int) by omega), cond_true]
      have hx : t.Coeffs[0]? = some t.Coeffs[0] := by simp
      rw [show getI t.Coeffs 0 = some t.Coeffs[0] from getI_some (n := 0) hx, Option.bind_some]
      exact hJ _ (coef_get hx).symm
    · rw [decide_eq_false (show ¬ (0 : Int) < (t.Coeffs.length : Int) by omega), cond_false]
      exact hJ _ (coef_no (by omega)).symm
  · rw [long_yes hl]; rfl
end Go.Mod

/- The law of combinations. Plain Lean. -/
namespace Go.Mod
open Go.AM
set_option linter.unusedVariables false
set_option linter.unusedSimpArgs false

structure Fact (t : Term) (c : Nat) : Prop where
  v : vT t = true
  c : -(c : Int) ≤ t.Const ∧ t.Const ≤ c
  f : ∀ i, -3 ≤ coef t.Coeffs i ∧ coef t.Coeffs i ≤ 3
theorem Fact.mono {t : Term} {c c' : Nat} (h : Fact t c) (hc : c ≤ c') : Fact t c' := ⟨h.v, by have := h.c; omega, h.f⟩
theorem facts_inner {s : l00Src} {k : Nat} {n : Int} (h : Src s k) (hk : k ≤ 1000000) (hn : 0 ≤ n ∧ n ≤ 3) :
    ∃ c a sd xs, iter m_spec_B10Facts_L1 (s.code, s.at_, s.seed, [], n) = some (c, a, sd, xs) ∧ Src (l00Src.mk c a sd) (k + 4) ∧ xs.length ≤ 3 ∧ ∀ x ∈ xs, -3 ≤ x ∧ x ≤ 3 := by
  obtain ⟨u, eu, hu⟩ := iter_inv (step := m_spec_B10Facts_L1)
    (fun s => Src (l00Src.mk s.1 s.2.1 s.2.2.1) (k + s.2.2.2.1.length) ∧ 0 ≤ s.2.2.2.2 ∧ (s.2.2.2.1.length : Int) + s.2.2.2.2 ≤ 3 ∧ ∀ x ∈ s.2.2.2.1, -3 ≤ x ∧ x ≤ 3)
    (fun s => s.2.2.2.2.toNat) (fun u => Src (l00Src.mk u.1 u.2.1 u.2.2.1) (k + 4) ∧ u.2.2.2.length ≤ 3 ∧ ∀ x ∈ u.2.2.2, -3 ≤ x ∧ x ≤ 3)
    (fun ⟨c, a, sd, xs, n⟩ ⟨i1, i2, i3, i4⟩ => by
      simp only at i1 i2 i3 i4
      unfold m_spec_B10Facts_L1
      simp only
      by_cases hn : 0 < n
      · left
        obtain ⟨r, s', e, r1, r2, hS⟩ := pick_ok (n := 7) i1 (by omega) (by omega)
        rw [decide_eq_true hn, cond_true, e, Option.bind_some, capI_some (by simp; omega), Option.bind_some, w64_eq (n := r - 3) (by omega), w64_eq (n := n - 1) (by omega)]
        refine ⟨_, rfl, ⟨?_, by simp only; omega, by simp; omega, ?_⟩, by simp only; omega⟩
        · simp only [List.length_append, List.length_cons, List.length_nil]; exact hS.mono (by omega)
        · intro x hx
          simp only [List.mem_append, List.mem_singleton] at hx
          rcases hx with hx | rfl
          · exact i4 x hx
          · omega
      · right
        rw [decide_eq_false hn, cond_false]
        exact ⟨_, rfl, i1.mono (by omega), by simp only; omega, i4⟩)
    (s := (s.code, s.at_, s.seed, [], n)) ⟨h, hn.1, by simp; omega, by simp⟩
  exact ⟨u.1, u.2.1, u.2.2.1, u.2.2.2, eu, hu⟩
theorem make_fact {c : Int} {xs : List Int} (hc : -5 ≤ c ∧ c ≤ 5) (h : ∀ x ∈ xs, -3 ≤ x ∧ x ≤ 3) : Fact (chk (Term.mk c (trim xs))).1 5 := by
  unfold chk
  cases hv : vT (Term.mk c (trim xs)) with
  | false => exact ⟨rfl, by simp only [cond_false]; decide, fun i => by rw [show coef (bif false then (Term.mk c (trim xs), true) else (Term.mk 0 [], false)).1.Coeffs i = 0 from rfl]; omega⟩
  | true =>
    refine ⟨hv, by simp only [cond_true]; omega, fun i => ?_⟩
    simp only [cond_true]
    rw [trim_coef]
    exact list_coef h (by omega) i
def FSt (s : List Int × Int × Int × List Term × Int) : Prop :=
  Src (l00Src.mk s.1 s.2.1 s.2.2.1) (20 * s.2.2.2.1.length + 1) ∧ 0 ≤ s.2.2.2.2 ∧ (s.2.2.2.1.length : Int) + s.2.2.2.2 ≤ 5 ∧ ∀ t ∈ s.2.2.2.1, Fact t (7 * s.2.2.2.1.length + 5)
theorem facts_J {c : List Int} {a sd : Int} {out : List Term} {n : Int} {r38 : Term × Bool} {c' : List Int} {a' sd' : Int} {b : Bool} (hI : FSt (c, a, sd, out, n)) (hn : 0 < n)
    (hr : Fact r38.1 5) (hS : Src (l00Src.mk c' a' sd') (20 * out.length + 10)) (hb : b = true → 0 < out.length) :
    ∃ s', m_spec_B10Facts_J0 (c, a, sd, out, n) r38 (c', a', sd', b) = some (.next s') ∧ FSt s' ∧ s'.2.2.2.2 = n - 1 := by
  obtain ⟨i1, i2, i3, i4⟩ := hI
  simp only at i1 i2 i3 i4
  have hadd : ∀ t (s2 : l00Src), Fact t (7 * (out.length + 1) + 5) → Src s2 (20 * out.length + 13) → FSt (s2.code, s2.at_, s2.seed, out ++ [t], n - 1) := by
    intro t s2 ht h2
    refine ⟨?_, by simp only; omega, by simp; omega, ?_⟩
    · simp only [List.length_append, List.length_cons, List.length_nil]; exact h2.mono (by omega)
    · intro x hx
      simp only [List.mem_append, List.mem_singleton] at hx
      simp only [List.length_append, List.length_cons, List.length_nil]
      rcases hx with hx | rfl
      · exact (i4 x hx).mono (by omega)
      · exact ht
  unfold m_spec_B10Facts_J0
  simp only
  cases b with
  | false =>
    rw [cond_false, capI_some (by simp; omega), Option.bind_some, w64_eq (n := n - 1) (by omega)]
    exact ⟨_, rfl, hadd _ (l00Src.mk c' a' sd') (hr.mono (by omega)) (hS.mono (by omega)), rfl⟩
  | true =>
    have h0 := hb rfl
    obtain ⟨r, s1, e1, k1, k2, hS1⟩ := pick_ok (n := (out.length : Int)) hS (by omega) (by omega)
    obtain ⟨m, hm⟩ := Int.eq_ofNat_of_zero_le k1
    have hlt : m < out.length := by omega
    have hx : out[m]? = some out[m] := by simp
    have hf := i4 _ (List.getElem_mem hlt)
    obtain ⟨q, s2, e2, q1, q2, hS2⟩ := pick_ok (n := 7) hS1 (by omega) (by omega)
    have hcf := hf.c
    have eo : chk (opp out[m]) = (opp out[m], true) := mkT_chk (by omega) (fun i _ => by have := hf.f i; omega)
    rw [cond_true, e1, Option.bind_some]
    simp only
    rw [hm, getI_some hx, Option.bind_some, spec_opposite hf.v, Option.bind_some, e2, Option.bind_some, eo]
    simp only
    rw [show (opp out[m]).Const = -(out[m]).Const - 1 from rfl, w64_eq (n := -(out[m]).Const - 1 + q) (by omega), capI_some (by simp; omega), Option.bind_some, w64_eq (n := n - 1) (by omega)]
    refine ⟨_, rfl, hadd _ s2 ⟨mkT_valid (c := -(out[m]).Const - 1 + q) (f := fun i => -coef (out[m]).Coeffs i) (by omega) (fun i _ => by have := hf.f i; omega), ?_, fun i => ?_⟩ (hS2.mono (by omega)), rfl⟩
    · simp only; omega
    · have := mkT_coef 0 (fun i => -coef (out[m]).Coeffs i) i
      have h2 := hf.f i
      rw [show coef (Term.mk (-(out[m]).Const - 1 + q) (opp out[m]).Coeffs).Coeffs i = coef (mkT 0 (fun i => -coef (out[m]).Coeffs i)).Coeffs i from rfl, this]
      split <;> omega
theorem facts_ok {code : List Int} (h1 : ∀ x ∈ code, 0 ≤ x ∧ x ≤ 255) (h2 : code.length ≤ 1048576) : ∃ ts, m_spec_B10Facts code = some ts ∧ ts.length ≤ 5 ∧ ∀ t ∈ ts, Fact t 40 := by
  unfold m_spec_B10Facts
  obtain ⟨e0, hS0⟩ := from_ok h1 h2
  rw [e0, Option.bind_some]
  obtain ⟨r, s1, e1, g1, g2, hS1⟩ := pick_ok (n := 5) hS0 (by omega) (by omega)
  rw [e1, Option.bind_some]
  simp only
  rw [w64_eq (n := 1 + r) (by omega)]
  obtain ⟨u, eu, hu⟩ := iter_inv (step := m_spec_B10Facts_L0) FSt (fun s => s.2.2.2.2.toNat) (fun ts => ts.length ≤ 5 ∧ ∀ t ∈ ts, Fact t 40)
    (fun ⟨c, a, sd, out, n⟩ hI => by
      have hI' := hI
      obtain ⟨i1, i2, i3, i4⟩ := hI'
      simp only at i1 i2 i3 i4
      unfold m_spec_B10Facts_L0
      simp only
      by_cases hn : 0 < n
      · left
        obtain ⟨r, s', e, r1, r2, hS⟩ := pick_ok (n := 4) i1 (by omega) (by omega)
        obtain ⟨c2, a2, sd2, xs, e2, hS2, hx1, hx2⟩ := facts_inner hS (by omega) (n := r) (by omega)
        rw [decide_eq_true hn, cond_true, e, Option.bind_some]
        simp only
        rw [e2, Option.bind_some]
        unfold m_spec_B10Facts_A1
        simp only
        obtain ⟨q, s3, e3, q1, q2, hS3⟩ := pick_ok (n := 9) hS2 (by omega) (by omega)
        rw [e3, Option.bind_some]
        simp only
        rw [w64_eq (n := q - 3) (by omega), spec_make (by omega), Option.bind_some]
        have hf := make_fact (c := q - 3) (xs := xs) (by omega) hx2
        by_cases h0 : 0 < out.length
        · rw [decide_eq_true (show (0 : Int) < (out.length : Int) by omega), cond_true]
          obtain ⟨z, s4, e4, z1, z2, hS4⟩ := pick_ok (n := 3) hS3 (by omega) (by omega)
          unfold m_spec_l00Src_one
          rw [e4, Option.bind_some, Option.bind_some]
          simp only
          obtain ⟨s', j1, j2, j3⟩ := facts_J (b := decide (z = 0)) (r38 := chk (Term.mk (q - 3) (trim xs))) hI hn hf (c' := s4.code) (a' := s4.at_) (sd' := s4.seed) (hS4.mono (by omega)) (fun _ => h0)
          exact ⟨s', j1, j2, by rw [j3]; omega⟩
        · rw [decide_eq_false (show ¬ (0 : Int) < (out.length : Int) by omega), cond_false]
          obtain ⟨s', j1, j2, j3⟩ := facts_J (b := false) (r38 := chk (Term.mk (q - 3) (trim xs))) hI hn hf (c' := s3.code) (a' := s3.at_) (sd' := s3.seed) (hS3.mono (by omega)) (fun h => by cases h)
          exact ⟨s', j1, j2, by rw [j3]; omega⟩
      · right
        rw [decide_eq_false hn, cond_false]
        exact ⟨_, rfl, by omega, fun t ht => (i4 t ht).mono (by omega)⟩)
    (s := (s1.code, s1.at_, s1.seed, [], 1 + r)) ⟨hS1.mono (by simp), by simp only; omega, by simp; omega, by simp⟩
  rw [eu, Option.bind_some]
  exact ⟨_, rfl, hu⟩

/-! ### The law -/
def allHold (ts : List Term) (v : List Int) : Bool := ts.all fun t => !decide (val t v < 0)
theorem hold_ok {ts : List Term} {v : List Int} (h : ∀ t ∈ ts, vT t = true) (hl : ts.length ≤ 1048576) (hv : Vals v) : m_laws_b10Hold ts v = some (allHold ts v) := by
  have h2 := iter_for (step := m_laws_b10Hold_L0 ts v) ts (fun n (_ : Unit) => (n : Int)) (fun _ t _ => bif !decide (val t v < 0) then some (.next ()) else some (.out (.inr false))) (fun _ => .inl ())
    (fun n x r hx => by
      unfold m_laws_b10Hold_L0
      rw [dec_lt (get_lt hx), cond_true, getI_some hx, Option.bind_some, value_ok (h x (List.mem_of_getElem? hx)) hv, Option.bind_some]
      have hw : w64 ((n : Int) + 1) = ((n + 1 : Nat) : Int) := w64_succ (by have := get_lt hx; omega)
      cases decide (val x v < 0)
      · rw [hw]; rfl
      · rfl)
    (fun r => by unfold m_laws_b10Hold_L0; rw [dec_self]; rfl) ()
  rw [forL_all (fun t => !decide (val t v < 0)) _ _ (fun n x _ => rfl)] at h2
  unfold m_laws_b10Hold
  rw [show (0 : Int) = ((0 : Nat) : Int) from rfl, h2, Option.bind_some]
  unfold allHold
  cases ts.all fun t => !decide (val t v < 0) <;> rfl
theorem fact_val {t : Term} {v : List Int} (h : Fact t 40) (hv : Vals v) : -220 ≤ val t v ∧ val t v ≤ 220 := by
  have h2 := sumN_rng (f := fun i => coef t.Coeffs i * coef v i) (B := 18) (fun i => by have := prod_small (A := 3) (B := 6) (h.f i) (hv.coef i); omega) 10
  have := h.c
  unfold val
  omega
theorem sumN_nonneg {f : Nat → Int} : ∀ n, (∀ i, i < n → 0 ≤ f i) → 0 ≤ sumN f n := by
  intro n
  induction n with
  | zero => intro _; exact Int.le_refl 0
  | succ n ih => intro h; have := ih (fun i hi => h i (by omega)); have := h n (by omega); unfold sumN; omega
theorem sumN_bnd {f : Nat → Int} {B : Int} : ∀ n : Nat, (∀ i, i < n → -B ≤ f i ∧ f i ≤ B) → -(n * B) ≤ sumN f n ∧ sumN f n ≤ n * B := by
  intro n
  induction n with
  | zero => intro _; simp [sumN]
  | succ n ih =>
    intro h
    have h1 := ih (fun i hi => h i (by omega))
    have h2 := h n (by omega)
    have e : ((n + 1 : Nat) : Int) * B = n * B + B := by rw [Int.natCast_add]; simp [Int.add_mul]
    rw [e]; unfold sumN; omega
theorem law_Combined {a b : List Int} (ka : kLa_u8 a) (kb : kLa_u8 b) : m_laws_FnCombined a b = some true := by
  unfold m_laws_FnCombined
  by_cases hl : a.length ≤ 1048576 ∧ b.length ≤ 1048576
  · rw [long_no hl.1 hl.2, Option.bind_some, cond_false]
    obtain ⟨ts, et, hlen, hts⟩ := facts_ok ka.2 hl.1
    obtain ⟨v, ev, hv⟩ := values_ok kb.2 hl.2
    rw [et, Option.bind_some, ev, Option.bind_some]
    obtain ⟨u, eu, hu⟩ := iter_inv (step := m_laws_FnCombined_L0 b ts v)
      (fun s => s.2.2 = (s.1.length : Int) ∧ s.1.length ≤ ts.length ∧ (∀ m ∈ s.1, 0 ≤ m ∧ m ≤ 5) ∧ s.2.1 = lin ts s.1 (fun t => val t v) s.1.length)
      (fun s => ts.length - s.1.length)
      (fun u => u.1.length = ts.length ∧ (∀ m ∈ u.1, 0 ≤ m ∧ m ≤ 5) ∧ u.2 = lin ts u.1 (fun t => val t v) ts.length)
      (fun ⟨ms, S, n⟩ ⟨i1, i2, i3, i4⟩ => by
        simp only at i1 i2 i3 i4
        subst i1
        unfold m_laws_FnCombined_L0
        simp only
        by_cases hn : ms.length < ts.length
        · left
          obtain ⟨r, er, hr0, hr1⟩ := at_ok (i := ms.length) (n := 6) kb.2 (by omega) (by omega)
          have hx : ts[ms.length]? = some ts[ms.length] := by simp
          have hf := hts _ (List.getElem_mem hn)
          have hfv := fact_val hf hv
          have hrv := prod_small (a := r) (A := 5) (B := 220) (by omega) hfv
          have hS : -(ms.length * 1100 : Int) ≤ S ∧ S ≤ ms.length * 1100 := by
            rw [i4]
            unfold lin
            have := sumN_bnd (f := fun k => coef ms k * val (tAt ts k) v) (B := 1100) ms.length (fun k hk => by
              have h1 : -5 ≤ coef ms k ∧ coef ms k ≤ 5 := by
                have : ms[k]? = some ms[k] := by simp
                rw [coef_get this]; have := i3 _ (List.getElem_mem hk); omega
              have h2 : -220 ≤ val (tAt ts k) v ∧ val (tAt ts k) v ≤ 220 := by
                unfold tAt
                rw [show ts[k]? = some (ts[k]'(by omega)) by simp]
                exact fact_val (hts _ (List.getElem_mem _)) hv
              have := prod_small (A := 5) (B := 220) h1 h2
              omega)
            exact this
          rw [dec_lt hn, cond_true, er, Option.bind_some, capI_some (by simp; omega), Option.bind_some, getI_some hx, Option.bind_some, value_ok hf.v hv, Option.bind_some, w64_succ (by omega),
            w64_eq (n := r * val ts[ms.length] v) (by omega), w64_eq (n := S + r * val ts[ms.length] v) (by omega)]
          refine ⟨_, rfl, ⟨by simp, by simp; omega, ?_, ?_⟩, by simp; omega⟩
          · intro x hx
            simp only [List.mem_append, List.mem_singleton] at hx
            rcases hx with hx | rfl
            · exact i3 x hx
            · omega
          · simp only [List.length_append, List.length_cons, List.length_nil]
            rw [lin_succ hx (m := r) (by simp), i4]
            congr 1
            unfold lin
            refine sumN_congr _ (fun k hk => ?_)
            congr 1
            unfold coef
            rw [List.getElem?_append_left hk]
        · right
          have : ms.length = ts.length := by omega
          rw [dec_not_lt hn, cond_false]
          exact ⟨_, rfl, this, i3, by rw [i4, this]⟩)
      (s := ([], 0, 0)) ⟨rfl, by simp, by simp, rfl⟩
    rw [eu, Option.bind_some]
    obtain ⟨u1, u2, u3⟩ := hu
    unfold m_laws_FnCombined_A0
    have hall : ts.all vT = true := List.all_eq_true.2 (fun t ht => (hts t ht).v)
    have hm : u.1.all inM = true := List.all_eq_true.2 (fun m hm => by have := u2 m hm; simp [inM]; omega)
    have hco : ∀ k, -5 ≤ coef u.1 k ∧ coef u.1 k ≤ 5 := fun k => list_coef (fun m hm => by have := u2 m hm; omega) (by omega) k
    have hat : ∀ k, Fact (tAt ts k) 40 := fun k => by
      unfold tAt
      cases hx : ts[k]? with
      | none => exact ⟨rfl, by decide, fun i => by show -3 ≤ coef [] i ∧ coef [] i ≤ 3; rw [coef_nil]; omega⟩
      | some t => exact hts t (List.mem_of_getElem? hx)
    have hC : -1000000 ≤ lin ts u.1 Term.Const ts.length ∧ lin ts u.1 Term.Const ts.length ≤ 1000000 := by
      have := sumN_rng (f := fun k => coef u.1 k * (tAt ts k).Const) (B := 200) (fun k => by have := prod_small (A := 5) (B := 40) (hco k) (hat k).c; omega) ts.length
      unfold lin; omega
    have hF : ∀ i, i < 10 → -1000000 ≤ lin ts u.1 (fun t => coef t.Coeffs i) ts.length ∧ lin ts u.1 (fun t => coef t.Coeffs i) ts.length ≤ 1000000 := fun i _ => by
      have := sumN_rng (f := fun k => coef u.1 k * coef (tAt ts k).Coeffs i) (B := 15) (fun k => by have := prod_small (A := 5) (B := 3) (hco k) ((hat k).f i); omega) ts.length
      unfold lin; simp only; omega
    have ec : fComb ts u.1 = (mkT (lin ts u.1 Term.Const ts.length) (fun i => lin ts u.1 (fun t => coef t.Coeffs i) ts.length), true) := by
      unfold fComb
      rw [hall, decide_eq_true (show ts.length ≤ 14 by omega), decide_eq_true u1, hm]
      exact mkT_chk hC hF
    rw [impl_comb, Option.bind_some, ec]
    simp only [cond_true]
    rw [value_ok (mkT_valid hC hF) hv, Option.bind_some, val_mkT_lin, u3, decide_eq_true rfl, cond_true, hold_ok (fun t ht => (hts t ht).v) (by omega) hv, Option.bind_some]
    cases hh : allHold ts v with
    | false => rfl
    | true =>
      simp only [Bool.not_true, cond_false]
      congr 1
      apply decide_eq_true
      unfold lin
      refine sumN_nonneg _ (fun k hk => ?_)
      have h1 : ts[k]? = some ts[k] := by simp
      have h2 : u.1[k]? = some (u.1[k]'(by omega)) := by simp
      have h3 := List.all_eq_true.1 hh _ (List.getElem_mem hk)
      simp only [Bool.not_eq_true', decide_eq_false_iff_not] at h3
      rw [coef_get h2]
      unfold tAt
      rw [h1]
      exact Int.mul_nonneg (u2 _ (List.getElem_mem _)).1 (by simp only [Option.getD_some]; omega)
  · rw [long_yes hl]; rfl
end Go.Mod
