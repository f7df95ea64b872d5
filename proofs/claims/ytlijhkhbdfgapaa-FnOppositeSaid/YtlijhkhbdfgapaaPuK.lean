/- Drawn terms and values; the opposite's sign. Plain Lean. -/
import Derived.Test.YtlijhkhbdfgapaaPuJ
namespace Go.Mod
open Go.AM
set_option linter.unusedVariables false
set_option linter.unusedSimpArgs false

theorem sumN_congr {f g : Nat → Int} : ∀ n, (∀ i, i < n → f i = g i) → sumN f n = sumN g n := by
  intro n
  induction n with
  | zero => intro _; rfl
  | succ n ih => intro h; unfold sumN; rw [ih (fun i hi => h i (by omega)), h n (by omega)]
theorem sumN_neg (f : Nat → Int) : ∀ n, sumN (fun i => -f i) n = -sumN f n := by
  intro n
  induction n with
  | zero => rfl
  | succ n ih => unfold sumN; rw [ih]; omega
theorem sumN_add (f g : Nat → Int) : ∀ n, sumN (fun i => f i + g i) n = sumN f n + sumN g n := by
  intro n
  induction n with
  | zero => rfl
  | succ n ih => unfold sumN; rw [ih]; omega
theorem sumN_mul (c : Int) (f : Nat → Int) : ∀ n, sumN (fun i => c * f i) n = c * sumN f n := by
  intro n
  induction n with
  | zero => simp [sumN]
  | succ n ih => unfold sumN; rw [ih, Int.mul_add]
theorem sumN_zero : ∀ n, sumN (fun _ => 0) n = 0 := by
  intro n
  induction n with
  | zero => rfl
  | succ n ih => unfold sumN; rw [ih]; rfl
theorem sumN_stop {f : Nat → Int} {n : Nat} (h : ∀ i, n ≤ i → f i = 0) : ∀ m, n ≤ m → sumN f m = sumN f n := by
  intro m
  induction m with
  | zero => intro hm; rw [show n = 0 by omega]
  | succ m ih =>
    intro hm
    by_cases e : n = m + 1
    · rw [e]
    · rw [show sumN f (m + 1) = sumN f m + f m from rfl, ih (by omega), h m (by omega)]; omega

/-- A term's value. -/
def val (t : Term) (v : List Int) : Int := t.Const + sumN (fun i => coef t.Coeffs i * coef v i) 10
def Vals (v : List Int) : Prop := v.length = 10 ∧ ∀ x ∈ v, -6 ≤ x ∧ x ≤ 6
theorem Vals.coef {v : List Int} (h : Vals v) (i : Nat) : -6 ≤ coef v i ∧ coef v i ≤ 6 := by
  unfold Mod.coef
  cases hx : v[i]? with
  | none => simp
  | some x => exact h.2 x (List.mem_of_getElem? hx)
theorem value_ok {t : Term} {v : List Int} (ht : vT t = true) (hv : Vals v) : m_laws_b10Value t v = some (val t v) := by
  have hl := vT_len ht
  have hp : ∀ i, -6000000 ≤ coef t.Coeffs i * coef v i ∧ coef t.Coeffs i * coef v i ≤ 6000000 := by
    intro i
    have h1 := coef_rng ht i
    have h2 := hv.coef i
    have := prod_rng h1.1 h1.2 h2.1 h2.2
    omega
  have hsum := sumN_rng (f := fun i => coef t.Coeffs i * coef v i) (B := 6000000) hp
  have hc := const_rng ht
  have key : ∀ (m n : Nat), n + m = t.Coeffs.length → iter (m_laws_b10Value_L0 t v) (t.Const + sumN (fun i => coef t.Coeffs i * coef v i) n, (n : Int)) = some (val t v) := by
    intro m
    induction m with
    | zero =>
      intro n hn
      obtain rfl : n = t.Coeffs.length := by omega
      refine iter_out ?_
      unfold m_laws_b10Value_L0
      simp only
      rw [dec_self, Bool.false_and, cond_false]
      unfold val
      rw [sumN_stop (n := t.Coeffs.length) (fun i hi => by rw [coef_no hi, Int.zero_mul]) 10 hl]
    | succ m ih =>
      intro n hn
      have hlt : n < t.Coeffs.length := by omega
      have hltv : n < v.length := by rw [hv.1]; omega
      have hx : t.Coeffs[n]? = some t.Coeffs[n] := by simp
      have hy : v[n]? = some v[n] := by simp
      have hs := hsum n
      have hpn := hp n
      rw [iter_next (s' := (t.Const + sumN (fun i => coef t.Coeffs i * coef v i) (n + 1), ((n + 1 : Nat) : Int)))]
      · exact ih (n + 1) (by omega)
      · unfold m_laws_b10Value_L0
        simp only
        rw [dec_lt hlt, dec_lt hltv, Bool.true_and, cond_true, getI_some hx, Option.bind_some, getI_some hy, Option.bind_some, w64_succ (by omega)]
        rw [coef_get hx, coef_get hy] at hpn
        rw [w64_eq (n := t.Coeffs[n] * v[n]) (by omega), w64_eq (by omega), sumN, coef_get hx, coef_get hy, Int.add_assoc]
  unfold m_laws_b10Value
  have := key t.Coeffs.length 0 (by omega)
  rw [show t.Const + sumN (fun i => coef t.Coeffs i * coef v i) 0 = t.Const by simp [sumN]] at this
  rw [show (0 : Int) = ((0 : Nat) : Int) from rfl, this]; rfl

/-! ### Drawn terms, drawn values -/
structure Small (t : Term) : Prop where
  v : vT t = true
  c : -7 ≤ t.Const ∧ t.Const ≤ 7
  f : ∀ i, -4 ≤ coef t.Coeffs i ∧ coef t.Coeffs i ≤ 4
theorem list_coef {xs : List Int} {a b : Int} (h : ∀ x ∈ xs, a ≤ x ∧ x ≤ b) (h0 : a ≤ 0 ∧ 0 ≤ b) (i : Nat) : a ≤ coef xs i ∧ coef xs i ≤ b := by
  unfold coef
  cases hx : xs[i]? with
  | none => simpa using h0
  | some x => exact h x (List.mem_of_getElem? hx)
theorem term_ok {code : List Int} (h1 : ∀ x ∈ code, 0 ≤ x ∧ x ≤ 255) (h2 : code.length ≤ 1048576) : ∃ t, m_spec_B10Term code = some t ∧ Small t := by
  unfold m_spec_B10Term
  obtain ⟨e0, hS0⟩ := from_ok h1 h2
  rw [e0, Option.bind_some]
  obtain ⟨r, s1, e1, g1, g2, hS1⟩ := pick_ok (n := 11) hS0 (by omega) (by omega)
  rw [e1, Option.bind_some]
  simp only
  obtain ⟨u, eu, hu⟩ := iter_inv (step := m_spec_B10Term_L0)
    (fun s => Src (l00Src.mk s.1 s.2.1 s.2.2.1) (1 + s.2.2.2.1.length) ∧ 0 ≤ s.2.2.2.2 ∧ (s.2.2.2.1.length : Int) + s.2.2.2.2 ≤ 10 ∧ ∀ x ∈ s.2.2.2.1, -4 ≤ x ∧ x ≤ 4)
    (fun s => s.2.2.2.2.toNat) (fun u => Src (l00Src.mk u.1 u.2.1 u.2.2.1) 20 ∧ u.2.2.2.length ≤ 10 ∧ ∀ x ∈ u.2.2.2, -4 ≤ x ∧ x ≤ 4)
    (fun ⟨c, a, sd, xs, n⟩ ⟨i1, i2, i3, i4⟩ => by
      simp only at i1 i2 i3 i4
      unfold m_spec_B10Term_L0
      simp only
      by_cases hn : 0 < n
      · left
        obtain ⟨r, s', e, r1, r2, hS⟩ := pick_ok (n := 9) i1 (by omega) (by omega)
        rw [decide_eq_true hn, cond_true, e, Option.bind_some, capI_some (by simp; omega), Option.bind_some, w64_eq (n := r - 4) (by omega), w64_eq (n := n - 1) (by omega)]
        refine ⟨_, rfl, ⟨?_, by simp only; omega, by simp; omega, ?_⟩, by simp only; omega⟩
        · simp only [List.length_append, List.length_cons, List.length_nil]; exact hS.mono (by omega)
        · intro x hx
          simp only [List.mem_append, List.mem_singleton] at hx
          rcases hx with hx | rfl
          · exact i4 x hx
          · omega
      · right
        rw [decide_eq_false hn, cond_false]
        exact ⟨_, rfl, i1.mono (by omega), by simp only; omega, i4⟩)
    (s := (s1.code, s1.at_, s1.seed, [], r)) ⟨hS1, g1, by simp; omega, by simp⟩
  rw [eu, Option.bind_some]
  obtain ⟨q1, q2, q3⟩ := hu
  unfold m_spec_B10Term_A0
  obtain ⟨r2, s2, e2, k1, k2, _⟩ := pick_ok (n := 15) q1 (by omega) (by omega)
  rw [e2, Option.bind_some, spec_make (by omega), Option.bind_some]
  refine ⟨_, rfl, ?_⟩
  simp only
  rw [w64_eq (by omega)]
  unfold chk
  cases hv : vT (Term.mk (r2 - 7) (trim u.2.2.2)) with
  | false => exact ⟨rfl, by simp only [cond_false]; decide, fun i => by rw [show coef (bif false then (Term.mk (r2 - 7) (trim u.2.2.2), true) else (Term.mk 0 [], false)).1.Coeffs i = 0 from rfl]; omega⟩
  | true =>
    refine ⟨hv, ?_, fun i => ?_⟩
    · simp only [cond_true]; omega
    · simp only [cond_true]
      rw [trim_coef]
      exact list_coef q3 (by omega) i
theorem values_ok {code : List Int} (h1 : ∀ x ∈ code, 0 ≤ x ∧ x ≤ 255) (h2 : code.length ≤ 1048576) : ∃ v, m_spec_B10Values code = some v ∧ Vals v := by
  unfold m_spec_B10Values
  obtain ⟨e0, hS0⟩ := from_ok h1 h2
  rw [e0, Option.bind_some]
  simp only
  obtain ⟨u, eu, hu⟩ := iter_inv (step := m_spec_B10Values_L0)
    (fun s => Src (l00Src.mk s.1 s.2.1 s.2.2.1) s.2.2.2.1.length ∧ s.2.2.2.2 = (s.2.2.2.1.length : Int) ∧ s.2.2.2.1.length ≤ 10 ∧ ∀ x ∈ s.2.2.2.1, -6 ≤ x ∧ x ≤ 6)
    (fun s => 10 - s.2.2.2.1.length) Vals
    (fun ⟨c, a, sd, xs, n⟩ ⟨i1, i2, i3, i4⟩ => by
      simp only at i1 i2 i3 i4
      unfold m_spec_B10Values_L0
      simp only
      by_cases hn : n < 10
      · left
        obtain ⟨r, s', e, r1, r2, hS⟩ := pick_ok (n := 13) i1 (by omega) (by omega)
        rw [decide_eq_true hn, cond_true, e, Option.bind_some, capI_some (by simp; omega), Option.bind_some, w64_eq (n := r - 6) (by omega), w64_eq (n := n + 1) (by omega)]
        refine ⟨_, rfl, ⟨?_, by simp; omega, by simp; omega, ?_⟩, by simp; omega⟩
        · simp only [List.length_append, List.length_cons, List.length_nil]; exact hS
        · intro x hx
          simp only [List.mem_append, List.mem_singleton] at hx
          rcases hx with hx | rfl
          · exact i4 x hx
          · omega
      · right
        rw [decide_eq_false hn, cond_false]
        exact ⟨_, rfl, by omega, i4⟩)
    (s := (code, 0, 0, [], 0)) ⟨hS0, rfl, by simp, by simp⟩
  rw [eu, Option.bind_some]
  exact ⟨_, rfl, hu⟩
theorem long_no {a b : List Int} (h1 : a.length ≤ 1048576) (h2 : b.length ≤ 1048576) : m_laws_b10Long a b = some false := by
  unfold m_laws_b10Long
  rw [decide_eq_false (by omega), decide_eq_false (by omega)]; rfl
theorem long_yes {a b : List Int} (h : ¬ (a.length ≤ 1048576 ∧ b.length ≤ 1048576)) : m_laws_b10Long a b = some true := by
  unfold m_laws_b10Long
  by_cases h1 : a.length ≤ 1048576
  · rw [decide_eq_false (show ¬ (1048576 : Int) < (a.length : Int) by omega), decide_eq_true (show (1048576 : Int) < (b.length : Int) by omega)]; rfl
  · rw [decide_eq_true (show (1048576 : Int) < (a.length : Int) by omega)]; rfl

/-! ### The law of the opposite -/
theorem fOpp_ok {t : Term} (h : vT t = true) (hc : -999999 ≤ t.Const ∧ t.Const ≤ 999999) : fOpp t = (mkT (-t.Const - 1) (fun i => -coef t.Coeffs i), true) := by
  unfold fOpp
  rw [h, cond_true]
  exact mkT_chk (by omega) (fun i _ => by have := coef_rng h i; omega)
theorem val_mkT (c : Int) (f : Nat → Int) (v : List Int) : val (mkT c f) v = c + sumN (fun i => f i * coef v i) 10 := by
  unfold val
  rw [sumN_congr (g := fun i => f i * coef v i) 10 (fun i hi => by rw [mkT_coef, if_pos hi])]
  rfl
theorem slices_eq {xs ys : List Int} : m_slices_Equal_int64_int64 xs ys = some (decide (xs = ys)) := by
  unfold m_slices_Equal_int64_int64
  by_cases h : xs.length = ys.length
  · rw [decide_eq_true (by omega), Bool.not_true, cond_false]
    have key : ∀ (as : List Int) (k : Nat), k + as.length = ys.length →
        forL (m_slices_Equal_int64_int64_L0 ys) (fun s0 => (Sum.inl ())) k as () = some (if as = ys.drop k then .inl () else .inr false) := by
      intro as
      induction as with
      | nil => intro k hk; rw [if_pos (by rw [List.drop_eq_nil_of_le (by simp at hk; omega)])]; rfl
      | cons a r ih =>
        intro k hk
        simp only [List.length_cons] at hk
        have hlt : k < ys.length := by omega
        rw [List.drop_eq_getElem_cons hlt]
        unfold forL m_slices_Equal_int64_int64_L0
        rw [getI_some (show ys[k]? = some ys[k] by simp), Option.bind_some]
        by_cases ha : a = ys[k]
        · rw [decide_eq_true ha, Bool.not_true, cond_false]
          have := ih (k + 1) (by omega)
          simp only
          refine Eq.trans this ?_
          congr 1
          by_cases h2 : r = ys.drop (k + 1)
          · rw [if_pos h2, if_pos (by rw [h2, ha])]
          · rw [if_neg h2, if_neg (fun e => h2 (List.cons.inj e).2)]
        · rw [decide_eq_false ha, Bool.not_false, cond_true, if_neg (fun e => ha (List.cons.inj e).1)]
    rw [key xs 0 (by omega), Option.bind_some, List.drop_zero]
    by_cases e : xs = ys
    · rw [if_pos e, decide_eq_true e]; rfl
    · rw [if_neg e, decide_eq_false e]; rfl
  · rw [decide_eq_false (by omega), decide_eq_false (fun e => h (by rw [e]))]; rfl
theorem same_self {t : Term} (h : vT t = true) : m_impl_SameTerm t t = some true := by
  unfold m_impl_SameTerm m_impl_Term_equal
  rw [impl_valid, Option.bind_some, h, cond_true, Option.bind_some, cond_true, slices_eq, decide_eq_true rfl, decide_eq_true rfl]
  rfl
theorem law_Opposite {a b : List Int} (ka : kLa_u8 a) (kb : kLa_u8 b) : m_laws_FnOpposite a b = some true := by
  unfold m_laws_FnOpposite
  by_cases hl : a.length ≤ 1048576 ∧ b.length ≤ 1048576
  · rw [long_no hl.1 hl.2, Option.bind_some, cond_false]
    obtain ⟨t, et, ht⟩ := term_ok ka.2 hl.1
    obtain ⟨v, ev, hv⟩ := values_ok kb.2 hl.2
    have hc := ht.c
    have hm : vT (mkT (-t.Const - 1) (fun i => -coef t.Coeffs i)) = true := mkT_valid (by omega) (fun i _ => by have := ht.f i; omega)
    have e2 : fOpp (mkT (-t.Const - 1) (fun i => -coef t.Coeffs i)) = (t, true) := by
      rw [fOpp_ok hm (by show -999999 ≤ -t.Const - 1 ∧ -t.Const - 1 ≤ 999999; omega)]
      rw [mkT_ext ht.v (by show -(-t.Const - 1) - 1 = t.Const; omega) (fun i hi => by rw [mkT_coef, if_pos hi]; omega)]
    rw [et, Option.bind_some, ev, Option.bind_some, impl_opp, Option.bind_some, fOpp_ok ht.v (by omega)]
    simp only
    rw [impl_opp, Option.bind_some, e2]
    simp only [cond_true]
    rw [same_self ht.v, Option.bind_some, cond_true, value_ok ht.v hv, Option.bind_some, value_ok hm hv, Option.bind_some, val_mkT]
    have e3 : sumN (fun i => -coef t.Coeffs i * coef v i) 10 = -sumN (fun i => coef t.Coeffs i * coef v i) 10 := by
      rw [← sumN_neg]; exact sumN_congr 10 (fun i _ => Int.neg_mul _ _)
    rw [e3]
    unfold val
    generalize sumN (fun i => coef t.Coeffs i * coef v i) 10 = S
    by_cases h0 : 0 ≤ t.Const + S
    · rw [decide_eq_true h0, decide_eq_false (by omega)]; rfl
    · rw [decide_eq_false h0, decide_eq_true (by omega)]; rfl
  · rw [long_yes hl]; rfl
end Go.Mod
