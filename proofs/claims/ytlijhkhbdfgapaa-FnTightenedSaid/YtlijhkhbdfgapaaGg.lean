import Derived.Test.YtlijhkhbdfgapaaGf
/- Tightened terms. Plain Lean. -/
namespace Go.Mod
open Go.AM
set_option linter.unusedVariables false
set_option linter.unusedSimpArgs false

theorem euclid {step : Int × Int → Option (Ctl (Int × Int) Int)}
    (h0 : ∀ a : Nat, step ((a : Int), ((0 : Nat) : Int)) = some (.out (a : Int)))
    (hs : ∀ a b : Nat, 0 < b → step ((a : Int), (b : Int)) = some (.next ((b : Int), ((a % b : Nat) : Int)))) : ∀ (n b a : Nat), b < n → iter step ((a : Int), (b : Int)) = some ((Nat.gcd a b : Nat) : Int) := by
  intro n
  induction n with
  | zero => intro b a h; omega
  | succ n ih =>
    intro b a h
    by_cases hb : b = 0
    · subst hb; rw [iter_out (h0 a), Nat.gcd_zero_right]
    · rw [iter_next (hs a b (by omega)), ih (a % b) b (by have := Nat.mod_lt a (Nat.pos_of_ne_zero hb); omega)]
      congr 2
      rw [Nat.gcd_comm a b, Nat.gcd_rec b a, Nat.gcd_comm]
theorem rem_nat {a b : Nat} (hb : 0 < b) : remI (a : Int) (b : Int) = some ((a % b : Nat) : Int) := by
  unfold remI
  rw [decide_eq_false (by omega), cond_false]
  rfl
theorem spec_euclid (a b : Nat) : iter m_spec_l02Divisor_L1 ((a : Int), (b : Int)) = some ((Nat.gcd a b : Nat) : Int) :=
  euclid (fun a => rfl) (fun a b hb => by
    unfold m_spec_l02Divisor_L1
    simp only
    rw [decide_eq_true (by omega), cond_true, rem_nat hb]; rfl) (b + 1) b a (Nat.lt_succ_self _)
theorem impl_euclid (a b : Nat) : iter m_impl_gcd_L1 ((a : Int), (b : Int)) = some ((Nat.gcd a b : Nat) : Int) :=
  euclid (fun a => rfl) (fun a b hb => by
    unfold m_impl_gcd_L1
    simp only
    rw [decide_eq_false (by omega), Bool.not_false, cond_true, rem_nat hb]; rfl) (b + 1) b a (Nat.lt_succ_self _)
def gcdL (xs : List Int) : Nat := xs.foldl (fun d x => Nat.gcd d x.natAbs) 0
theorem foldl_cast (xs : List Int) : ∀ (d : Nat), xs.foldl (fun (d : Int) x => ((Nat.gcd d.toNat x.natAbs : Nat) : Int)) (d : Int) = ((xs.foldl (fun d x => Nat.gcd d x.natAbs) d : Nat) : Int) := by
  induction xs with
  | nil => intro d; rfl
  | cons x r ih => intro d; simp only [List.foldl_cons, Int.toNat_natCast]; exact ih _
theorem impl_gcd {xs : List Int} (h : ∀ x ∈ xs, inR x = true) : m_impl_gcd xs = some ((gcdL xs : Nat) : Int) := by
  unfold m_impl_gcd
  rw [forL_fold (fun (d : Int) x => ((Nat.gcd d.toNat x.natAbs : Nat) : Int)) (fun _ d => 0 ≤ d) xs 0 0 (Int.le_refl 0) (fun n x d hx hd => by
    have hr := inR_iff.1 (h x (List.mem_of_getElem? hx))
    unfold m_impl_gcd_L0 m_impl_absolute
    rw [Option.bind_some, w64_eq (by omega), show max x (0 - x) = ((x.natAbs : Nat) : Int) by omega, show d = ((d.toNat : Nat) : Int) by omega, impl_euclid, Option.bind_some]
    exact ⟨by rw [Int.toNat_natCast]; rfl, by omega⟩), Option.bind_some]
  have := foldl_cast xs 0
  exact congrArg some this
theorem spec_gcd {t : Term} (h : ∀ x ∈ t.Coeffs, inR x = true) (hl : t.Coeffs.length ≤ 1048576) : m_spec_l02Divisor t = some ((gcdL t.Coeffs : Nat) : Int) := by
  have h2 := iter_for (step := m_spec_l02Divisor_L0 t) t.Coeffs (fun n (d : Nat) => ((d : Int), (n : Int))) (fun n x d => some (.next (Nat.gcd d x.natAbs))) (fun d => ((d : Nat) : Int))
    (fun n x d hx => by
      have hr := inR_iff.1 (h x (List.mem_of_getElem? hx))
      unfold m_spec_l02Divisor_L0 m_spec_l00Max
      simp only
      rw [dec_lt (get_lt hx), cond_true, getI_some hx, Option.bind_some, w64_eq (n := 0 - x) (by omega)]
      have e : (bif decide (0 - x < x) then some x else some (0 - x)) = some ((x.natAbs : Nat) : Int) := by
        by_cases h : 0 - x < x
        · rw [decide_eq_true h, cond_true, show ((x.natAbs : Nat) : Int) = x by omega]
        · rw [decide_eq_false h, cond_false, show ((x.natAbs : Nat) : Int) = 0 - x by omega]
      rw [e, Option.bind_some, spec_euclid, Option.bind_some]
      unfold m_spec_l02Divisor_A1
      simp only
      rw [w64_succ (by have := get_lt hx; omega)]; rfl)
    (fun r => by unfold m_spec_l02Divisor_L0; simp only; rw [dec_self]; rfl) 0
  rw [forL_fold (fun (d : Nat) x => Nat.gcd d x.natAbs) (fun _ _ => True) t.Coeffs 0 0 trivial (fun n x d hx _ => ⟨rfl, trivial⟩)] at h2
  unfold m_spec_l02Divisor
  rw [show ((0 : Int), (0 : Int)) = (((0 : Nat) : Int), ((0 : Nat) : Int)) from rfl, h2]
  rfl

theorem foldl_dvd (xs : List Int) : ∀ (d : Nat), (xs.foldl (fun d x => Nat.gcd d x.natAbs) d) ∣ d ∧ ∀ x ∈ xs, (xs.foldl (fun d x => Nat.gcd d x.natAbs) d) ∣ x.natAbs := by
  induction xs with
  | nil => intro d; exact ⟨Nat.dvd_refl d, fun x h => by cases h⟩
  | cons y r ih =>
    intro d
    obtain ⟨h1, h2⟩ := ih (Nat.gcd d y.natAbs)
    simp only [List.foldl_cons]
    refine ⟨Nat.dvd_trans h1 (Nat.gcd_dvd_left _ _), fun x hx => ?_⟩
    rcases List.mem_cons.1 hx with rfl | hx
    · exact Nat.dvd_trans h1 (Nat.gcd_dvd_right _ _)
    · exact h2 x hx
theorem gcdL_dvd {xs : List Int} {x : Int} (h : x ∈ xs) : gcdL xs ∣ x.natAbs := (foldl_dvd xs 0).2 x h

/-! ### Quotients -/
theorem tdiv_rng {x : Int} {d : Nat} (hd : 2 ≤ d) (h : inR x = true) : inR (x.tdiv d) = true ∧ -500000 ≤ x.tdiv d ∧ x.tdiv d ≤ 500000 := by
  have hr := inR_iff.1 h
  have key : ∀ n : Nat, n ≤ 1000000 → n / d ≤ 500000 := by
    intro n hn
    rw [Nat.div_le_iff_le_mul_add_pred (by omega)]
    have : d * 500000 ≥ 2 * 500000 := Nat.mul_le_mul_right _ hd
    omega
  have : -500000 ≤ x.tdiv d ∧ x.tdiv d ≤ 500000 := by
    rcases Int.le_total 0 x with h0 | h0
    · obtain ⟨n, rfl⟩ := Int.eq_ofNat_of_zero_le h0
      have := key n (by omega)
      rw [show ((n : Int).tdiv (d : Int)) = ((n / d : Nat) : Int) from rfl]
      generalize n / d = q at this ⊢
      omega
    · obtain ⟨n, hn⟩ := Int.eq_ofNat_of_zero_le (show 0 ≤ -x by omega)
      have := key n (by omega)
      have e : x.tdiv d = -((n / d : Nat) : Int) := by
        rw [show x = -(n : Int) by omega, Int.neg_tdiv]; rfl
      rw [e]
      generalize n / d = q at this ⊢
      omega
  exact ⟨inR_iff.2 (by omega), this⟩
theorem tdiv_ne {x : Int} {d : Nat} (hd : 0 < d) (hx : x ≠ 0) (h : d ∣ x.natAbs) : x.tdiv d ≠ 0 := by
  obtain ⟨k, hk⟩ := h
  intro h0
  have h1 : (x.tdiv d) * d = x := Int.tdiv_mul_cancel (Int.natAbs_dvd_natAbs.1 (by simpa using ⟨k, hk⟩))
  rw [h0, Int.zero_mul] at h1
  exact hx h1.symm
theorem quo_nat {x : Int} {d : Nat} (hd : 2 ≤ d) (h : inR x = true) : quoI x (d : Int) = some (x.tdiv d) := by
  have := (tdiv_rng hd h).2
  unfold quoI
  rw [decide_eq_false (by omega), cond_false, w64_eq (by omega)]
def quos (xs : List Int) (d : Nat) : List Int := xs.map fun x => x.tdiv d
def flo (c : Int) (d : Nat) : Int := if c.tmod d < 0 then c.tdiv d - 1 else c.tdiv d
theorem flo_rng {c : Int} {d : Nat} (hd : 2 ≤ d) (h : inR c = true) : inR (flo c d) = true := by
  have := (tdiv_rng hd h).2
  unfold flo
  split <;> exact inR_iff.2 (by omega)
theorem trim_id {xs : List Int} (h : lastOK xs = true) : trim xs = xs := by
  unfold trim
  cases hn : xs.length with
  | zero => rw [List.length_eq_zero_iff.1 hn]; rfl
  | succ n =>
    have hl : xs.getLast? = xs[n]? := by rw [List.getLast?_eq_getElem?, hn]; rfl
    have hx : xs[n]? = some xs[n] := by simp
    unfold lastOK at h
    rw [hl, hx] at h
    simp at h
    unfold tl
    rw [if_neg (by rw [hx]; simpa using h), ← hn, List.take_length]
theorem quos_last {xs : List Int} {d : Nat} (hd : 0 < d) (h : lastOK xs = true) (hv : ∀ x ∈ xs, d ∣ x.natAbs) : lastOK (quos xs d) = true := by
  unfold lastOK quos at *
  rw [List.getLast?_map]
  cases hx : xs.getLast? with
  | none => rfl
  | some x =>
    rw [hx] at h
    simp at h
    have := tdiv_ne hd h (hv x (List.mem_of_getLast? hx))
    simpa using this
theorem vT_last {t : Term} (h : vT t = true) : lastOK t.Coeffs = true := by simp [vT] at h; exact h.1.2
theorem tight_valid {t : Term} (h : vT t = true) (hd : 2 ≤ gcdL t.Coeffs) : vT (Term.mk (flo t.Const (gcdL t.Coeffs)) (quos t.Coeffs (gcdL t.Coeffs))) = true := by
  have h1 := vT_len h
  have h2 := quos_last (d := gcdL t.Coeffs) (by omega) (vT_last h) (fun x hx => gcdL_dvd hx)
  have h3 := flo_rng hd (vT_const h)
  have h4 : (quos t.Coeffs (gcdL t.Coeffs)).all inR = true := by
    rw [List.all_eq_true]
    intro y hy
    obtain ⟨x, hx, rfl⟩ := List.mem_map.1 hy
    exact (tdiv_rng hd (vT_coef h x hx)).1
  unfold vT
  rw [h2, h3, h4]
  simp [quos, h1]
def fTight (t : Term) : Term × Bool :=
  bif vT t && decide (2 ≤ gcdL t.Coeffs) then (Term.mk (flo t.Const (gcdL t.Coeffs)) (quos t.Coeffs (gcdL t.Coeffs)), true) else (Term.mk 0 [], false)
theorem spec_quos {t : Term} {d : Nat} (hd : 2 ≤ d) (h : ∀ x ∈ t.Coeffs, inR x = true) (hl : t.Coeffs.length ≤ 1048576) : iter (m_spec_l02Tight_L0 t (d : Int)) ([], 0) = some (quos t.Coeffs d) := by
  have h2 := iter_for (step := m_spec_l02Tight_L0 t (d : Int)) t.Coeffs (fun n (s : List Int) => (s, (n : Int))) (fun n x s => (capI (s.length + 1) 8).bind fun _ => some (.next (s ++ [x.tdiv d]))) (fun s => s)
    (fun n x s hx => by
      unfold m_spec_l02Tight_L0
      simp only
      rw [dec_lt (get_lt hx), cond_true, getI_some hx, Option.bind_some, quo_nat hd (h x (List.mem_of_getElem? hx)), Option.bind_some]
      simp only [List.length_cons, List.length_nil, Nat.zero_add]
      cases capI (s.length + 1) 8 with
      | none => rfl
      | some u => simp only [Option.bind_some]; rw [w64_succ (by have := get_lt hx; omega)]; rfl)
    (fun r => by unfold m_spec_l02Tight_L0; simp only; rw [dec_self]; rfl) []
  rw [forL_fold (fun s x => s ++ [x.tdiv d]) (fun k s => s.length = k) t.Coeffs 0 [] rfl (fun n x s hx hs => by
    have := get_lt hx
    rw [capI_some (by omega), Option.bind_some]
    exact ⟨rfl, by simp [hs]⟩)] at h2
  rw [show (([] : List Int), (0 : Int)) = ([], ((0 : Nat) : Int)) from rfl, h2]
  congr 1
  have : ∀ (xs s : List Int), xs.foldl (fun s x => s ++ [x.tdiv d]) s = s ++ xs.map fun x => x.tdiv d := by
    intro xs
    induction xs with
    | nil => intro s; simp
    | cons x r ih => intro s; simp [ih]
  exact this t.Coeffs []
theorem impl_quos {t : Term} {d : Nat} (hd : 2 ≤ d) (h : ∀ x ∈ t.Coeffs, inR x = true) (hl : t.Coeffs.length ≤ 1048576) : iter (m_impl_Term_tightened_L0 (d : Int) t) (t.Coeffs, 0) = some (quos t.Coeffs d) := by
  have key : ∀ (m n : Nat), n + m = t.Coeffs.length → iter (m_impl_Term_tightened_L0 (d : Int) t) (quos (t.Coeffs.take n) d ++ t.Coeffs.drop n, (n : Int)) = some (quos t.Coeffs d) := by
    intro m
    induction m with
    | zero =>
      intro n hn
      obtain rfl : n = t.Coeffs.length := by omega
      rw [iter_out (t := quos t.Coeffs d)]
      unfold m_impl_Term_tightened_L0
      simp only
      rw [dec_self, cond_false]
      simp
    | succ m ih =>
      intro n hn
      have hlt : n < t.Coeffs.length := by omega
      have hx : t.Coeffs[n]? = some t.Coeffs[n] := by simp
      have hql : (quos (t.Coeffs.take n) d).length = n := by unfold quos; simp; omega
      have hg : (quos (t.Coeffs.take n) d ++ t.Coeffs.drop n)[n]? = some t.Coeffs[n] := by
        rw [List.getElem?_append_right (by omega), hql, Nat.sub_self]; simp
      rw [iter_next (s' := (quos (t.Coeffs.take (n + 1)) d ++ t.Coeffs.drop (n + 1), ((n + 1 : Nat) : Int)))]
      · exact ih (n + 1) (by omega)
      · unfold m_impl_Term_tightened_L0
        simp only
        rw [dec_lt hlt, cond_true, getI_some hg, Option.bind_some, quo_nat hd (h _ (List.mem_of_getElem? hx)), Option.bind_some, w64_succ (by omega), Int.toNat_natCast]
        congr 3
        rw [List.set_append_right _ _ (by omega), hql, Nat.sub_self, List.drop_eq_getElem_cons hlt, List.set_cons_zero, List.take_add_one, hx, Option.toList_some, show ∀ ys, quos (ys ++ [t.Coeffs[n]]) d = quos ys d ++ [t.Coeffs[n].tdiv d] by intro ys; simp [quos], List.append_assoc]
        rfl
  have := key t.Coeffs.length 0 (by omega)
  simpa [quos] using this
theorem spec_tight {t : Term} (hl : cTerm t ≤ 1048576) : m_spec_TightenTerm t = some (fTight t) := by
  unfold m_spec_TightenTerm fTight
  rw [spec_is hl, Option.bind_some]
  cases h1 : vT t with
  | false => rfl
  | true =>
    unfold m_spec_l02Tight
    rw [spec_gcd (vT_coef h1) hl, Option.bind_some]
    by_cases h2 : 2 ≤ gcdL t.Coeffs
    · have hv := tight_valid h1 h2
      rw [decide_eq_false (by omega), cond_false, spec_quos h2 (vT_coef h1) hl, decide_eq_true h2]
      simp only [Bool.not_true, cond_false, Option.bind_some, Bool.true_and, cond_true]
      unfold m_spec_l02Tight_A0 m_spec_l02Tight_J0
      have hr := (tdiv_rng h2 (vT_const h1)).2
      have hm : ∀ c, m_spec_l02Make c (quos t.Coeffs (gcdL t.Coeffs)) = some (chk (Term.mk c (quos t.Coeffs (gcdL t.Coeffs)))) := by
        intro c
        rw [spec_make (by unfold quos; simp; have := vT_len h1; omega), trim_id (vT_last hv)]
      rw [quo_nat h2 (vT_const h1), Option.bind_some, show remI t.Const (gcdL t.Coeffs : Int) = some (t.Const.tmod (gcdL t.Coeffs)) by unfold remI; rw [decide_eq_false (by omega)]; rfl, Option.bind_some, hm, hm, w64_eq (by omega)]
      have e : ∀ c, c = flo t.Const (gcdL t.Coeffs) → (chk (Term.mk c (quos t.Coeffs (gcdL t.Coeffs)))) = (Term.mk (flo t.Const (gcdL t.Coeffs)) (quos t.Coeffs (gcdL t.Coeffs)), true) := by
        rintro c rfl
        unfold chk; rw [hv]; rfl
      by_cases h3 : t.Const.tmod (gcdL t.Coeffs) < 0
      · rw [decide_eq_true h3, cond_true, e _ (by unfold flo; rw [if_pos h3])]; rfl
      · rw [decide_eq_false h3, cond_false, e _ (by unfold flo; rw [if_neg h3])]; rfl
    · rw [decide_eq_true (show ((gcdL t.Coeffs : Nat) : Int) < 2 by omega), decide_eq_false h2]; rfl
theorem impl_tight {t : Term} : m_impl_TightenTerm t = some (fTight t) := by
  unfold m_impl_TightenTerm fTight
  rw [impl_valid, Option.bind_some]
  cases h1 : vT t with
  | false => rfl
  | true =>
    have hl := vT_len h1
    unfold m_impl_Term_tightened
    rw [impl_gcd (vT_coef h1), Option.bind_some]
    by_cases h2 : 2 ≤ gcdL t.Coeffs
    · have hr := (tdiv_rng h2 (vT_const h1)).2
      rw [decide_eq_false (by omega), cond_false, impl_own (by omega), decide_eq_true h2]
      simp only [Bool.not_true, cond_false, Option.bind_some, Bool.true_and, cond_true]
      unfold m_impl_divFloor
      rw [quo_nat h2 (vT_const h1), Option.bind_some, show remI t.Const (gcdL t.Coeffs : Int) = some (t.Const.tmod (gcdL t.Coeffs)) by unfold remI; rw [decide_eq_false (by omega)]; rfl, Option.bind_some, w64_eq (by omega)]
      have e : (bif decide (t.Const.tmod (gcdL t.Coeffs) < 0) then some (t.Const.tdiv (gcdL t.Coeffs) - 1) else some (t.Const.tdiv (gcdL t.Coeffs))) = some (flo t.Const (gcdL t.Coeffs)) := by
        unfold flo
        by_cases h3 : t.Const.tmod (gcdL t.Coeffs) < 0
        · rw [decide_eq_true h3, if_pos h3]; rfl
        · rw [decide_eq_false h3, if_neg h3]; rfl
      rw [e, Option.bind_some, impl_quos h2 (vT_coef h1) (by omega)]; rfl
    · rw [decide_eq_true (show ((gcdL t.Coeffs : Nat) : Int) ≤ 1 by omega), decide_eq_false h2]; rfl
theorem fTight_small (t : Term) : small (fTight t) := by
  unfold fTight small
  cases h : vT t && decide (2 ≤ gcdL t.Coeffs) with
  | false => exact Nat.zero_le _
  | true =>
    simp only [Bool.and_eq_true] at h
    have := vT_len h.1
    simp [cTerm, quos]; omega
theorem law_TightenTerm {p : Term} (kp : k_Term p) : m_laws_FnExactTightenTerm p = some true := by
  unfold m_laws_FnExactTightenTerm
  rw [show (1048576 : Int) = ((1048576 : Nat) : Int) from rfl, sz_Term kp.2.1 _ (Nat.le_refl _), Option.bind_some]
  by_cases h1 : cTerm p ≤ 1048576
  · have hs := fTight_small p
    unfold small at hs
    obtain ⟨r1, a1, b1⟩ := mkh_Term (t := p) (k := 1) (by omega)
    obtain ⟨r3, a3, b3⟩ := mkh_Term (t := (fTight p).1) (k := 1) (by omega)
    replace a1 : m_laws_markTerm p 1 = _ := a1
    replace a3 : m_laws_markTerm (fTight p).1 1 = _ := a3
    replace b3 : m_laws_heldTerm (Term.mk (fTight p).1.Const r3) 1 = _ := b3
    simp only [szOut_ok h1, dec_neg, cond_false, Option.bind_some, to_Term h1, spec_tight h1, impl_tight, eq_Term hs, eq_Term h1, decide_true, bool_beq, Bool.not_true, Bool.or_false, a1, a3, b3]
  · rw [szOut_no h1]; rfl
end Go.Mod

/- Substitutions. Plain Lean. -/
namespace Go.Mod
open Go.AM
set_option linter.unusedVariables false
set_option linter.unusedSimpArgs false

theorem lin_succ {ts : List Term} {ms : List Int} {n : Nat} {t : Term} {m : Int} (h1 : ts[n]? = some t) (h2 : ms[n]? = some m) (g : Term → Int) :
    lin ts ms g (n + 1) = lin ts ms g n + m * g t := by
  unfold lin
  rw [show sumN (fun k => coef ms k * g (tAt ts k)) (n + 1) = sumN (fun k => coef ms k * g (tAt ts k)) n + coef ms n * g (tAt ts n) from rfl, coef_get h2]
  unfold tAt
  rw [h1]; rfl
def unitT (n : Nat) : Term := Term.mk 0 ((List.replicate (n + 1) 0).set n 1)
theorem unit_coef (n i : Nat) : coef (unitT n).Coeffs i = if i = n then 1 else 0 := by
  unfold coef unitT
  simp only [List.getElem?_set, List.length_replicate, List.getElem?_replicate]
  by_cases h : i = n
  · subst h; simp
  · rw [if_neg (Ne.symm h), if_neg h]
    by_cases h2 : i < n + 1
    · rw [if_pos h2]; rfl
    · rw [if_neg h2]; rfl
theorem unit_valid : ∀ n, n < 10 → vT (unitT n) = true := by decide
def subT (ps : List Term) (n : Nat) : Term := match ps[n]? with | some t => t | none => unitT n
theorem subT_valid {ps : List Term} (h : ps.all vT = true) {n : Nat} (hn : n < 10) : vT (subT ps n) = true := by
  unfold subT
  cases hx : ps[n]? with
  | none => exact unit_valid n hn
  | some t => exact List.all_eq_true.1 h t (List.mem_of_getElem? hx)
def subL (p : Term) (ps : List Term) (n : Nat) : List Term := Term.mk p.Const [] :: (List.range n).map (subT ps)
def subM (p : Term) : List Int := 1 :: p.Coeffs
theorem sub_lin {p : Term} {ps : List Term} (hp : vT p = true) (hs : ps.all vT = true) : Lin (subL p ps p.Coeffs.length) (subM p) := by
  have hl := vT_len hp
  refine ⟨fun t ht => ?_, fun m hm => ?_, by simp [subL]; omega, by simp [subL, subM]⟩
  · unfold subL at ht
    rcases List.mem_cons.1 ht with rfl | ht
    · exact vT_one _ (vT_const hp)
    · obtain ⟨i, hi, rfl⟩ := List.mem_map.1 ht
      exact subT_valid hs (by rw [List.mem_range] at hi; omega)
  · unfold subM at hm
    rcases List.mem_cons.1 hm with rfl | hm
    · unfold mOK; omega
    · exact inR_iff.1 (vT_coef hp m hm)
def fSub (p : Term) (ps : List Term) : Term × Bool :=
  bif vT p && ps.all vT && decide (ps.length ≤ 10) then
    chk (Term.mk (lin (subL p ps p.Coeffs.length) (subM p) Term.Const (p.Coeffs.length + 1)) (trim (tab fun i => lin (subL p ps p.Coeffs.length) (subM p) (fun t => coef t.Coeffs i) (p.Coeffs.length + 1)))) else (Term.mk 0 [], false)
theorem impl_sub {p : Term} {ps : List Term} : m_impl_SubstituteTerm p ps = some (fSub p ps) := by
  unfold m_impl_SubstituteTerm fSub
  rw [impl_valid, Option.bind_some, show (10 : Int) = ((10 : Nat) : Int) from rfl, impl_terms, Option.bind_some]
  cases h1 : vT p with
  | false => rfl
  | true =>
    have hl := vT_len h1
    cases h2 : ps.all vT with
    | false => cases decide (ps.length ≤ 10) <;> rfl
    | true =>
      by_cases h3 : ps.length ≤ 10
      · rw [decide_eq_true h3]
        simp only [Bool.not_true, cond_false, Bool.and_true, Bool.true_and, cond_true]
        obtain ⟨u, e1, e2⟩ := forL_inv (step := m_impl_SubstituteTerm_L0 ps) (fin := fun s0 => (s0.1, s0.2)) (xs := p.Coeffs)
          (fun n s => s = (subL p ps n, 1 :: p.Coeffs.take n)) (fun t => t = (subL p ps p.Coeffs.length, subM p))
          (fun n x s hx hs => by
            subst hs
            have hn := get_lt hx
            refine .inl ⟨_, ?_, rfl⟩
            have hj : m_impl_SubstituteTerm_J0 (subL p ps n, 1 :: p.Coeffs.take n) x ((subT ps n).Const, (subT ps n).Coeffs) = some (.next (subL p ps (n + 1), 1 :: p.Coeffs.take (n + 1))) := by
              unfold m_impl_SubstituteTerm_J0
              rw [capI_some (by simp [subL]; omega), Option.bind_some, capI_some (by simp; omega), Option.bind_some]
              simp only [Term.eta]
              rw [List.take_add_one, hx, Option.toList_some]
              unfold subL
              rw [List.range_succ, List.map_append]
              rfl
            unfold m_impl_SubstituteTerm_L0
            rw [makeI_some (by omega), Option.bind_some, getI_some (x := (0 : Int)) (by simp), Option.bind_some]
            by_cases hp : n < ps.length
            · have hpx : ps[n]? = some ps[n] := by simp [hp]
              rw [dec_lt hp, cond_true, getI_some hpx, Option.bind_some, ← hj, show subT ps n = ps[n] by unfold subT; rw [hpx]]
            · have hpx : ps[n]? = none := by simp; omega
              rw [dec_not_lt hp, cond_false, ← hj, show subT ps n = unitT n by unfold subT; rw [hpx]]
              rw [Int.toNat_natCast]; rfl)
          (fun s hs => by subst hs; simp only [List.take_length]; rfl) rfl
        rw [show ([Term.mk p.Const []], [(1 : Int)]) = (subL p ps 0, 1 :: p.Coeffs.take 0) from rfl, e1, e2, Option.bind_some]
        unfold m_impl_SubstituteTerm_A0
        have hln : (subL p ps p.Coeffs.length).length = p.Coeffs.length + 1 := by simp [subL]
        rw [impl_combined (sub_lin h1 h2), Option.bind_some, impl_checked, hln]; rfl
      · rw [decide_eq_false h3]; rfl
theorem spec_sub_inner (m : Int) (t : Term) : m_spec_l02Replace_L1 m t = m_spec_l02Combine_L1 m t := rfl
theorem spec_sub {p : Term} {ps : List Term} (hp : cTerm p ≤ 1048576) (hs : cTermS ps ≤ 1048576) : m_spec_SubstituteTerm p ps = some (fSub p ps) := by
  unfold m_spec_SubstituteTerm fSub
  rw [spec_is hp, Option.bind_some, show (10 : Int) = ((10 : Nat) : Int) from rfl, spec_all hs, Option.bind_some]
  cases h1 : vT p with
  | false => rfl
  | true =>
    have hl := vT_len h1
    cases h2 : ps.all vT with
    | false => rfl
    | true =>
      by_cases h3 : ps.length ≤ 10
      · rw [decide_eq_true h3]
        simp only [Bool.not_true, cond_false, Bool.and_true, Bool.true_and, cond_true]
        have hL := sub_lin h1 h2
        have hts : ∀ n, n < p.Coeffs.length → (subL p ps p.Coeffs.length)[n + 1]? = some (subT ps n) := by
          intro n hn; simp [subL, hn]
        have key : ∀ (m n : Nat), n + m = p.Coeffs.length →
            iter (m_spec_l02Replace_L0 p ps) (lin (subL p ps p.Coeffs.length) (subM p) Term.Const (n + 1), tab (fun i => lin (subL p ps p.Coeffs.length) (subM p) (fun t => coef t.Coeffs i) (n + 1)), (n : Int)) =
            some (lin (subL p ps p.Coeffs.length) (subM p) Term.Const (p.Coeffs.length + 1), tab (fun i => lin (subL p ps p.Coeffs.length) (subM p) (fun t => coef t.Coeffs i) (p.Coeffs.length + 1))) := by
          intro m
          induction m with
          | zero =>
            intro n hn
            obtain rfl : n = p.Coeffs.length := by omega
            refine iter_out ?_
            unfold m_spec_l02Replace_L0
            simp only
            rw [dec_self]; rfl
          | succ m ih =>
            intro n hn
            have hlt : n < p.Coeffs.length := by omega
            have hx : p.Coeffs[n]? = some p.Coeffs[n] := by simp
            have hm : (subM p)[n + 1]? = some p.Coeffs[n] := by simp [subM]
            have hxr := inR_iff.1 (vT_coef h1 _ (List.getElem_mem hlt))
            have hr := fun (g : Term → Int) hg => lin_rng hL (g := g) hg (n := n + 1) (by omega)
            rw [iter_next (s' := (lin (subL p ps p.Coeffs.length) (subM p) Term.Const (n + 1 + 1), tab (fun i => lin (subL p ps p.Coeffs.length) (subM p) (fun t => coef t.Coeffs i) (n + 1 + 1)), ((n + 1 : Nat) : Int)))]
            · exact ih (n + 1) (by omega)
            · simp only [lin_succ (hts n hlt) hm]
              unfold m_spec_l02Replace_L0
              simp only
              rw [dec_lt hlt, cond_true]
              by_cases hp : n < ps.length
              · have hpx : ps[n]? = some ps[n] := by simp [hp]
                have hv := List.all_eq_true.1 h2 _ (List.getElem_mem hp)
                rw [decide_eq_false (by omega), cond_false, getI_some hx, Option.bind_some, getI_some hpx, Option.bind_some, spec_sub_inner, spec_inner (by have := vT_len hv; omega),
                  inner hxr (vT_len hv) (vT_coef hv) (fun i => by have := hr (fun t => coef t.Coeffs i) (fun t ht => coef_rng ht i); omega), Option.bind_some]
                unfold m_spec_l02Replace_A1
                have h4 := hr Term.Const (fun t ht => const_rng ht)
                have h5 := mul_rng hxr (const_rng hv)
                simp only
                rw [w64_succ (by omega), w64_eq (n := p.Coeffs[n] * (ps[n]).Const) (by omega), w64_eq (by omega), show subT ps n = ps[n] by unfold subT; rw [hpx]]
              · have hpx : ps[n]? = none := by simp; omega
                have h6 := hr (fun t => coef t.Coeffs n) (fun t ht => coef_rng ht n)
                rw [decide_eq_true (by omega), cond_true, getI_some (tab_get (by omega)), Option.bind_some, getI_some hx, Option.bind_some, w64_succ (by omega), w64_eq (by omega), Int.toNat_natCast, tab_set (by omega),
                  show subT ps n = unitT n by unfold subT; rw [hpx]]
                simp only [unit_coef, show (unitT n).Const = 0 from rfl, Int.mul_zero, Int.add_zero]
                congr 4
                unfold tab
                apply List.map_congr_left
                intro i hi
                by_cases h7 : i = n
                · subst h7; rw [if_pos rfl, if_pos rfl, Int.mul_one]
                · rw [if_neg h7, if_neg h7, Int.mul_zero, Int.add_zero]
        unfold m_spec_l02Replace
        rw [show makeI 10 8 = some 10 from rfl, Option.bind_some]
        have h0 := key p.Coeffs.length 0 (by omega)
        have e0 : lin (subL p ps p.Coeffs.length) (subM p) Term.Const (0 + 1) = p.Const := by
          rw [lin_succ (t := Term.mk p.Const []) (m := 1) rfl rfl]; simp [lin, sumN]
        have e1 : (fun i => lin (subL p ps p.Coeffs.length) (subM p) (fun t => coef t.Coeffs i) (0 + 1)) = fun _ => 0 := by
          funext i
          rw [lin_succ (t := Term.mk p.Const []) (m := 1) rfl rfl]; simp [lin, sumN, coef]
        rw [e0, e1] at h0
        rw [tab_zero, show (0 : Int) = ((0 : Nat) : Int) from rfl]
        rw [show iter (m_spec_l02Replace_L0 p ps) (p.Const, tab (fun _ => ((0 : Nat) : Int)), ((0 : Nat) : Int)) = _ from h0, Option.bind_some]
        unfold m_spec_l02Replace_A0
        rw [spec_make (by simp only [tab_len]; omega)]; rfl
      · rw [decide_eq_false h3]; rfl
theorem fSub_small (p : Term) (ps : List Term) : small (fSub p ps) := by
  unfold fSub
  cases vT p && ps.all vT && decide (ps.length ≤ 10)
  · exact Nat.zero_le _
  · exact chk_small _
theorem law_SubstituteTerm {p : Term} {ps : List Term} (kp : k_Term p) (ks : kLa_Term ps) : m_laws_FnExactSubstituteTerm p ps = some true := by
  unfold m_laws_FnExactSubstituteTerm
  rw [show (1048576 : Int) = ((1048576 : Nat) : Int) from rfl, sz_Term kp.2.1 _ (Nat.le_refl _), Option.bind_some]
  by_cases h1 : cTerm p ≤ 1048576
  · rw [szOut_ok h1, dec_neg, cond_false, sz_TermS ks _ (by omega), Option.bind_some]
    by_cases h2 : cTermS ps ≤ 1048576 - cTerm p
    · have h3 : cTermS ps ≤ 1048576 := by omega
      have hs := fSub_small p ps
      unfold small at hs
      obtain ⟨r1, a1, b1⟩ := mkh_Term (t := p) (k := 1) (by omega)
      obtain ⟨r2, a2, b2⟩ := mkh_TermS (ts := ps) (k := 1 + cTerm p) (by omega)
      obtain ⟨r3, a3, b3⟩ := mkh_Term (t := (fSub p ps).1) (k := 1) (by omega)
      replace a1 : m_laws_markTerm p 1 = _ := a1
      replace a3 : m_laws_markTerm (fSub p ps).1 1 = _ := a3
      replace b3 : m_laws_heldTerm (Term.mk (fSub p ps).1.Const r3) 1 = _ := b3
      simp only [szOut_ok h2, dec_neg, cond_false, Option.bind_some, to_Term h1, to_TermS h3, spec_sub h1 h3, impl_sub, eq_Term hs, eq_Term h1, eq_TermS h3, decide_true, bool_beq, Bool.not_true, Bool.or_false, a1, a2, a3, b3]
    · rw [szOut_no h2]; rfl
  · rw [szOut_no h1]; rfl
end Go.Mod

/- Drawn terms, and values. Plain Lean. -/
namespace Go.Mod
open Go.AM
set_option linter.unusedVariables false
set_option linter.unusedSimpArgs false

/-! ### The source of the draws -/
def Src (s : l00Src) (k : Nat) : Prop := (∀ x ∈ s.code, 0 ≤ x ∧ x ≤ 255) ∧ s.code.length ≤ 1048576 ∧ 0 ≤ s.at_ ∧ s.at_ ≤ k
theorem Src.mono {s : l00Src} {k k' : Nat} (h : Src s k) (hk : k ≤ k') : Src s k' := ⟨h.1, h.2.1, h.2.2.1, by have := h.2.2.2; omega⟩
theorem and_rng (a : Int) : 0 ≤ andU 64 a 255 ∧ andU 64 a 255 ≤ 255 := by
  unfold andU
  have h : (BitVec.ofInt 64 a &&& BitVec.ofInt 64 255).toNat ≤ 255 := by
    rw [BitVec.toNat_and]
    have : (BitVec.ofInt 64 255).toNat = 255 := by decide
    rw [this]
    exact Nat.and_le_right
  generalize (BitVec.ofInt 64 a &&& BitVec.ofInt 64 255).toNat = q at h
  unfold wu
  omega
theorem next_ok {s : l00Src} {k : Nat} (h : Src s k) (hk : k ≤ 1000000000) : ∃ r s', m_spec_l00Src_next s = some (r, s') ∧ 0 ≤ r ∧ r ≤ 255 ∧ Src s' (k + 1) := by
  obtain ⟨h1, h2, h3, h4⟩ := h
  have hJ : ∀ j : Int, 0 ≤ j → j ≤ 255 → ∃ r s', m_spec_l00Src_next_J0 s j = some (r, s') ∧ 0 ≤ r ∧ r ≤ 255 ∧ Src s' (k + 1) := by
    intro j hj0 hj1
    unfold m_spec_l00Src_next_J0
    rw [w64_eq (n := s.at_ + 1) (by omega)]
    have hS : ∀ sd, Src (l00Src.mk s.code (s.at_ + 1) sd) (k + 1) := fun sd => ⟨h1, h2, by simp only; omega, by simp only; omega⟩
    by_cases hq : s.at_ + 1 ≤ (s.code.length : Int)
    · rw [decide_eq_true hq, cond_true]; exact ⟨_, _, rfl, hj0, hj1, hS _⟩
    · rw [decide_eq_false hq, cond_false]
      have := and_rng (Int.fdiv (wu 64 ((wu 64 ((wu 64 (s.seed * (6364136223846793005 : Int))) + (wu 64 j))) + (1442695040888963407 : Int))) (2 ^ 40))
      exact ⟨_, _, rfl, by rw [w64_eq (by omega)]; omega, by rw [w64_eq (by omega)]; omega, hS _⟩
  unfold m_spec_l00Src_next
  by_cases hq : s.at_ < (s.code.length : Int)
  · obtain ⟨n, hn⟩ := Int.eq_ofNat_of_zero_le h3
    have hlt : n < s.code.length := by omega
    have hx : s.code[n]? = some s.code[n] := by simp
    have hb := h1 _ (List.getElem_mem hlt)
    rw [decide_eq_true hq, cond_true, hn, getI_some hx, Option.bind_some, w64_eq (by omega)]
    exact hJ _ hb.1 hb.2
  · rw [decide_eq_false hq, cond_false]; exact hJ 0 (by omega) (by omega)
theorem pick_ok {s : l00Src} {k : Nat} {n : Int} (h : Src s k) (hk : k ≤ 100000000) (hn : n ≤ 200) : ∃ r s', m_spec_l00Src_pick s n = some (r, s') ∧ 0 ≤ r ∧ (r < n ∨ r = 0) ∧ Src s' (k + 1) := by
  unfold m_spec_l00Src_pick
  by_cases h1 : n ≤ 1
  · rw [decide_eq_true h1, cond_true]; exact ⟨_, _, rfl, by omega, .inr rfl, h.mono (by omega)⟩
  · rw [decide_eq_false h1, cond_false]
    obtain ⟨r, s', e1, e2, e3, e4⟩ := next_ok h (by omega)
    rw [e1, Option.bind_some, decide_eq_false (by omega), cond_false]
    simp only
    unfold remI
    rw [decide_eq_false (by omega), cond_false, Option.bind_some]
    exact ⟨_, _, rfl, Int.tmod_nonneg _ e2, .inl (Int.tmod_lt_of_pos _ (by omega)), e4⟩
theorem from_ok {code : List Int} (h1 : ∀ x ∈ code, 0 ≤ x ∧ x ≤ 255) (h2 : code.length ≤ 1048576) : m_spec_l00From code = some (l00Src.mk code 0 0) ∧ Src (l00Src.mk code 0 0) 0 :=
  ⟨rfl, h1, h2, Int.le_refl _, Int.le_refl _⟩
theorem at_ok {code : List Int} {i : Nat} {n : Int} (h1 : ∀ x ∈ code, 0 ≤ x ∧ x ≤ 255) (hi : i ≤ 1000000) (hn : 1 < n) : ∃ r, m_laws_b10At code (i : Int) n = some r ∧ 0 ≤ r ∧ r < n := by
  unfold m_laws_b10At
  rw [decide_eq_false (by omega), cond_false]
  by_cases h : i < code.length
  · have hx : code[i]? = some code[i] := by simp [h]
    have hb := h1 _ (List.getElem_mem h)
    rw [dec_lt h, cond_true, getI_some hx, Option.bind_some, w64_eq (by omega)]
    unfold remI
    rw [decide_eq_false (by omega), cond_false, Option.bind_some]
    exact ⟨_, rfl, Int.tmod_nonneg _ hb.1, Int.tmod_lt_of_pos _ (by omega)⟩
  · rw [dec_not_lt h, cond_false, w64_eq (n := (i : Int) * 37) (by omega), w64_eq (by omega)]
    unfold remI
    rw [decide_eq_false (by omega), cond_false, Option.bind_some]
    exact ⟨_, rfl, Int.tmod_nonneg _ (by omega), Int.tmod_lt_of_pos _ (by omega)⟩

/-! ### Trimmed lists -/
theorem tl_last {xs : List Int} : ∀ n, n ≤ xs.length → lastOK (xs.take (tl xs n)) = true := by
  intro n
  induction n with
  | zero => intro _; rfl
  | succ n ih =>
    intro hn
    unfold tl
    split
    · exact ih (by omega)
    · rename_i h
      have hx : xs[n]? = some xs[n] := by simp
      unfold lastOK
      rw [List.getLast?_eq_getElem?]
      have hl : (xs.take (n + 1)).length = n + 1 := by simp; omega
      rw [hl, show n + 1 - 1 = n from rfl, List.getElem?_take, if_pos (by omega), hx]
      rw [hx] at h
      simpa using h
theorem trim_last (xs : List Int) : lastOK (trim xs) = true := tl_last _ (Nat.le_refl _)
theorem tl_zero {xs : List Int} : ∀ n, n ≤ xs.length → ∀ i, tl xs n ≤ i → i < n → coef xs i = 0 := by
  intro n
  induction n with
  | zero => intro _ i _ h; omega
  | succ n ih =>
    intro hn i h1 h2
    unfold tl at h1
    split at h1
    · rename_i h
      by_cases hi : i = n
      · subst hi; exact coef_get h
      · exact ih (by omega) i h1 (by omega)
    · omega
theorem trim_coef (xs : List Int) (i : Nat) : coef (trim xs) i = coef xs i := by
  unfold trim
  by_cases h : i < tl xs xs.length
  · unfold coef; rw [List.getElem?_take, if_pos h]
  · rw [coef_no (by simp; omega)]
    by_cases h2 : i < xs.length
    · rw [tl_zero xs.length (Nat.le_refl _) i (by omega) h2]
    · rw [coef_no (by omega)]
theorem tab_coef (f : Nat → Int) (i : Nat) : coef (tab f) i = if i < 10 then f i else 0 := by
  by_cases h : i < 10
  · rw [if_pos h, coef_get (tab_get h)]
  · rw [if_neg h, coef_no (by rw [tab_len]; omega)]
theorem last_coef {xs : List Int} (h : lastOK xs = true) (h0 : 0 < xs.length) : coef xs (xs.length - 1) ≠ 0 := by
  unfold lastOK at h
  rw [List.getLast?_eq_getElem?] at h
  have hx : xs[xs.length - 1]? = some (xs[xs.length - 1]'(by omega)) := by simp
  rw [hx] at h
  rw [coef_get hx]
  simpa using h
theorem coef_ext {xs ys : List Int} (hx : lastOK xs = true) (hy : lastOK ys = true) (h : ∀ i, coef xs i = coef ys i) : xs = ys := by
  have key : ∀ (xs ys : List Int), lastOK xs = true → (∀ i, coef xs i = coef ys i) → xs.length ≤ ys.length := by
    intro xs ys hx h
    apply Nat.le_of_not_lt
    intro hlt
    have := last_coef hx (by omega)
    rw [h, coef_no (by omega)] at this
    exact this rfl
  have hl : xs.length = ys.length := Nat.le_antisymm (key xs ys hx h) (key ys xs hy (fun i => (h i).symm))
  apply List.ext_getElem hl
  intro i h1 h2
  have := h i
  rw [coef_get (show xs[i]? = some xs[i] by simp), coef_get (show ys[i]? = some ys[i] by simp)] at this
  exact this
theorem coef_ten {t : Term} (h : vT t = true) {i : Nat} (hi : 10 ≤ i) : coef t.Coeffs i = 0 := coef_no (by have := vT_len h; omega)
/-- A term made of a table. -/
def mkT (c : Int) (f : Nat → Int) : Term := Term.mk c (trim (tab f))
theorem mkT_coef (c : Int) (f : Nat → Int) (i : Nat) : coef (mkT c f).Coeffs i = if i < 10 then f i else 0 := by
  unfold mkT; rw [trim_coef, tab_coef]
theorem mkT_valid {c : Int} {f : Nat → Int} (hc : -1000000 ≤ c ∧ c ≤ 1000000) (hf : ∀ i, i < 10 → -1000000 ≤ f i ∧ f i ≤ 1000000) : vT (mkT c f) = true := by
  have h1 : (mkT c f).Coeffs.length ≤ 10 := by have := trim_len (tab f); rw [tab_len] at this; exact this
  have h2 : lastOK (mkT c f).Coeffs = true := trim_last _
  have h3 : (mkT c f).Coeffs.all inR = true := by
    rw [List.all_eq_true]
    intro x hx
    obtain ⟨i, hi⟩ := List.getElem?_of_mem hx
    have := mkT_coef c f i
    rw [coef_get hi] at this
    rw [this]
    have hlt := get_lt hi
    rw [if_pos (by omega)]
    exact inR_iff.2 (hf i (by omega))
  unfold vT
  rw [h2, h3, inR_iff.2 (show -1000000 ≤ (mkT c f).Const ∧ (mkT c f).Const ≤ 1000000 from hc)]
  simp [h1]
theorem mkT_chk {c : Int} {f : Nat → Int} (hc : -1000000 ≤ c ∧ c ≤ 1000000) (hf : ∀ i, i < 10 → -1000000 ≤ f i ∧ f i ≤ 1000000) : chk (Term.mk c (trim (tab f))) = (mkT c f, true) := by
  have := mkT_valid hc hf
  unfold chk
  rw [show Term.mk c (trim (tab f)) = mkT c f from rfl, this]; rfl
theorem mkT_self {t : Term} (h : vT t = true) : mkT t.Const (fun i => coef t.Coeffs i) = t := by
  have : trim (tab fun i => coef t.Coeffs i) = t.Coeffs := coef_ext (trim_last _) (vT_last h) (fun i => by
    rw [trim_coef, tab_coef]
    by_cases hi : i < 10
    · rw [if_pos hi]
    · rw [if_neg hi, coef_ten h (by omega)])
  unfold mkT
  rw [this]
theorem mkT_ext {t : Term} {c : Int} {f : Nat → Int} (h : vT t = true) (hc : c = t.Const) (hf : ∀ i, i < 10 → f i = coef t.Coeffs i) : mkT c f = t := by
  rw [← mkT_self h]
  unfold mkT tab
  subst hc
  congr 2
  apply List.map_congr_left
  intro i hi
  exact hf i (by simpa using hi)
end Go.Mod

/- Drawn terms and values; the opposite's sign. Plain Lean. -/
namespace Go.Mod
open Go.AM
set_option linter.unusedVariables false
set_option linter.unusedSimpArgs false

theorem sumN_congr {f g : Nat → Int} : ∀ n, (∀ i, i < n → f i = g i) → sumN f n = sumN g n := by
  intro n
  induction n with
  | zero => intro _; rfl
  | succ n ih => intro h; unfold sumN; rw [ih (fun i hi => h i (by omega)), h n (by omega)]
theorem sumN_neg (f : Nat → Int) : ∀ n, sumN (fun i => -f i) n = -sumN f n := by
  intro n
  induction n with
  | zero => rfl
  | succ n ih => unfold sumN; rw [ih]; omega
theorem sumN_add (f g : Nat → Int) : ∀ n, sumN (fun i => f i + g i) n = sumN f n + sumN g n := by
  intro n
  induction n with
  | zero => rfl
  | succ n ih => unfold sumN; rw [ih]; omega
theorem sumN_mul (c : Int) (f : Nat → Int) : ∀ n, sumN (fun i => c * f i) n = c * sumN f n := by
  intro n
  induction n with
  | zero => simp [sumN]
  | succ n ih => unfold sumN; rw [ih, Int.mul_add]
theorem sumN_zero : ∀ n, sumN (fun _ => 0) n = 0 := by
  intro n
  induction n with
  | zero => rfl
  | succ n ih => unfold sumN; rw [ih]; rfl
theorem sumN_stop {f : Nat → Int} {n : Nat} (h : ∀ i, n ≤ i → f i = 0) : ∀ m, n ≤ m → sumN f m = sumN f n := by
  intro m
  induction m with
  | zero => intro hm; rw [show n = 0 by omega]
  | succ m ih =>
    intro hm
    by_cases e : n = m + 1
    · rw [e]
    · rw [show sumN f (m + 1) = sumN f m + f m from rfl, ih (by omega), h m (by omega)]; omega

/-- A term's value. -/
def val (t : Term) (v : List Int) : Int := t.Const + sumN (fun i => coef t.Coeffs i * coef v i) 10
def Vals (v : List Int) : Prop := v.length = 10 ∧ ∀ x ∈ v, -6 ≤ x ∧ x ≤ 6
theorem Vals.coef {v : List Int} (h : Vals v) (i : Nat) : -6 ≤ coef v i ∧ coef v i ≤ 6 := by
  unfold Mod.coef
  cases hx : v[i]? with
  | none => simp
  | some x => exact h.2 x (List.mem_of_getElem? hx)
theorem value_ok {t : Term} {v : List Int} (ht : vT t = true) (hv : Vals v) : m_laws_b10Value t v = some (val t v) := by
  have hl := vT_len ht
  have hp : ∀ i, -6000000 ≤ coef t.Coeffs i * coef v i ∧ coef t.Coeffs i * coef v i ≤ 6000000 := by
    intro i
    have h1 := coef_rng ht i
    have h2 := hv.coef i
    have := prod_rng h1.1 h1.2 h2.1 h2.2
    omega
  have hsum := sumN_rng (f := fun i => coef t.Coeffs i * coef v i) (B := 6000000) hp
  have hc := const_rng ht
  have key : ∀ (m n : Nat), n + m = t.Coeffs.length → iter (m_laws_b10Value_L0 t v) (t.Const + sumN (fun i => coef t.Coeffs i * coef v i) n, (n : Int)) = some (val t v) := by
    intro m
    induction m with
    | zero =>
      intro n hn
      obtain rfl : n = t.Coeffs.length := by omega
      refine iter_out ?_
      unfold m_laws_b10Value_L0
      simp only
      rw [dec_self, Bool.false_and, cond_false]
      unfold val
      rw [sumN_stop (n := t.Coeffs.length) (fun i hi => by rw [coef_no hi, Int.zero_mul]) 10 hl]
    | succ m ih =>
      intro n hn
      have hlt : n < t.Coeffs.length := by omega
      have hltv : n < v.length := by rw [hv.1]; omega
      have hx : t.Coeffs[n]? = some t.Coeffs[n] := by simp
      have hy : v[n]? = some v[n] := by simp
      have hs := hsum n
      have hpn := hp n
      rw [iter_next (s' := (t.Const + sumN (fun i => coef t.Coeffs i * coef v i) (n + 1), ((n + 1 : Nat) : Int)))]
      · exact ih (n + 1) (by omega)
      · unfold m_laws_b10Value_L0
        simp only
        rw [dec_lt hlt, dec_lt hltv, Bool.true_and, cond_true, getI_some hx, Option.bind_some, getI_some hy, Option.bind_some, w64_succ (by omega)]
        rw [coef_get hx, coef_get hy] at hpn
        rw [w64_eq (n := t.Coeffs[n] * v[n]) (by omega), w64_eq (by omega), sumN, coef_get hx, coef_get hy, Int.add_assoc]
  unfold m_laws_b10Value
  have := key t.Coeffs.length 0 (by omega)
  rw [show t.Const + sumN (fun i => coef t.Coeffs i * coef v i) 0 = t.Const by simp [sumN]] at this
  rw [show (0 : Int) = ((0 : Nat) : Int) from rfl, this]; rfl

/-! ### Drawn terms, drawn values -/
structure Small (t : Term) : Prop where
  v : vT t = true
  c : -7 ≤ t.Const ∧ t.Const ≤ 7
  f : ∀ i, -4 ≤ coef t.Coeffs i ∧ coef t.Coeffs i ≤ 4
theorem list_coef {xs : List Int} {a b : Int} (h : ∀ x ∈ xs, a ≤ x ∧ x ≤ b) (h0 : a ≤ 0 ∧ 0 ≤ b) (i : Nat) : a ≤ coef xs i ∧ coef xs i ≤ b := by
  unfold coef
  cases hx : xs[i]? with
  | none => simpa using h0
  | some x => exact h x (List.mem_of_getElem? hx)
theorem term_ok {code : List Int} (h1 : ∀ x ∈ code, 0 ≤ x ∧ x ≤ 255) (h2 : code.length ≤ 1048576) : ∃ t, m_spec_B10Term code = some t ∧ Small t := by
  unfold m_spec_B10Term
  obtain ⟨e0, hS0⟩ := from_ok h1 h2
  rw [e0, Option.bind_some]
  obtain ⟨r, s1, e1, g1, g2, hS1⟩ := pick_ok (n := 11) hS0 (by omega) (by omega)
  rw [e1, Option.bind_some]
  simp only
  obtain ⟨u, eu, hu⟩ := iter_inv (step := m_spec_B10Term_L0)
    (fun s => Src (l00Src.mk s.1 s.2.1 s.2.2.1) (1 + s.2.2.2.1.length) ∧ 0 ≤ s.2.2.2.2 ∧ (s.2.2.2.1.length : Int) + s.2.2.2.2 ≤ 10 ∧ ∀ x ∈ s.2.2.2.1, -4 ≤ x ∧ x ≤ 4)
    (fun s => s.2.2.2.2.toNat) (fun u => Src (l00Src.mk u.1 u.2.1 u.2.2.1) 20 ∧ u.2.2.2.length ≤ 10 ∧ ∀ x ∈ u.2.2.2, -4 ≤ x ∧ x ≤ 4)
    (fun ⟨c, a, sd, xs, n⟩ ⟨i1, i2, i3, i4⟩ => by
      simp only at i1 i2 i3 i4
      unfold m_spec_B10Term_L0
      simp only
      by_cases hn : 0 < n
      · left
        obtain ⟨r, s', e, r1, r2, hS⟩ := pick_ok (n := 9) i1 (by omega) (by omega)
        rw [decide_eq_true hn, cond_true, e, Option.bind_some, capI_some (by simp; omega), Option.bind_some, w64_eq (n := r - 4) (by omega), w64_eq (n := n - 1) (by omega)]
        refine ⟨_, rfl, ⟨?_, by simp only; omega, by simp; omega, ?_⟩, by simp only; omega⟩
        · simp only [List.length_append, List.length_cons, List.length_nil]; exact hS.mono (by omega)
        · intro x hx
          simp only [List.mem_append, List.mem_singleton] at hx
          rcases hx with hx | rfl
          · exact i4 x hx
          · omega
      · right
        rw [decide_eq_false hn, cond_false]
        exact ⟨_, rfl, i1.mono (by omega), by simp only; omega, i4⟩)
    (s := (s1.code, s1.at_, s1.seed, [], r)) ⟨hS1, g1, by simp; omega, by simp⟩
  rw [eu, Option.bind_some]
  obtain ⟨q1, q2, q3⟩ := hu
  unfold m_spec_B10Term_A0
  obtain ⟨r2, s2, e2, k1, k2, _⟩ := pick_ok (n := 15) q1 (by omega) (by omega)
  rw [e2, Option.bind_some, spec_make (by omega), Option.bind_some]
  refine ⟨_, rfl, ?_⟩
  simp only
  rw [w64_eq (by omega)]
  unfold chk
  cases hv : vT (Term.mk (r2 - 7) (trim u.2.2.2)) with
  | false => exact ⟨rfl, by simp only [cond_false]; decide, fun i => by rw [show coef (bif false then (Term.mk (r2 - 7) (trim u.2.2.2), true) else (Term.mk 0 [], false)).1.Coeffs i = 0 from rfl]; omega⟩
  | true =>
    refine ⟨hv, ?_, fun i => ?_⟩
    · simp only [cond_true]; omega
    · simp only [cond_true]
      rw [trim_coef]
      exact list_coef q3 (by omega) i
theorem values_ok {code : List Int} (h1 : ∀ x ∈ code, 0 ≤ x ∧ x ≤ 255) (h2 : code.length ≤ 1048576) : ∃ v, m_spec_B10Values code = some v ∧ Vals v := by
  unfold m_spec_B10Values
  obtain ⟨e0, hS0⟩ := from_ok h1 h2
  rw [e0, Option.bind_some]
  simp only
  obtain ⟨u, eu, hu⟩ := iter_inv (step := m_spec_B10Values_L0)
    (fun s => Src (l00Src.mk s.1 s.2.1 s.2.2.1) s.2.2.2.1.length ∧ s.2.2.2.2 = (s.2.2.2.1.length : Int) ∧ s.2.2.2.1.length ≤ 10 ∧ ∀ x ∈ s.2.2.2.1, -6 ≤ x ∧ x ≤ 6)
    (fun s => 10 - s.2.2.2.1.length) Vals
    (fun ⟨c, a, sd, xs, n⟩ ⟨i1, i2, i3, i4⟩ => by
      simp only at i1 i2 i3 i4
      unfold m_spec_B10Values_L0
      simp only
      by_cases hn : n < 10
      · left
        obtain ⟨r, s', e, r1, r2, hS⟩ := pick_ok (n := 13) i1 (by omega) (by omega)
        rw [decide_eq_true hn, cond_true, e, Option.bind_some, capI_some (by simp; omega), Option.bind_some, w64_eq (n := r - 6) (by omega), w64_eq (n := n + 1) (by omega)]
        refine ⟨_, rfl, ⟨?_, by simp; omega, by simp; omega, ?_⟩, by simp; omega⟩
        · simp only [List.length_append, List.length_cons, List.length_nil]; exact hS
        · intro x hx
          simp only [List.mem_append, List.mem_singleton] at hx
          rcases hx with hx | rfl
          · exact i4 x hx
          · omega
      · right
        rw [decide_eq_false hn, cond_false]
        exact ⟨_, rfl, by omega, i4⟩)
    (s := (code, 0, 0, [], 0)) ⟨hS0, rfl, by simp, by simp⟩
  rw [eu, Option.bind_some]
  exact ⟨_, rfl, hu⟩
theorem long_no {a b : List Int} (h1 : a.length ≤ 1048576) (h2 : b.length ≤ 1048576) : m_laws_b10Long a b = some false := by
  unfold m_laws_b10Long
  rw [decide_eq_false (by omega), decide_eq_false (by omega)]; rfl
theorem long_yes {a b : List Int} (h : ¬ (a.length ≤ 1048576 ∧ b.length ≤ 1048576)) : m_laws_b10Long a b = some true := by
  unfold m_laws_b10Long
  by_cases h1 : a.length ≤ 1048576
  · rw [decide_eq_false (show ¬ (1048576 : Int) < (a.length : Int) by omega), decide_eq_true (show (1048576 : Int) < (b.length : Int) by omega)]; rfl
  · rw [decide_eq_true (show (1048576 : Int) < (a.length : Int) by omega)]; rfl

/-! ### The law of the opposite -/
theorem fOpp_ok {t : Term} (h : vT t = true) (hc : -999999 ≤ t.Const ∧ t.Const ≤ 999999) : fOpp t = (mkT (-t.Const - 1) (fun i => -coef t.Coeffs i), true) := by
  unfold fOpp
  rw [h, cond_true]
  exact mkT_chk (by omega) (fun i _ => by have := coef_rng h i; omega)
theorem val_mkT (c : Int) (f : Nat → Int) (v : List Int) : val (mkT c f) v = c + sumN (fun i => f i * coef v i) 10 := by
  unfold val
  rw [sumN_congr (g := fun i => f i * coef v i) 10 (fun i hi => by rw [mkT_coef, if_pos hi])]
  rfl
theorem slices_eq {xs ys : List Int} : m_slices_Equal_int64_int64 xs ys = some (decide (xs = ys)) := by
  unfold m_slices_Equal_int64_int64
  by_cases h : xs.length = ys.length
  · rw [decide_eq_true (by omega), Bool.not_true, cond_false]
    have key : ∀ (as : List Int) (k : Nat), k + as.length = ys.length →
        forL (m_slices_Equal_int64_int64_L0 ys) (fun s0 => (Sum.inl ())) k as () = some (if as = ys.drop k then .inl () else .inr false) := by
      intro as
      induction as with
      | nil => intro k hk; rw [if_pos (by rw [List.drop_eq_nil_of_le (by simp at hk; omega)])]; rfl
      | cons a r ih =>
        intro k hk
        simp only [List.length_cons] at hk
        have hlt : k < ys.length := by omega
        rw [List.drop_eq_getElem_cons hlt]
        unfold forL m_slices_Equal_int64_int64_L0
        rw [getI_some (show ys[k]? = some ys[k] by simp), Option.bind_some]
        by_cases ha : a = ys[k]
        · rw [decide_eq_true ha, Bool.not_true, cond_false]
          have := ih (k + 1) (by omega)
          simp only
          refine Eq.trans this ?_
          congr 1
          by_cases h2 : r = ys.drop (k + 1)
          · rw [if_pos h2, if_pos (by rw [h2, ha])]
          · rw [if_neg h2, if_neg (fun e => h2 (List.cons.inj e).2)]
        · rw [decide_eq_false ha, Bool.not_false, cond_true, if_neg (fun e => ha (List.cons.inj e).1)]
    rw [key xs 0 (by omega), Option.bind_some, List.drop_zero]
    by_cases e : xs = ys
    · rw [if_pos e, decide_eq_true e]; rfl
    · rw [if_neg e, decide_eq_false e]; rfl
  · rw [decide_eq_false (by omega), decide_eq_false (fun e => h (by rw [e]))]; rfl
theorem same_self {t : Term} (h : vT t = true) : m_impl_SameTerm t t = some true := by
  unfold m_impl_SameTerm m_impl_Term_equal
  rw [impl_valid, Option.bind_some, h, cond_true, Option.bind_some, cond_true, slices_eq, decide_eq_true rfl, decide_eq_true rfl]
  rfl
theorem law_Opposite {a b : List Int} (ka : kLa_u8 a) (kb : kLa_u8 b) : m_laws_FnOpposite a b = some true := by
  unfold m_laws_FnOpposite
  by_cases hl : a.length ≤ 1048576 ∧ b.length ≤ 1048576
  · rw [long_no hl.1 hl.2, Option.bind_some, cond_false]
    obtain ⟨t, et, ht⟩ := term_ok ka.2 hl.1
    obtain ⟨v, ev, hv⟩ := values_ok kb.2 hl.2
    have hc := ht.c
    have hm : vT (mkT (-t.Const - 1) (fun i => -coef t.Coeffs i)) = true := mkT_valid (by omega) (fun i _ => by have := ht.f i; omega)
    have e2 : fOpp (mkT (-t.Const - 1) (fun i => -coef t.Coeffs i)) = (t, true) := by
      rw [fOpp_ok hm (by show -999999 ≤ -t.Const - 1 ∧ -t.Const - 1 ≤ 999999; omega)]
      rw [mkT_ext ht.v (by show -(-t.Const - 1) - 1 = t.Const; omega) (fun i hi => by rw [mkT_coef, if_pos hi]; omega)]
    rw [et, Option.bind_some, ev, Option.bind_some, impl_opp, Option.bind_some, fOpp_ok ht.v (by omega)]
    simp only
    rw [impl_opp, Option.bind_some, e2]
    simp only [cond_true]
    rw [same_self ht.v, Option.bind_some, cond_true, value_ok ht.v hv, Option.bind_some, value_ok hm hv, Option.bind_some, val_mkT]
    have e3 : sumN (fun i => -coef t.Coeffs i * coef v i) 10 = -sumN (fun i => coef t.Coeffs i * coef v i) 10 := by
      rw [← sumN_neg]; exact sumN_congr 10 (fun i _ => Int.neg_mul _ _)
    rw [e3]
    unfold val
    generalize sumN (fun i => coef t.Coeffs i * coef v i) 10 = S
    by_cases h0 : 0 ≤ t.Const + S
    · rw [decide_eq_true h0, decide_eq_false (by omega)]; rfl
    · rw [decide_eq_false h0, decide_eq_true (by omega)]; rfl
  · rw [long_yes hl]; rfl
end Go.Mod

/- The law of tightening. Plain Lean. -/
namespace Go.Mod
open Go.AM
set_option linter.unusedVariables false
set_option linter.unusedSimpArgs false

theorem dvd_foldl {k : Nat} : ∀ (xs : List Int) (d : Nat), k ∣ d → (∀ x ∈ xs, k ∣ x.natAbs) → k ∣ xs.foldl (fun d x => Nat.gcd d x.natAbs) d := by
  intro xs
  induction xs with
  | nil => intro d h _; exact h
  | cons x r ih => intro d h hx; exact ih _ (Nat.dvd_gcd h (hx x (by simp))) (fun y hy => hx y (by simp [hy]))
theorem dvd_gcdL {k : Nat} {xs : List Int} (h : ∀ x ∈ xs, k ∣ x.natAbs) : k ∣ gcdL xs := dvd_foldl xs 0 (Nat.dvd_zero k) h
theorem quo_mul {x : Int} {d : Nat} (h : d ∣ x.natAbs) : x.tdiv d * d = x := Int.tdiv_mul_cancel (Int.natAbs_dvd_natAbs.1 (by simpa using h))
theorem gcd_quos {xs : List Int} {d : Nat} (hd : 0 < d) (hg : gcdL xs = d) : gcdL (quos xs d) ≤ 1 := by
  have h1 : gcdL (quos xs d) * d ∣ gcdL xs := dvd_gcdL (fun x hx => by
    have h2 : gcdL (quos xs d) ∣ (x.tdiv d).natAbs := gcdL_dvd (List.mem_map.2 ⟨x, hx, rfl⟩)
    have h3 : d ∣ x.natAbs := by rw [← hg]; exact gcdL_dvd hx
    have h4 := quo_mul h3
    have h5 : x.natAbs = (x.tdiv d).natAbs * d := by
      have := congrArg Int.natAbs h4
      rw [Int.natAbs_mul] at this
      simpa using this.symm
    rw [h5]
    exact Nat.mul_dvd_mul_right h2 d)
  rw [hg] at h1
  have h6 := Nat.le_of_dvd hd h1
  apply Nat.le_of_not_lt
  intro hlt
  have : 2 * d ≤ gcdL (quos xs d) * d := Nat.mul_le_mul_right d hlt
  omega
theorem quos_coef {xs : List Int} {d : Nat} (h : ∀ x ∈ xs, d ∣ x.natAbs) (i : Nat) : coef xs i = (d : Int) * coef (quos xs d) i := by
  unfold coef quos
  rw [List.getElem?_map]
  cases hx : xs[i]? with
  | none => simp
  | some x =>
    have := quo_mul (h x (List.mem_of_getElem? hx))
    simp only [Option.getD_some, Option.map_some]
    rw [Int.mul_comm]; exact this.symm
theorem flo_spec (c : Int) {d : Nat} (hd : 0 < d) : (d : Int) * flo c d ≤ c ∧ c < (d : Int) * flo c d + d := by
  have h1 := Int.mul_tdiv_add_tmod c (d : Int)
  have h2 := Int.tmod_lt_of_pos c (show (0 : Int) < d by omega)
  have h3 : -(d : Int) < c.tmod d := by
    have := Int.tmod_lt_of_pos (-c) (show (0 : Int) < d by omega)
    rw [Int.neg_tmod] at this
    omega
  unfold flo
  split
  · rw [Int.mul_sub, Int.mul_one]; omega
  · omega
theorem sign_flo {c S : Int} {d : Nat} (hd : 0 < d) : (0 ≤ flo c d + S) ↔ (0 ≤ c + (d : Int) * S) := by
  obtain ⟨h1, h2⟩ := flo_spec c hd
  have e : (d : Int) * (flo c d + S) = (d : Int) * flo c d + d * S := Int.mul_add _ _ _
  constructor
  · intro h
    have := Int.mul_nonneg (show (0 : Int) ≤ d by omega) h
    omega
  · intro h
    apply Int.not_lt.1
    intro hlt
    have := Int.mul_le_mul_of_nonneg_left (show flo c d + S ≤ -1 by omega) (show (0 : Int) ≤ d by omega)
    rw [Int.mul_neg, Int.mul_one] at this
    omega
theorem fTight_val {t : Term} {v : List Int} (h : vT t = true) (hd : 2 ≤ gcdL t.Coeffs) : (0 ≤ val (Term.mk (flo t.Const (gcdL t.Coeffs)) (quos t.Coeffs (gcdL t.Coeffs))) v) ↔ (0 ≤ val t v) := by
  unfold val
  simp only
  rw [sign_flo (d := gcdL t.Coeffs) (by omega), ← sumN_mul]
  rw [sumN_congr (f := fun i => (gcdL t.Coeffs : Int) * (coef (quos t.Coeffs (gcdL t.Coeffs)) i * coef v i)) (g := fun i => coef t.Coeffs i * coef v i) 10 (fun i _ => by
    rw [quos_coef (d := gcdL t.Coeffs) (fun x hx => gcdL_dvd hx) i, Int.mul_assoc])]
theorem law_Tightened {a b : List Int} (ka : kLa_u8 a) (kb : kLa_u8 b) : m_laws_FnTightened a b = some true := by
  unfold m_laws_FnTightened
  by_cases hl : a.length ≤ 1048576 ∧ b.length ≤ 1048576
  · rw [long_no hl.1 hl.2, Option.bind_some, cond_false]
    obtain ⟨t, et, ht⟩ := term_ok ka.2 hl.1
    obtain ⟨v, ev, hv⟩ := values_ok kb.2 hl.2
    obtain ⟨r, er, hr0, hr1⟩ := at_ok (i := 0) (n := 4) kb.2 (by omega) (by omega)
    obtain ⟨q, eq, hq0, hq1⟩ := at_ok (i := 1) (n := 7) kb.2 (by omega) (by omega)
    replace er : m_laws_b10At b 0 4 = some r := er
    replace eq : m_laws_b10At b 1 7 = some q := eq
    have hc := ht.c
    obtain ⟨m, hm⟩ := Int.eq_ofNat_of_zero_le (show 0 ≤ 2 + r by omega)
    have hm2 : 2 ≤ m ∧ m ≤ 5 := by omega
    have hp : ∀ x : Int, -7 ≤ x → x ≤ 7 → -35 ≤ (m : Int) * x ∧ (m : Int) * x ≤ 35 := by
      intro x h1 h2
      have := prod_rng (a := (m : Int)) (A := 5) (b := x) (B := 7) (by omega) (by omega) (by omega) (by omega)
      omega
    have hf : ∀ i, -35 ≤ (m : Int) * coef t.Coeffs i ∧ (m : Int) * coef t.Coeffs i ≤ 35 := fun i => by have := ht.f i; exact hp _ (by omega) (by omega)
    have hcm := hp _ hc.1 hc.2
    have es : fScale t (m : Int) = (mkT (m * t.Const) (fun i => m * coef t.Coeffs i), true) := by
      unfold fScale
      rw [ht.v, inR_iff.2 (show -1000000 ≤ (m : Int) ∧ (m : Int) ≤ 1000000 by omega)]
      exact mkT_chk (by omega) (fun i _ => by have := hf i; omega)
    rw [et, Option.bind_some, er, Option.bind_some, w64_eq (n := 2 + r) (by omega), hm, impl_scale, Option.bind_some, es, ev, Option.bind_some]
    simp only [Bool.not_true, cond_false]
    rw [decide_eq_true (show (mkT (m * t.Const) (fun i => m * coef t.Coeffs i)).Const < 999991 by show (m : Int) * t.Const < 999991; omega), cond_true, eq, Option.bind_some]
    rw [show (mkT (m * t.Const) (fun i => m * coef t.Coeffs i)).Const = m * t.Const from rfl, w64_eq (n := q - 3) (by omega), w64_eq (by omega)]
    generalize hj : (m : Int) * t.Const + (q - 3) = j
    have hU : vT (mkT j (fun i => (m : Int) * coef t.Coeffs i)) = true := mkT_valid (by omega) (fun i _ => by have := hf i; omega)
    unfold m_laws_FnTightened_J0
    simp only
    rw [show Term.mk j (mkT (m * t.Const) (fun i => m * coef t.Coeffs i)).Coeffs = mkT j (fun i => (m : Int) * coef t.Coeffs i) from rfl, impl_tight, Option.bind_some]
    have hcU : ∀ i, coef (mkT j (fun i => (m : Int) * coef t.Coeffs i)).Coeffs i = m * coef t.Coeffs i := by
      intro i
      rw [mkT_coef]
      by_cases hi : i < 10
      · rw [if_pos hi]
      · rw [if_neg hi, coef_ten ht.v (by omega), Int.mul_zero]
    generalize hUe : mkT j (fun i => (m : Int) * coef t.Coeffs i) = U at hU hcU
    by_cases h0 : 0 < t.Coeffs.length
    · have hlast := last_coef (vT_last ht.v) h0
      have hUlast : coef U.Coeffs (t.Coeffs.length - 1) ≠ 0 := by
        rw [hcU]
        exact Int.mul_ne_zero (by omega) hlast
      have hin : t.Coeffs.length - 1 < U.Coeffs.length := by
        apply Nat.lt_of_not_le
        intro h
        exact hUlast (coef_no h)
      have hx : U.Coeffs[t.Coeffs.length - 1]? = some U.Coeffs[t.Coeffs.length - 1] := by simp [hin]
      have hmd : m ∣ gcdL U.Coeffs := dvd_gcdL (fun x hx => by
        obtain ⟨i, hi⟩ := List.getElem?_of_mem hx
        have := hcU i
        rw [coef_get hi] at this
        rw [this, Int.natAbs_mul]
        exact ⟨_, rfl⟩)
      have hg0 : gcdL U.Coeffs ≠ 0 := by
        intro h
        have := gcdL_dvd (List.mem_of_getElem? hx)
        rw [h] at this
        have h2 := Nat.eq_zero_of_zero_dvd this
        rw [coef_get hx] at hUlast
        exact hUlast (Int.natAbs_eq_zero.1 h2)
      have hg2 : 2 ≤ gcdL U.Coeffs := by have := Nat.le_of_dvd (by omega) hmd; omega
      have hW := tight_valid hU hg2
      have e1 : fTight U = (Term.mk (flo U.Const (gcdL U.Coeffs)) (quos U.Coeffs (gcdL U.Coeffs)), true) := by
        unfold fTight; rw [hU, decide_eq_true hg2]; rfl
      have e2 : fTight (Term.mk (flo U.Const (gcdL U.Coeffs)) (quos U.Coeffs (gcdL U.Coeffs))) = (Term.mk 0 [], false) := by
        have := gcd_quos (xs := U.Coeffs) (d := gcdL U.Coeffs) (by omega) rfl
        unfold fTight
        rw [decide_eq_false (show ¬ 2 ≤ gcdL (quos U.Coeffs (gcdL U.Coeffs)) by omega), Bool.and_false]; rfl
      rw [e1, decide_eq_true (show (0 : Int) < (t.Coeffs.length : Int) by omega)]
      simp only [bool_beq, Bool.not_true, cond_false]
      rw [impl_tight, Option.bind_some, e2]
      simp only [Bool.not_false, cond_true]
      rw [value_ok hW hv, Option.bind_some, value_ok hU hv, Option.bind_some]
      have := fTight_val (v := v) hU hg2
      by_cases h9 : 0 ≤ val U v
      · rw [decide_eq_true h9, decide_eq_true (this.2 h9)]; rfl
      · rw [decide_eq_false h9, decide_eq_false (fun h => h9 (this.1 h))]; rfl
    · have ht0 : t.Coeffs = [] := List.length_eq_zero_iff.1 (by omega)
      have hU0 : U.Coeffs = [] := coef_ext (vT_last hU) rfl (fun i => by rw [hcU, ht0]; simp [coef])
      have e1 : fTight U = (Term.mk 0 [], false) := by
        unfold fTight; rw [hU0]; simp [gcdL]
      rw [e1, decide_eq_false (show ¬ (0 : Int) < (t.Coeffs.length : Int) by omega)]
      rfl
  · rw [long_yes hl]; rfl
end Go.Mod
