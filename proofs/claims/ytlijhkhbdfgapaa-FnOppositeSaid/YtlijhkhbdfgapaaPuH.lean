/- Tightened terms. Plain Lean. -/
import Derived.Test.YtlijhkhbdfgapaaPuG
namespace Go.Mod
open Go.AM
set_option linter.unusedVariables false
set_option linter.unusedSimpArgs false

theorem euclid {step : Int × Int → Option (Ctl (Int × Int) Int)}
    (h0 : ∀ a : Nat, step ((a : Int), ((0 : Nat) : Int)) = some (.out (a : Int)))
    (hs : ∀ a b : Nat, 0 < b → step ((a : Int), (b : Int)) = some (.next ((b : Int), ((a % b : Nat) : Int)))) : ∀ (n b a : Nat), b < n → iter step ((a : Int), (b : Int)) = some ((Nat.gcd a b : Nat) : Int) := by
  intro n
  induction n with
  | zero => intro b a h; omega
  | succ n ih =>
    intro b a h
    by_cases hb : b = 0
    · subst hb; rw [iter_out (h0 a), Nat.gcd_zero_right]
    · rw [iter_next (hs a b (by omega)), ih (a % b) b (by have := Nat.mod_lt a (Nat.pos_of_ne_zero hb); omega)]
      congr 2
      rw [Nat.gcd_comm a b, Nat.gcd_rec b a, Nat.gcd_comm]
theorem rem_nat {a b : Nat} (hb : 0 < b) : remI (a : Int) (b : Int) = some ((a % b : Nat) : Int) := by
  unfold remI
  rw [decide_eq_false (by omega), cond_false]
  rfl
theorem spec_euclid (a b : Nat) : iter m_spec_l02Divisor_L1 ((a : Int), (b : Int)) = some ((Nat.gcd a b : Nat) : Int) :=
  euclid (fun a => rfl) (fun a b hb => by
    unfold m_spec_l02Divisor_L1
    simp only
    rw [decide_eq_true (by omega), cond_true, rem_nat hb]; rfl) (b + 1) b a (Nat.lt_succ_self _)
theorem impl_euclid (a b : Nat) : iter m_impl_gcd_L1 ((a : Int), (b : Int)) = some ((Nat.gcd a b : Nat) : Int) :=
  euclid (fun a => rfl) (fun a b hb => by
    unfold m_impl_gcd_L1
    simp only
    rw [decide_eq_false (by omega), Bool.not_false, cond_true, rem_nat hb]; rfl) (b + 1) b a (Nat.lt_succ_self _)
def gcdL (xs : List Int) : Nat := xs.foldl (fun d x => Nat.gcd d x.natAbs) 0
theorem foldl_cast (xs : List Int) : ∀ (d : Nat), xs.foldl (fun (d : Int) x => ((Nat.gcd d.toNat x.natAbs : Nat) : Int)) (d : Int) = ((xs.foldl (fun d x => Nat.gcd d x.natAbs) d : Nat) : Int) := by
  induction xs with
  | nil => intro d; rfl
  | cons x r ih => intro d; simp only [List.foldl_cons, Int.toNat_natCast]; exact ih _
theorem impl_gcd {xs : List Int} (h : ∀ x ∈ xs, inR x = true) : m_impl_gcd xs = some ((gcdL xs : Nat) : Int) := by
  unfold m_impl_gcd
  rw [forL_fold (fun (d : Int) x => ((Nat.gcd d.toNat x.natAbs : Nat) : Int)) (fun _ d => 0 ≤ d) xs 0 0 (Int.le_refl 0) (fun n x d hx hd => by
    have hr := inR_iff.1 (h x (List.mem_of_getElem? hx))
    unfold m_impl_gcd_L0 m_impl_absolute
    rw [Option.bind_some, w64_eq (by omega), show max x (0 - x) = ((x.natAbs : Nat) : Int) by omega, show d = ((d.toNat : Nat) : Int) by omega, impl_euclid, Option.bind_some]
    exact ⟨by rw [Int.toNat_natCast]; rfl, by omega⟩), Option.bind_some]
  have := foldl_cast xs 0
  exact congrArg some this
theorem spec_gcd {t : Term} (h : ∀ x ∈ t.Coeffs, inR x = true) (hl : t.Coeffs.length ≤ 1048576) : m_spec_l02Divisor t = some ((gcdL t.Coeffs : Nat) : Int) := by
  have h2 := iter_for (step := m_spec_l02Divisor_L0 t) t.Coeffs (fun n (d : Nat) => ((d : Int), (n : Int))) (fun n x d => some (.next (Nat.gcd d x.natAbs))) (fun d => ((d : Nat) : Int))
    (fun n x d hx => by
      have hr := inR_iff.1 (h x (List.mem_of_getElem? hx))
      unfold m_spec_l02Divisor_L0 m_spec_l00Max
      simp only
      rw [dec_lt (get_lt hx), cond_true, getI_some hx, Option.bind_some, w64_eq (n := 0 - x) (by omega)]
      have e : (bif decide (0 - x < x) then some x else some (0 - x)) = some ((x.natAbs : Nat) : Int) := by
        by_cases h : 0 - x < x
        · rw [decide_eq_true h, cond_true, show ((x.natAbs : Nat) : Int) = x by omega]
        · rw [decide_eq_false h, cond_false, show ((x.natAbs : Nat) : Int) = 0 - x by omega]
      rw [e, Option.bind_some, spec_euclid, Option.bind_some]
      unfold m_spec_l02Divisor_A1
      simp only
      rw [w64_succ (by have := get_lt hx; omega)]; rfl)
    (fun r => by unfold m_spec_l02Divisor_L0; simp only; rw [dec_self]; rfl) 0
  rw [forL_fold (fun (d : Nat) x => Nat.gcd d x.natAbs) (fun _ _ => True) t.Coeffs 0 0 trivial (fun n x d hx _ => ⟨rfl, trivial⟩)] at h2
  unfold m_spec_l02Divisor
  rw [show ((0 : Int), (0 : Int)) = (((0 : Nat) : Int), ((0 : Nat) : Int)) from rfl, h2]
  rfl

theorem foldl_dvd (xs : List Int) : ∀ (d : Nat), (xs.foldl (fun d x => Nat.gcd d x.natAbs) d) ∣ d ∧ ∀ x ∈ xs, (xs.foldl (fun d x => Nat.gcd d x.natAbs) d) ∣ x.natAbs := by
  induction xs with
  | nil => intro d; exact ⟨Nat.dvd_refl d, fun x h => by cases h⟩
  | cons y r ih =>
    intro d
    obtain ⟨h1, h2⟩ := ih (Nat.gcd d y.natAbs)
    simp only [List.foldl_cons]
    refine ⟨Nat.dvd_trans h1 (Nat.gcd_dvd_left _ _), fun x hx => ?_⟩
    rcases List.mem_cons.1 hx with rfl | hx
    · exact Nat.dvd_trans h1 (Nat.gcd_dvd_right _ _)
    · exact h2 x hx
theorem gcdL_dvd {xs : List Int} {x : Int} (h : x ∈ xs) : gcdL xs ∣ x.natAbs := (foldl_dvd xs 0).2 x h

/-! ### Quotients -/
theorem tdiv_rng {x : Int} {d : Nat} (hd : 2 ≤ d) (h : inR x = true) : inR (x.tdiv d) = true ∧ -500000 ≤ x.tdiv d ∧ x.tdiv d ≤ 500000 := by
  have hr := inR_iff.1 h
  have key : ∀ n : Nat, n ≤ 1000000 → n / d ≤ 500000 := by
    intro n hn
    rw [Nat.div_le_iff_le_mul_add_pred (by omega)]
    have : d * 500000 ≥ 2 * 500000 := Nat.mul_le_mul_right _ hd
    omega
  have : -500000 ≤ x.tdiv d ∧ x.tdiv d ≤ 500000 := by
    rcases Int.le_total 0 x with h0 | h0
    · obtain ⟨n, rfl⟩ := Int.eq_ofNat_of_zero_le h0
      have := key n (by omega)
      rw [show ((n : Int).tdiv (d : Int)) = ((n / d : Nat) : Int) from rfl]
      generalize n / d = q at this ⊢
      omega
    · obtain ⟨n, hn⟩ := Int.eq_ofNat_of_zero_le (show 0 ≤ -x by omega)
      have := key n (by omega)
      have e : x.tdiv d = -((n / d : Nat) : Int) := by
        rw [show x = -(n : Int) by omega, Int.neg_tdiv]; rfl
      rw [e]
      generalize n / d = q at this ⊢
      omega
  exact ⟨inR_iff.2 (by omega), this⟩
theorem tdiv_ne {x : Int} {d : Nat} (hd : 0 < d) (hx : x ≠ 0) (h : d ∣ x.natAbs) : x.tdiv d ≠ 0 := by
  obtain ⟨k, hk⟩ := h
  intro h0
  have h1 : (x.tdiv d) * d = x := Int.tdiv_mul_cancel (Int.natAbs_dvd_natAbs.1 (by simpa using ⟨k, hk⟩))
  rw [h0, Int.zero_mul] at h1
  exact hx h1.symm
theorem quo_nat {x : Int} {d : Nat} (hd : 2 ≤ d) (h : inR x = true) : quoI x (d : Int) = some (x.tdiv d) := by
  have := (tdiv_rng hd h).2
  unfold quoI
  rw [decide_eq_false (by omega), cond_false, w64_eq (by omega)]
def quos (xs : List Int) (d : Nat) : List Int := xs.map fun x => x.tdiv d
def flo (c : Int) (d : Nat) : Int := if c.tmod d < 0 then c.tdiv d - 1 else c.tdiv d
theorem flo_rng {c : Int} {d : Nat} (hd : 2 ≤ d) (h : inR c = true) : inR (flo c d) = true := by
  have := (tdiv_rng hd h).2
  unfold flo
  split <;> exact inR_iff.2 (by omega)
theorem trim_id {xs : List Int} (h : lastOK xs = true) : trim xs = xs := by
  unfold trim
  cases hn : xs.length with
  | zero => rw [List.length_eq_zero_iff.1 hn]; rfl
  | succ n =>
    have hl : xs.getLast? = xs[n]? := by rw [List.getLast?_eq_getElem?, hn]; rfl
    have hx : xs[n]? = some xs[n] := by simp
    unfold lastOK at h
    rw [hl, hx] at h
    simp at h
    unfold tl
    rw [if_neg (by rw [hx]; simpa using h), ← hn, List.take_length]
theorem quos_last {xs : List Int} {d : Nat} (hd : 0 < d) (h : lastOK xs = true) (hv : ∀ x ∈ xs, d ∣ x.natAbs) : lastOK (quos xs d) = true := by
  unfold lastOK quos at *
  rw [List.getLast?_map]
  cases hx : xs.getLast? with
  | none => rfl
  | some x =>
    rw [hx] at h
    simp at h
    have := tdiv_ne hd h (hv x (List.mem_of_getLast? hx))
    simpa using this
theorem vT_last {t : Term} (h : vT t = true) : lastOK t.Coeffs = true := by simp [vT] at h; exact h.1.2
theorem tight_valid {t : Term} (h : vT t = true) (hd : 2 ≤ gcdL t.Coeffs) : vT (Term.mk (flo t.Const (gcdL t.Coeffs)) (quos t.Coeffs (gcdL t.Coeffs))) = true := by
  have h1 := vT_len h
  have h2 := quos_last (d := gcdL t.Coeffs) (by omega) (vT_last h) (fun x hx => gcdL_dvd hx)
  have h3 := flo_rng hd (vT_const h)
  have h4 : (quos t.Coeffs (gcdL t.Coeffs)).all inR = true := by
    rw [List.all_eq_true]
    intro y hy
    obtain ⟨x, hx, rfl⟩ := List.mem_map.1 hy
    exact (tdiv_rng hd (vT_coef h x hx)).1
  unfold vT
  rw [h2, h3, h4]
  simp [quos, h1]
def fTight (t : Term) : Term × Bool :=
  bif vT t && decide (2 ≤ gcdL t.Coeffs) then (Term.mk (flo t.Const (gcdL t.Coeffs)) (quos t.Coeffs (gcdL t.Coeffs)), true) else (Term.mk 0 [], false)
theorem spec_quos {t : Term} {d : Nat} (hd : 2 ≤ d) (h : ∀ x ∈ t.Coeffs, inR x = true) (hl : t.Coeffs.length ≤ 1048576) : iter (m_spec_l02Tight_L0 t (d : Int)) ([], 0) = some (quos t.Coeffs d) := by
  have h2 := iter_for (step := m_spec_l02Tight_L0 t (d : Int)) t.Coeffs (fun n (s : List Int) => (s, (n : Int))) (fun n x s => (capI (s.length + 1) 8).bind fun _ => some (.next (s ++ [x.tdiv d]))) (fun s => s)
    (fun n x s hx => by
      unfold m_spec_l02Tight_L0
      simp only
      rw [dec_lt (get_lt hx), cond_true, getI_some hx, Option.bind_some, quo_nat hd (h x (List.mem_of_getElem? hx)), Option.bind_some]
      simp only [List.length_cons, List.length_nil, Nat.zero_add]
      cases capI (s.length + 1) 8 with
      | none => rfl
      | some u => simp only [Option.bind_some]; rw [w64_succ (by have := get_lt hx; omega)]; rfl)
    (fun r => by unfold m_spec_l02Tight_L0; simp only; rw [dec_self]; rfl) []
  rw [forL_fold (fun s x => s ++ [x.tdiv d]) (fun k s => s.length = k) t.Coeffs 0 [] rfl (fun n x s hx hs => by
    have := get_lt hx
    rw [capI_some (by omega), Option.bind_some]
    exact ⟨rfl, by simp [hs]⟩)] at h2
  rw [show (([] : List Int), (0 : Int)) = ([], ((0 : Nat) : Int)) from rfl, h2]
  congr 1
  have : ∀ (xs s : List Int), xs.foldl (fun s x => s ++ [x.tdiv d]) s = s ++ xs.map fun x => x.tdiv d := by
    intro xs
    induction xs with
    | nil => intro s; simp
    | cons x r ih => intro s; simp [ih]
  exact this t.Coeffs []
theorem impl_quos {t : Term} {d : Nat} (hd : 2 ≤ d) (h : ∀ x ∈ t.Coeffs, inR x = true) (hl : t.Coeffs.length ≤ 1048576) : iter (m_impl_Term_tightened_L0 (d : Int) t) (t.Coeffs, 0) = some (quos t.Coeffs d) := by
  have key : ∀ (m n : Nat), n + m = t.Coeffs.length → iter (m_impl_Term_tightened_L0 (d : Int) t) (quos (t.Coeffs.take n) d ++ t.Coeffs.drop n, (n : Int)) = some (quos t.Coeffs d) := by
    intro m
    induction m with
    | zero =>
      intro n hn
      obtain rfl : n = t.Coeffs.length := by omega
      rw [iter_out (t := quos t.Coeffs d)]
      unfold m_impl_Term_tightened_L0
      simp only
      rw [dec_self, cond_false]
      simp
    | succ m ih =>
      intro n hn
      have hlt : n < t.Coeffs.length := by omega
      have hx : t.Coeffs[n]? = some t.Coeffs[n] := by simp
      have hql : (quos (t.Coeffs.take n) d).length = n := by unfold quos; simp; omega
      have hg : (quos (t.Coeffs.take n) d ++ t.Coeffs.drop n)[n]? = some t.Coeffs[n] := by
        rw [List.getElem?_append_right (by omega), hql, Nat.sub_self]; simp
      rw [iter_next (s' := (quos (t.Coeffs.take (n + 1)) d ++ t.Coeffs.drop (n + 1), ((n + 1 : Nat) : Int)))]
      · exact ih (n + 1) (by omega)
      · unfold m_impl_Term_tightened_L0
        simp only
        rw [dec_lt hlt, cond_true, getI_some hg, Option.bind_some, quo_nat hd (h _ (List.mem_of_getElem? hx)), Option.bind_some, w64_succ (by omega), Int.toNat_natCast]
        congr 3
        rw [List.set_append_right _ _ (by omega), hql, Nat.sub_self, List.drop_eq_getElem_cons hlt, List.set_cons_zero, List.take_add_one, hx, Option.toList_some, show ∀ ys, quos (ys ++ [t.Coeffs[n]]) d = quos ys d ++ [t.Coeffs[n].tdiv d] by intro ys; simp [quos], List.append_assoc]
        rfl
  have := key t.Coeffs.length 0 (by omega)
  simpa [quos] using this
theorem spec_tight {t : Term} (hl : cTerm t ≤ 1048576) : m_spec_TightenTerm t = some (fTight t) := by
  unfold m_spec_TightenTerm fTight
  rw [spec_is hl, Option.bind_some]
  cases h1 : vT t with
  | false => rfl
  | true =>
    unfold m_spec_l02Tight
    rw [spec_gcd (vT_coef h1) hl, Option.bind_some]
    by_cases h2 : 2 ≤ gcdL t.Coeffs
    · have hv := tight_valid h1 h2
      rw [decide_eq_false (by omega), cond_false, spec_quos h2 (vT_coef h1) hl, decide_eq_true h2]
      simp only [Bool.not_true, cond_false, Option.bind_some, Bool.true_and, cond_true]
      unfold m_spec_l02Tight_A0 m_spec_l02Tight_J0
      have hr := (tdiv_rng h2 (vT_const h1)).2
      have hm : ∀ c, m_spec_l02Make c (quos t.Coeffs (gcdL t.Coeffs)) = some (chk (Term.mk c (quos t.Coeffs (gcdL t.Coeffs)))) := by
        intro c
        rw [spec_make (by unfold quos; simp; have := vT_len h1; omega), trim_id (vT_last hv)]
      rw [quo_nat h2 (vT_const h1), Option.bind_some, show remI t.Const (gcdL t.Coeffs : Int) = some (t.Const.tmod (gcdL t.Coeffs)) by unfold remI; rw [decide_eq_false (by omega)]; rfl, Option.bind_some, hm, hm, w64_eq (by omega)]
      have e : ∀ c, c = flo t.Const (gcdL t.Coeffs) → (chk (Term.mk c (quos t.Coeffs (gcdL t.Coeffs)))) = (Term.mk (flo t.Const (gcdL t.Coeffs)) (quos t.Coeffs (gcdL t.Coeffs)), true) := by
        rintro c rfl
        unfold chk; rw [hv]; rfl
      by_cases h3 : t.Const.tmod (gcdL t.Coeffs) < 0
      · rw [decide_eq_true h3, cond_true, e _ (by unfold flo; rw [if_pos h3])]; rfl
      · rw [decide_eq_false h3, cond_false, e _ (by unfold flo; rw [if_neg h3])]; rfl
    · rw [decide_eq_true (show ((gcdL t.Coeffs : Nat) : Int) < 2 by omega), decide_eq_false h2]; rfl
theorem impl_tight {t : Term} : m_impl_TightenTerm t = some (fTight t) := by
  unfold m_impl_TightenTerm fTight
  rw [impl_valid, Option.bind_some]
  cases h1 : vT t with
  | false => rfl
  | true =>
    have hl := vT_len h1
    unfold m_impl_Term_tightened
    rw [impl_gcd (vT_coef h1), Option.bind_some]
    by_cases h2 : 2 ≤ gcdL t.Coeffs
    · have hr := (tdiv_rng h2 (vT_const h1)).2
      rw [decide_eq_false (by omega), cond_false, impl_own (by omega), decide_eq_true h2]
      simp only [Bool.not_true, cond_false, Option.bind_some, Bool.true_and, cond_true]
      unfold m_impl_divFloor
      rw [quo_nat h2 (vT_const h1), Option.bind_some, show remI t.Const (gcdL t.Coeffs : Int) = some (t.Const.tmod (gcdL t.Coeffs)) by unfold remI; rw [decide_eq_false (by omega)]; rfl, Option.bind_some, w64_eq (by omega)]
      have e : (bif decide (t.Const.tmod (gcdL t.Coeffs) < 0) then some (t.Const.tdiv (gcdL t.Coeffs) - 1) else some (t.Const.tdiv (gcdL t.Coeffs))) = some (flo t.Const (gcdL t.Coeffs)) := by
        unfold flo
        by_cases h3 : t.Const.tmod (gcdL t.Coeffs) < 0
        · rw [decide_eq_true h3, if_pos h3]; rfl
        · rw [decide_eq_false h3, if_neg h3]; rfl
      rw [e, Option.bind_some, impl_quos h2 (vT_coef h1) (by omega)]; rfl
    · rw [decide_eq_true (show ((gcdL t.Coeffs : Nat) : Int) ≤ 1 by omega), decide_eq_false h2]; rfl
theorem fTight_small (t : Term) : small (fTight t) := by
  unfold fTight small
  cases h : vT t && decide (2 ≤ gcdL t.Coeffs) with
  | false => exact Nat.zero_le _
  | true =>
    simp only [Bool.and_eq_true] at h
    have := vT_len h.1
    simp [cTerm, quos]; omega
theorem law_TightenTerm {p : Term} (kp : k_Term p) : m_laws_FnExactTightenTerm p = some true := by
  unfold m_laws_FnExactTightenTerm
  rw [show (1048576 : Int) = ((1048576 : Nat) : Int) from rfl, sz_Term kp.2.1 _ (Nat.le_refl _), Option.bind_some]
  by_cases h1 : cTerm p ≤ 1048576
  · have hs := fTight_small p
    unfold small at hs
    obtain ⟨r1, a1, b1⟩ := mkh_Term (t := p) (k := 1) (by omega)
    obtain ⟨r3, a3, b3⟩ := mkh_Term (t := (fTight p).1) (k := 1) (by omega)
    replace a1 : m_laws_markTerm p 1 = _ := a1
    replace a3 : m_laws_markTerm (fTight p).1 1 = _ := a3
    replace b3 : m_laws_heldTerm (Term.mk (fTight p).1.Const r3) 1 = _ := b3
    simp only [szOut_ok h1, dec_neg, cond_false, Option.bind_some, to_Term h1, spec_tight h1, impl_tight, eq_Term hs, eq_Term h1, decide_true, bool_beq, Bool.not_true, Bool.or_false, a1, a3, b3]
  · rw [szOut_no h1]; rfl
end Go.Mod
