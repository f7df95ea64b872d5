/- Terms: what is valid, what is trimmed, sums. Plain Lean. -/
import Derived.Test.YtlijhkhbdfgapaaPuA
namespace Go.Mod
open Go.AM
set_option linter.unusedVariables false

def inR (c : Int) : Bool := decide (-1000000 ≤ c) && decide (c ≤ 1000000)
theorem inR_iff {c : Int} : inR c = true ↔ -1000000 ≤ c ∧ c ≤ 1000000 := by simp [inR]
def lastOK (xs : List Int) : Bool := match xs.getLast? with | none => true | some x => !decide (x = 0)
def vT (t : Term) : Bool := inR t.Const && decide (t.Coeffs.length ≤ 10) && lastOK t.Coeffs && t.Coeffs.all inR
theorem vT_len {t : Term} (h : vT t = true) : t.Coeffs.length ≤ 10 := by simp [vT] at h; omega
theorem vT_const {t : Term} (h : vT t = true) : inR t.Const = true := by simp [vT] at h; exact h.1.1.1
theorem vT_coef {t : Term} (h : vT t = true) : ∀ x ∈ t.Coeffs, inR x = true := by simp [vT] at h; exact h.2

theorem getI_last {xs : List Int} (h0 : 0 < xs.length) (hl : xs.length ≤ 9223372036854775807) : getI xs (w64 ((xs.length : Int) - 1)) = xs.getLast? := by
  rw [w64_pred h0 hl, getI_nat, List.getLast?_eq_getElem?]

theorem spec_number (c : Int) : m_spec_l02Number c = some (inR c) := rfl
theorem spec_is_loop {t : Term} (hl : t.Coeffs.length ≤ 1048576) : iter (m_spec_l02Is_L0 t) 0 = some (bif t.Coeffs.all inR then .inl () else .inr false) := by
  have h := iter_for (step := m_spec_l02Is_L0 t) t.Coeffs (fun n (_ : Unit) => (n : Int)) (fun _ x _ => bif inR x then some (.next ()) else some (.out (.inr false))) (fun _ => .inl ())
    (fun n x r hx => by
      unfold m_spec_l02Is_L0
      rw [dec_lt (get_lt hx), cond_true, getI_some hx, Option.bind_some, spec_number, Option.bind_some]
      have hw : w64 ((n : Int) + 1) = ((n + 1 : Nat) : Int) := w64_succ (by have := get_lt hx; omega)
      cases inR x
      · rfl
      · rw [hw]; rfl)
    (fun r => by unfold m_spec_l02Is_L0; rw [dec_self]; rfl) ()
  rw [forL_all inR _ _ (fun n x _ => rfl)] at h
  exact h
theorem spec_is {t : Term} (hl : cTerm t ≤ 1048576) : m_spec_l02Is t = some (vT t) := by
  unfold cTerm at hl
  have hJ : m_spec_l02Is_J0 t () = some (t.Coeffs.all inR) := by
    unfold m_spec_l02Is_J0
    rw [spec_is_loop hl, Option.bind_some]
    cases t.Coeffs.all inR <;> rfl
  unfold m_spec_l02Is
  rw [spec_number, Option.bind_some]
  unfold vT
  cases h1 : inR t.Const with
  | false => rfl
  | true =>
    by_cases h2 : t.Coeffs.length ≤ 10
    · rw [decide_eq_true h2, decide_eq_false (show ¬ (10 : Int) < (t.Coeffs.length : Int) by omega)]
      simp only [Bool.not_true, Bool.false_or, cond_false, Bool.true_and]
      by_cases h3 : 0 < t.Coeffs.length
      · rw [decide_eq_true (show (0 : Int) < (t.Coeffs.length : Int) by omega), cond_true, getI_last h3 (by omega)]
        unfold lastOK
        cases h4 : t.Coeffs.getLast? with
        | none => rw [List.getLast?_eq_none_iff] at h4; rw [h4] at h3; exact absurd h3 (by simp)
        | some x =>
          simp only [Option.bind_some]
          by_cases h5 : x = 0
          · rw [decide_eq_true h5]; rfl
          · rw [decide_eq_false h5, cond_false, hJ]; rfl
      · rw [decide_eq_false (show ¬ (0 : Int) < (t.Coeffs.length : Int) by omega), cond_false, hJ]
        have : t.Coeffs = [] := List.length_eq_zero_iff.1 (by omega)
        rw [this]; rfl
    · rw [decide_eq_false h2, decide_eq_true (show (10 : Int) < (t.Coeffs.length : Int) by omega)]; rfl

theorem impl_all {xs : List Int} {a b : Int} : m_impl_allWithin xs a b = some (xs.all fun x => decide (a ≤ x) && decide (x ≤ b)) := by
  unfold m_impl_allWithin
  rw [forL_all (fun x => decide (a ≤ x) && decide (x ≤ b)) (f := .inr false) xs 0 (fun n x _ => by
    unfold m_impl_allWithin_L0 m_impl_within
    rw [Option.bind_some]
    cases (decide (a ≤ x) && decide (x ≤ b)) <;> rfl), Option.bind_some]
  cases xs.all fun x => decide (a ≤ x) && decide (x ≤ b) <;> rfl
theorem impl_valid (t : Term) : m_impl_ValidTerm t = some (vT t) := by
  unfold m_impl_ValidTerm vT
  by_cases h2 : t.Coeffs.length ≤ 10
  · rw [decide_eq_true h2, decide_eq_true (show (t.Coeffs.length : Int) ≤ (10 : Int) by omega), cond_true]
    rw [show m_impl_isCoeff t.Const = some (inR t.Const) from rfl, Option.bind_some]
    cases h1 : inR t.Const with
    | false => rfl
    | true =>
      rw [cond_true, impl_all, Option.bind_some]
      change (bif t.Coeffs.all inR then _ else _) = _
      cases h3 : t.Coeffs.all inR with
      | false => simp
      | true =>
        rw [cond_true]
        by_cases h4 : t.Coeffs.length = 0
        · rw [decide_eq_true (by omega), cond_true]
          rw [List.length_eq_zero_iff.1 h4]; rfl
        · rw [decide_eq_false (by omega), cond_false, getI_last (by omega) (by omega)]
          unfold lastOK
          cases h5 : t.Coeffs.getLast? with
          | none => rw [List.getLast?_eq_none_iff] at h5; rw [h5] at h4; exact absurd rfl h4
          | some x => simp
  · rw [decide_eq_false h2, decide_eq_false (show ¬ (t.Coeffs.length : Int) ≤ (10 : Int) by omega)]; simp

/-! ### Trimming -/
def tl (xs : List Int) : Nat → Nat
  | 0 => 0
  | n + 1 => if xs[n]? = some 0 then tl xs n else n + 1
theorem tl_le (xs : List Int) : ∀ n, tl xs n ≤ n := by
  intro n
  induction n with
  | zero => exact Nat.le_refl _
  | succ n ih => unfold tl; split <;> omega
def trim (xs : List Int) : List Int := xs.take (tl xs xs.length)
theorem trim_len (xs : List Int) : (trim xs).length ≤ xs.length := by unfold trim; simp; omega
theorem tl_iter {xs : List Int} {step : Int → Option (Ctl Int Int)}
    (hs : ∀ n : Int, step n = bif decide ((0 : Int) < n) then (getI xs (w64 (n - 1))).bind fun x => bif decide (x = 0) then some (.next (w64 (n - 1))) else some (.out n) else some (.out n))
    (hl : xs.length ≤ 1048576) : ∀ n : Nat, n ≤ xs.length → iter step (n : Int) = some ((tl xs n : Nat) : Int) := by
  intro n
  induction n with
  | zero => intro _; exact iter_out (by rw [hs]; rfl)
  | succ n ih =>
    intro hn
    have h := hs ((n + 1 : Nat) : Int)
    have hx : xs[n]? = some xs[n] := by simp
    rw [decide_eq_true (by omega), cond_true, w64_pred (by omega) (by omega), show n + 1 - 1 = n from rfl, getI_some hx, Option.bind_some] at h
    unfold tl
    by_cases h0 : xs[n] = 0
    · rw [decide_eq_true h0, cond_true] at h
      rw [iter_next h, ih (by omega), if_pos (by rw [hx, h0])]
    · rw [decide_eq_false h0, cond_false] at h
      rw [iter_out h, if_neg (by rw [hx]; simpa using h0)]
theorem slice_trim (xs : List Int) : sliceI xs 0 ((tl xs xs.length : Nat) : Int) = some (trim xs) := by
  rw [show (0 : Int) = ((0 : Nat) : Int) from rfl, sliceI_some (by omega) (tl_le _ _)]; rfl

def chk (t : Term) : Term × Bool := bif vT t then (t, true) else (Term.mk 0 [], false)
theorem spec_own {xs : List Int} (h : xs.length ≤ 1048576) : m_spec_l00Own xs = some xs := by
  unfold m_spec_l00Own; rw [capI_some (by simp; omega)]; simp
theorem spec_make {c : Int} {xs : List Int} (hl : xs.length ≤ 1048576) : m_spec_l02Make c xs = some (chk (Term.mk c (trim xs))) := by
  unfold m_spec_l02Make m_spec_l02Make_A0
  have h2 := trim_len xs
  rw [tl_iter (step := m_spec_l02Make_L0 xs) (fun n => rfl) hl _ (Nat.le_refl _), Option.bind_some, slice_trim, Option.bind_some, spec_own (by omega), Option.bind_some, spec_is (by unfold cTerm; simp only; omega), Option.bind_some]
  unfold chk
  cases vT (Term.mk c (trim xs)) <;> rfl
theorem impl_copy {xs : List Int} (h : xs.length ≤ 1048576) : m_impl_copyInts xs = some xs := by
  unfold m_impl_copyInts; rw [capI_some (by simp; omega)]; simp
theorem impl_own {t : Term} (h : t.Coeffs.length ≤ 1048576) : m_impl_Term_own t = some t := by
  unfold m_impl_Term_own; rw [impl_copy h]; rfl
theorem impl_trimmed {t : Term} (hl : t.Coeffs.length ≤ 1048576) : m_impl_Term_trimmed t = some (Term.mk t.Const (trim t.Coeffs)) := by
  unfold m_impl_Term_trimmed m_impl_Term_trimmed_A0
  rw [tl_iter (step := m_impl_Term_trimmed_L0 t) (fun n => rfl) hl _ (Nat.le_refl _), Option.bind_some, slice_trim, Option.bind_some]
theorem impl_checked (t : Term) : m_impl_Term_checked t = some (chk t) := by
  unfold m_impl_Term_checked chk
  rw [impl_valid, Option.bind_some]
  cases h : vT t with
  | false => rfl
  | true => rw [impl_own (by have := vT_len h; omega)]; rfl

/-! ### Tables of ten -/
def tab (f : Nat → Int) : List Int := (List.range 10).map f
theorem tab_len (f : Nat → Int) : (tab f).length = 10 := rfl
theorem tab_get {f : Nat → Int} {n : Nat} (h : n < 10) : (tab f)[n]? = some (f n) := by simp [tab, h]
theorem tab_set {f : Nat → Int} {n : Nat} {v : Int} (h : n < 10) : (tab f).set n v = tab fun i => if i = n then v else f i := by
  unfold tab
  apply List.ext_getElem?
  intro i
  rw [List.getElem?_set]
  by_cases hi : n = i
  · subst hi; simp [h]
  · rw [if_neg hi]
    have hi' : i ≠ n := Ne.symm hi
    by_cases h10 : i < 10
    · simp [h10, hi']
    · simp [h10]
theorem tab_zero : List.replicate 10 (0 : Int) = tab fun _ => 0 := rfl
def coef (xs : List Int) (i : Nat) : Int := xs[i]?.getD 0
theorem coef_get {xs : List Int} {i : Nat} {x : Int} (h : xs[i]? = some x) : coef xs i = x := by simp [coef, h]
theorem coef_no {xs : List Int} {i : Nat} (h : xs.length ≤ i) : coef xs i = 0 := by simp [coef, h]
theorem coef_rng {t : Term} (h : vT t = true) (i : Nat) : -1000000 ≤ coef t.Coeffs i ∧ coef t.Coeffs i ≤ 1000000 := by
  unfold coef
  cases hx : t.Coeffs[i]? with
  | none => simp
  | some x => exact inR_iff.1 (vT_coef h x (List.mem_of_getElem? hx))
theorem const_rng {t : Term} (h : vT t = true) : -1000000 ≤ t.Const ∧ t.Const ≤ 1000000 := inR_iff.1 (vT_const h)
theorem prod_rng {a b A B : Int} (h1 : -A ≤ a) (h2 : a ≤ A) (h3 : -B ≤ b) (h4 : b ≤ B) : -(A * B) ≤ a * b ∧ a * b ≤ A * B := by
  have hA : 0 ≤ A := by omega
  have hB : 0 ≤ B := by omega
  have p1 : 0 ≤ (A - a) * (B - b) := Int.mul_nonneg (by omega) (by omega)
  have p2 : 0 ≤ (A + a) * (B + b) := Int.mul_nonneg (by omega) (by omega)
  have p3 : 0 ≤ (A - a) * (B + b) := Int.mul_nonneg (by omega) (by omega)
  have p4 : 0 ≤ (A + a) * (B - b) := Int.mul_nonneg (by omega) (by omega)
  simp only [Int.sub_mul, Int.add_mul, Int.mul_sub, Int.mul_add] at p1 p2 p3 p4
  omega
theorem spec_coeff {t : Term} {i : Nat} (hl : i < 10) : m_spec_l02Coeff t (i : Int) = some (coef t.Coeffs i) := by
  unfold m_spec_l02Coeff
  by_cases h : i < t.Coeffs.length
  · have hx : t.Coeffs[i]? = some t.Coeffs[i] := by simp [h]
    rw [dec_lt h, cond_true, getI_some hx, coef_get hx]; rfl
  · rw [dec_not_lt h, cond_false, coef_no (by omega)]
end Go.Mod
