import Derived.Test.YtpphpgkimfejpaaGd
import Derived.Test.YtpphpgkimfejpaaGe
/- My laws of terms, those that hold over this seat. Plain Lean. -/
namespace Go.Mod
open Go.AM
set_option linter.unusedVariables false
set_option linter.unusedSimpArgs false

theorem sz_ints {xs : List Int} (hl : xs.length ≤ 9223372036854775807) : SzP m_laws_szInt64S List.length xs := fun _ hb => sz_flat hl hb
theorem to_ints {xs : List Int} (hl : xs.length ≤ 1048576) : m_laws_toInt64S xs = some xs := by
  unfold m_laws_toInt64S
  rw [makeI_some (by omega), Option.bind_some, iter_to (xs := xs) (z := 0) (cp := some)
    (fun n x ys hx => by unfold m_laws_toInt64S_L0; rw [dec_lt (get_lt hx), cond_true, getI_some hx]; rfl)
    (fun ys => by unfold m_laws_toInt64S_L0; rw [dec_self]; rfl) hl (fun _ _ => rfl)]
  rfl
theorem eq_ints {xs ys : List Int} (hl : xs.length ≤ 9223372036854775807) : m_laws_eqInt64S xs ys = some (decide (xs = ys)) := by
  unfold m_laws_eqInt64S
  by_cases h : xs.length = ys.length
  · rw [decide_eq_true (by omega), Bool.not_true, cond_false, iter_eq (xs := xs) (ys := ys) (eq := fun x y => some (decide (x = y)))
      (fun n x y hx hy => by unfold m_laws_eqInt64S_L0; rw [dec_lt (get_lt hx), cond_true, getI_some hx, getI_some hy]; rfl)
      (by unfold m_laws_eqInt64S_L0; rw [dec_self]; rfl) hl h (fun _ _ _ => rfl)]
    by_cases e : xs = ys
    · rw [if_pos e, decide_eq_true e]; rfl
    · rw [if_neg e, decide_eq_false e]; rfl
  · rw [decide_eq_false (by omega), decide_eq_false (fun e => h (by rw [e]))]; rfl
theorem sum_one {α : Type} (xs : List α) : (xs.map fun _ => 1).sum = xs.length := by
  induction xs with
  | nil => rfl
  | cons x r ih => simp only [List.map_cons, List.sum_cons, List.length_cons, ih]; omega
def heldI (x k : Int) : Option Int := some (bif !decide (x = k) then -1 else w64 (k + 1))
def markI (_x k : Int) : Option (Int × Int) := some (w64 (k + 1), k)
theorem mk_I (x : Int) : MkP markI heldI (fun _ => 1) x := fun k hk => by
  have h : w64 ((k : Int) + 1) = ((k + 1 : Nat) : Int) := w64_succ (by omega)
  refine ⟨k, ?_, ?_⟩
  · unfold markI; rw [h]
  · unfold heldI; rw [decide_eq_true (rfl : (k : Int) = k), Bool.not_true, cond_false, h]
theorem mk_ints {xs : List Int} (hl : xs.length ≤ 1048576) {k : Nat} (hk : k ≤ 1125899906842624) :
    ∃ xs', m_laws_markInt64S xs k = some (((k + xs.length : Nat) : Int), xs') ∧ m_laws_heldInt64S xs' k = some ((k + xs.length : Nat) : Int) := by
  obtain ⟨xs', h1, h2, h3⟩ := iter_mark (xs := xs) (m := fun _ => 1) (mk := markI) (held := heldI)
    (step := m_laws_markInt64S_L0) (hstep := m_laws_heldInt64S_L0)
    (fun n ys x k hk hx => by unfold m_laws_markInt64S_L0; rw [dec_lt (get_lt hx), cond_true, getI_some hx]; rfl)
    (fun ys k => by unfold m_laws_markInt64S_L0; rw [dec_self]; rfl)
    (fun n ys x k hk hx => by
      unfold m_laws_heldInt64S_L0 heldI; rw [dec_lt (get_lt hx), cond_true, getI_some hx, Option.bind_some, Option.bind_some]
      have h2 : w64 ((k : Int) + 1) = ((k + 1 : Nat) : Int) := w64_succ (by omega)
      by_cases h : x = k
      · rw [decide_eq_true h, Bool.not_true, cond_false, cond_false, h2, decide_eq_false (by omega), cond_false]
      · rw [decide_eq_false h, Bool.not_false, cond_true, cond_true, decide_eq_true (by decide), cond_true])
    (fun ys k => by unfold m_laws_heldInt64S_L0; rw [dec_self]; rfl)
    (by omega) (fun x _ => mk_I x) (k := k) (by rw [sum_one]; omega)
  rw [sum_one] at h1 h3
  exact ⟨xs', by unfold m_laws_markInt64S; rw [h1]; rfl, by unfold m_laws_heldInt64S; rw [h3]; rfl⟩
def cTerm (t : Term) : Nat := t.Coeffs.length
theorem sz_Term {t : Term} (hl : t.Coeffs.length ≤ 9223372036854775807) : SzP m_laws_szTerm cTerm t := fun b hb => by
  unfold m_laws_szTerm
  rw [sz_ints hl b hb, Option.bind_some]
  by_cases h : t.Coeffs.length ≤ b
  · rw [show szOut (cTerm t) b = _ from szOut_ok h, szOut_ok h, decide_eq_false (by omega)]; rfl
  · rw [show szOut (cTerm t) b = _ from szOut_no h, szOut_no h]; rfl
theorem to_Term {t : Term} (hl : cTerm t ≤ 1048576) : m_laws_toTerm t = some t := by
  unfold m_laws_toTerm; rw [to_ints hl]; rfl
theorem eq_Term {x y : Term} (hl : cTerm x ≤ 1048576) : m_laws_eqTerm x y = some (decide (x = y)) := by
  unfold m_laws_eqTerm
  unfold cTerm at hl
  rw [eq_ints (by omega), Option.bind_some]
  obtain ⟨a, as⟩ := x
  obtain ⟨b, bs⟩ := y
  by_cases h1 : a = b <;> by_cases h2 : as = bs <;> simp [h1, h2]
theorem mk_Term {t : Term} (hl : cTerm t ≤ 1048576) {k : Nat} (hk : k ≤ 1125899906842624) :
    ∃ r, m_laws_markTerm t k = some (((k + cTerm t : Nat) : Int), r) ∧ m_laws_heldTerm (Term.mk t.Const r) k = some ((k + cTerm t : Nat) : Int) := by
  obtain ⟨r, h1, h2⟩ := mk_ints hl hk
  refine ⟨r, ?_, ?_⟩
  · unfold m_laws_markTerm; rw [h1]; rfl
  · unfold m_laws_heldTerm; rw [h2, Option.bind_some, decide_eq_false (by omega)]; rfl
def inR (c : Int) : Bool := decide (-1000000 ≤ c) && decide (c ≤ 1000000)
theorem inR_iff {c : Int} : inR c = true ↔ -1000000 ≤ c ∧ c ≤ 1000000 := by simp [inR]
def lastOK (xs : List Int) : Bool := match xs.getLast? with | none => true | some x => !decide (x = 0)
def vT (t : Term) : Bool := inR t.Const && decide (t.Coeffs.length ≤ 10) && lastOK t.Coeffs && t.Coeffs.all inR
theorem vT_len {t : Term} (h : vT t = true) : t.Coeffs.length ≤ 10 := by simp [vT] at h; omega
theorem vT_const {t : Term} (h : vT t = true) : inR t.Const = true := by simp [vT] at h; exact h.1.1.1
theorem vT_coef {t : Term} (h : vT t = true) : ∀ x ∈ t.Coeffs, inR x = true := by simp [vT] at h; exact h.2
theorem getI_last {xs : List Int} (h0 : 0 < xs.length) (hl : xs.length ≤ 9223372036854775807) : getI xs (w64 ((xs.length : Int) - 1)) = xs.getLast? := by
  rw [w64_pred h0 hl, getI_nat, List.getLast?_eq_getElem?]
theorem spec_number (c : Int) : m_spec_l02Number c = some (inR c) := rfl
theorem spec_is_loop {t : Term} (hl : t.Coeffs.length ≤ 1048576) : iter (m_spec_l02Is_L0 t) 0 = some (bif t.Coeffs.all inR then .inl () else .inr false) := by
  have h := iter_for (step := m_spec_l02Is_L0 t) t.Coeffs (fun n (_ : Unit) => (n : Int)) (fun _ x _ => bif inR x then some (.next ()) else some (.out (.inr false))) (fun _ => .inl ())
    (fun n x r hx => by
      unfold m_spec_l02Is_L0
      rw [dec_lt (get_lt hx), cond_true, getI_some hx, Option.bind_some, spec_number, Option.bind_some]
      have hw : w64 ((n : Int) + 1) = ((n + 1 : Nat) : Int) := w64_succ (by have := get_lt hx; omega)
      cases inR x
      · rfl
      · rw [hw]; rfl)
    (fun r => by unfold m_spec_l02Is_L0; rw [dec_self]; rfl) ()
  rw [forL_all inR _ _ (fun n x _ => rfl)] at h
  exact h
theorem spec_is {t : Term} (hl : cTerm t ≤ 1048576) : m_spec_l02Is t = some (vT t) := by
  unfold cTerm at hl
  have hJ : m_spec_l02Is_J0 t () = some (t.Coeffs.all inR) := by
    unfold m_spec_l02Is_J0
    rw [spec_is_loop hl, Option.bind_some]
    cases t.Coeffs.all inR <;> rfl
  unfold m_spec_l02Is
  rw [spec_number, Option.bind_some]
  unfold vT
  cases h1 : inR t.Const with
  | false => rfl
  | true =>
    by_cases h2 : t.Coeffs.length ≤ 10
    · rw [decide_eq_true h2, decide_eq_false (show ¬ (10 : Int) < (t.Coeffs.length : Int) by omega)]
      simp only [Bool.not_true, Bool.false_or, cond_false, Bool.true_and]
      by_cases h3 : 0 < t.Coeffs.length
      · rw [decide_eq_true (show (0 : Int) < (t.Coeffs.length : Int) by omega), cond_true, getI_last h3 (by omega)]
        unfold lastOK
        cases h4 : t.Coeffs.getLast? with
        | none => rw [List.getLast?_eq_none_iff] at h4; rw [h4] at h3; exact absurd h3 (by simp)
        | some x =>
          simp only [Option.bind_some]
          by_cases h5 : x = 0
          · rw [decide_eq_true h5]; rfl
          · rw [decide_eq_false h5, cond_false, hJ]; rfl
      · rw [decide_eq_false (show ¬ (0 : Int) < (t.Coeffs.length : Int) by omega), cond_false, hJ]
        have : t.Coeffs = [] := List.length_eq_zero_iff.1 (by omega)
        rw [this]; rfl
    · rw [decide_eq_false h2, decide_eq_true (show (10 : Int) < (t.Coeffs.length : Int) by omega)]; rfl
theorem impl_all {xs : List Int} {a b : Int} : m_impl_allWithin xs a b = some (xs.all fun x => decide (a ≤ x) && decide (x ≤ b)) := by
  unfold m_impl_allWithin
  rw [forL_all (fun x => decide (a ≤ x) && decide (x ≤ b)) (f := .inr false) xs 0 (fun n x _ => by
    unfold m_impl_allWithin_L0 m_impl_within
    rw [Option.bind_some]
    cases (decide (a ≤ x) && decide (x ≤ b)) <;> rfl), Option.bind_some]
  cases xs.all fun x => decide (a ≤ x) && decide (x ≤ b) <;> rfl
theorem impl_valid (t : Term) : m_impl_ValidTerm t = some (vT t) := by
  unfold m_impl_ValidTerm vT
  by_cases h2 : t.Coeffs.length ≤ 10
  · rw [decide_eq_true h2, decide_eq_true (show (t.Coeffs.length : Int) ≤ (10 : Int) by omega), cond_true]
    rw [show m_impl_isCoeff t.Const = some (inR t.Const) from rfl, Option.bind_some]
    cases h1 : inR t.Const with
    | false => rfl
    | true =>
      rw [cond_true, impl_all, Option.bind_some]
      change (bif t.Coeffs.all inR then _ else _) = _
      cases h3 : t.Coeffs.all inR with
      | false => simp
      | true =>
        rw [cond_true]
        by_cases h4 : t.Coeffs.length = 0
        · rw [decide_eq_true (by omega), cond_true]
          rw [List.length_eq_zero_iff.1 h4]; rfl
        · rw [decide_eq_false (by omega), cond_false, getI_last (by omega) (by omega)]
          unfold lastOK
          cases h5 : t.Coeffs.getLast? with
          | none => rw [List.getLast?_eq_none_iff] at h5; rw [h5] at h4; exact absurd rfl h4
          | some x => simp
  · rw [decide_eq_false h2, decide_eq_false (show ¬ (t.Coeffs.length : Int) ≤ (10 : Int) by omega)]; simp
def tl (xs : List Int) : Nat → Nat
  | 0 => 0
  | n + 1 => if xs[n]? = some 0 then tl xs n else n + 1
theorem tl_le (xs : List Int) : ∀ n, tl xs n ≤ n := by
  intro n
  induction n with
  | zero => exact Nat.le_refl _
  | succ n ih => unfold tl; split <;> omega
def trim (xs : List Int) : List Int := xs.take (tl xs xs.length)
theorem trim_len (xs : List Int) : (trim xs).length ≤ xs.length := by unfold trim; simp; omega
theorem tl_iter {xs : List Int} {step : Int → Option (Ctl Int Int)}
    (hs : ∀ n : Int, step n = bif decide ((0 : Int) < n) then (getI xs (w64 (n - 1))).bind fun x => bif decide (x = 0) then some (.next (w64 (n - 1))) else some (.out n) else some (.out n))
    (hl : xs.length ≤ 1048576) : ∀ n : Nat, n ≤ xs.length → iter step (n : Int) = some ((tl xs n : Nat) : Int) := by
  intro n
  induction n with
  | zero => intro _; exact iter_out (by rw [hs]; rfl)
  | succ n ih =>
    intro hn
    have h := hs ((n + 1 : Nat) : Int)
    have hx : xs[n]? = some xs[n] := by simp
    rw [decide_eq_true (by omega), cond_true, w64_pred (by omega) (by omega), show n + 1 - 1 = n from rfl, getI_some hx, Option.bind_some] at h
    unfold tl
    by_cases h0 : xs[n] = 0
    · rw [decide_eq_true h0, cond_true] at h
      rw [iter_next h, ih (by omega), if_pos (by rw [hx, h0])]
    · rw [decide_eq_false h0, cond_false] at h
      rw [iter_out h, if_neg (by rw [hx]; simpa using h0)]
theorem slice_trim (xs : List Int) : sliceI xs 0 ((tl xs xs.length : Nat) : Int) = some (trim xs) := by
  rw [show (0 : Int) = ((0 : Nat) : Int) from rfl, sliceI_some (by omega) (tl_le _ _)]; rfl
def chk (t : Term) : Term × Bool := bif vT t then (t, true) else (Term.mk 0 [], false)
theorem spec_own {xs : List Int} (h : xs.length ≤ 1048576) : m_spec_l00Own xs = some xs := by
  unfold m_spec_l00Own; rw [capI_some (by simp; omega)]; simp
theorem spec_make {c : Int} {xs : List Int} (hl : xs.length ≤ 1048576) : m_spec_l02Make c xs = some (chk (Term.mk c (trim xs))) := by
  unfold m_spec_l02Make m_spec_l02Make_A0
  have h2 := trim_len xs
  rw [tl_iter (step := m_spec_l02Make_L0 xs) (fun n => rfl) hl _ (Nat.le_refl _), Option.bind_some, slice_trim, Option.bind_some, spec_own (by omega), Option.bind_some, spec_is (by unfold cTerm; simp only; omega), Option.bind_some]
  unfold chk
  cases vT (Term.mk c (trim xs)) <;> rfl
theorem impl_copy {xs : List Int} (h : xs.length ≤ 1048576) : m_impl_copyInts xs = some xs := by
  unfold m_impl_copyInts; rw [capI_some (by simp; omega)]; simp
theorem impl_own {t : Term} (h : t.Coeffs.length ≤ 1048576) : m_impl_Term_own t = some t := by
  unfold m_impl_Term_own; rw [impl_copy h]; rfl
theorem impl_trimmed {t : Term} (hl : t.Coeffs.length ≤ 1048576) : m_impl_Term_trimmed t = some (Term.mk t.Const (trim t.Coeffs)) := by
  unfold m_impl_Term_trimmed m_impl_Term_trimmed_A0
  rw [tl_iter (step := m_impl_Term_trimmed_L0 t) (fun n => rfl) hl _ (Nat.le_refl _), Option.bind_some, slice_trim, Option.bind_some]
theorem impl_checked (t : Term) : m_impl_Term_checked t = some (chk t) := by
  unfold m_impl_Term_checked chk
  rw [impl_valid, Option.bind_some]
  cases h : vT t with
  | false => rfl
  | true => rw [impl_own (by have := vT_len h; omega)]; rfl
def tab (f : Nat → Int) : List Int := (List.range 10).map f
theorem tab_len (f : Nat → Int) : (tab f).length = 10 := rfl
theorem tab_get {f : Nat → Int} {n : Nat} (h : n < 10) : (tab f)[n]? = some (f n) := by simp [tab, h]
theorem tab_set {f : Nat → Int} {n : Nat} {v : Int} (h : n < 10) : (tab f).set n v = tab fun i => if i = n then v else f i := by
  unfold tab
  apply List.ext_getElem?
  intro i
  rw [List.getElem?_set]
  by_cases hi : n = i
  · subst hi; simp [h]
  · rw [if_neg hi]
    have hi' : i ≠ n := Ne.symm hi
    by_cases h10 : i < 10
    · simp [h10, hi']
    · simp [h10]
theorem tab_zero : List.replicate 10 (0 : Int) = tab fun _ => 0 := rfl
def coef (xs : List Int) (i : Nat) : Int := xs[i]?.getD 0
theorem coef_get {xs : List Int} {i : Nat} {x : Int} (h : xs[i]? = some x) : coef xs i = x := by simp [coef, h]
theorem coef_no {xs : List Int} {i : Nat} (h : xs.length ≤ i) : coef xs i = 0 := by simp [coef, h]
theorem coef_rng {t : Term} (h : vT t = true) (i : Nat) : -1000000 ≤ coef t.Coeffs i ∧ coef t.Coeffs i ≤ 1000000 := by
  unfold coef
  cases hx : t.Coeffs[i]? with
  | none => simp
  | some x => exact inR_iff.1 (vT_coef h x (List.mem_of_getElem? hx))
theorem const_rng {t : Term} (h : vT t = true) : -1000000 ≤ t.Const ∧ t.Const ≤ 1000000 := inR_iff.1 (vT_const h)
theorem prod_rng {a b A B : Int} (h1 : -A ≤ a) (h2 : a ≤ A) (h3 : -B ≤ b) (h4 : b ≤ B) : -(A * B) ≤ a * b ∧ a * b ≤ A * B := by
  have hA : 0 ≤ A := by omega
  have hB : 0 ≤ B := by omega
  have p1 : 0 ≤ (A - a) * (B - b) := Int.mul_nonneg (by omega) (by omega)
  have p2 : 0 ≤ (A + a) * (B + b) := Int.mul_nonneg (by omega) (by omega)
  have p3 : 0 ≤ (A - a) * (B + b) := Int.mul_nonneg (by omega) (by omega)
  have p4 : 0 ≤ (A + a) * (B - b) := Int.mul_nonneg (by omega) (by omega)
  simp only [Int.sub_mul, Int.add_mul, Int.mul_sub, Int.mul_add] at p1 p2 p3 p4
  omega
theorem spec_coeff {t : Term} {i : Nat} (hl : i < 10) : m_spec_l02Coeff t (i : Int) = some (coef t.Coeffs i) := by
  unfold m_spec_l02Coeff
  by_cases h : i < t.Coeffs.length
  · have hx : t.Coeffs[i]? = some t.Coeffs[i] := by simp [h]
    rw [dec_lt h, cond_true, getI_some hx, coef_get hx]; rfl
  · rw [dec_not_lt h, cond_false, coef_no (by omega)]
/-- The sum of the first n. -/
def sumN (f : Nat → Int) : Nat → Int
  | 0 => 0
  | n + 1 => sumN f n + f n
theorem sumN_rng {f : Nat → Int} {B : Int} (h : ∀ i, -B ≤ f i ∧ f i ≤ B) : ∀ n : Nat, -(n * B) ≤ sumN f n ∧ sumN f n ≤ n * B := by
  intro n
  induction n with
  | zero => simp [sumN]
  | succ n ih =>
    have := h n
    have e : ((n + 1 : Nat) : Int) * B = n * B + B := by rw [Int.natCast_add]; simp [Int.add_mul]
    rw [e]
    unfold sumN
    omega
def tAt (ts : List Term) (k : Nat) : Term := ts[k]?.getD ⟨0, []⟩
def lin (ts : List Term) (ms : List Int) (g : Term → Int) (n : Nat) : Int := sumN (fun k => coef ms k * g (tAt ts k)) n
def mOK (m : Int) : Prop := -1000000 ≤ m ∧ m ≤ 1000000
def Lin (ts : List Term) (ms : List Int) : Prop := (∀ t ∈ ts, vT t = true) ∧ (∀ m ∈ ms, mOK m) ∧ ts.length ≤ 14 ∧ ms.length = ts.length
theorem tAt_valid {ts : List Term} (h : ∀ t ∈ ts, vT t = true) (k : Nat) : vT (tAt ts k) = true := by
  unfold tAt
  cases hx : ts[k]? with
  | none => rfl
  | some t => exact h t (List.mem_of_getElem? hx)
theorem coef_m {ms : List Int} (h : ∀ m ∈ ms, mOK m) (k : Nat) : -1000000 ≤ coef ms k ∧ coef ms k ≤ 1000000 := by
  unfold coef
  cases hx : ms[k]? with
  | none => simp
  | some m => exact h m (List.mem_of_getElem? hx)
theorem mul_rng {a b : Int} (h1 : -1000000 ≤ a ∧ a ≤ 1000000) (h2 : -1000000 ≤ b ∧ b ≤ 1000000) : -1000000000000 ≤ a * b ∧ a * b ≤ 1000000000000 := by
  have := prod_rng h1.1 h1.2 h2.1 h2.2
  omega
theorem lin_rng {ts : List Term} {ms : List Int} (h : Lin ts ms) {g : Term → Int} (hg : ∀ t, vT t = true → -1000000 ≤ g t ∧ g t ≤ 1000000) {n : Nat} (hn : n ≤ 14) :
    -14000000000000 ≤ lin ts ms g n ∧ lin ts ms g n ≤ 14000000000000 := by
  have := sumN_rng (f := fun k => coef ms k * g (tAt ts k)) (B := 1000000000000) (fun i => mul_rng (coef_m h.2.1 i) (hg _ (tAt_valid h.1 i))) n
  unfold lin
  omega
/-- One term more: the coefficients. -/
theorem inner {f : Nat → Int} {m : Int} {xs : List Int} (hm : mOK m) (hl : xs.length ≤ 10) (hx : ∀ x ∈ xs, inR x = true) (hf : ∀ i, -100000000000000 ≤ f i ∧ f i ≤ 100000000000000) :
    forL (m_impl_combined_L1 m) (fun s1 => s1) 0 xs (tab f) = some (tab fun i => f i + m * coef xs i) := by
  obtain ⟨t, h1, h2⟩ := forL_inv (step := m_impl_combined_L1 m) (fin := fun s1 => s1) (xs := xs) (fun n s => s = tab fun i => if i < n then f i + m * coef xs i else f i) (fun t => t = tab fun i => f i + m * coef xs i)
    (fun n x s hxn hs => by
      subst hs
      have hn := get_lt hxn
      refine .inl ⟨_, ?_, rfl⟩
      unfold m_impl_combined_L1
      rw [getI_some (tab_get (by omega)), Option.bind_some, if_neg (by omega)]
      have hp := mul_rng hm (inR_iff.1 (hx x (List.mem_of_getElem? hxn)))
      have := hf n
      rw [w64_eq (n := m * x) (by omega), w64_eq (by omega), Int.toNat_natCast, tab_set (by omega)]
      congr 2
      unfold tab
      apply List.map_congr_left
      intro i hi
      by_cases h1 : i = n
      · subst h1; rw [if_pos rfl, if_pos (by omega), coef_get hxn]
      · rw [if_neg h1]
        by_cases h2 : i < n
        · rw [if_pos h2, if_pos (by omega)]
        · rw [if_neg h2, if_neg (by omega)])
    (fun s hs => by
      subst hs
      unfold tab
      apply List.map_congr_left
      intro i hi
      by_cases h2 : i < xs.length
      · rw [if_pos h2]
      · rw [if_neg h2, coef_no (by omega)]; omega)
    (s := tab f) (by simp)
  rw [h1, h2]
theorem impl_combined {ts : List Term} {ms : List Int} (h : Lin ts ms) :
    m_impl_combined ts ms = some (Term.mk (lin ts ms Term.Const ts.length) (trim (tab fun i => lin ts ms (fun t => coef t.Coeffs i) ts.length))) := by
  unfold m_impl_combined
  rw [show (10 : Int) = ((10 : Nat) : Int) from rfl, makeI_some (by omega), Option.bind_some, tab_zero]
  obtain ⟨t, h1, h2⟩ := forL_inv (step := m_impl_combined_L0 ms) (fin := fun s0 => (s0.1, s0.2)) (xs := ts) (fun n s => s = (lin ts ms Term.Const n, tab fun i => lin ts ms (fun t => coef t.Coeffs i) n))
    (fun t => t = (lin ts ms Term.Const ts.length, tab fun i => lin ts ms (fun t => coef t.Coeffs i) ts.length))
    (fun n x s hxn hs => by
      subst hs
      have hn := get_lt hxn
      refine .inl ⟨_, ?_, rfl⟩
      unfold m_impl_combined_L0
      have hmn : n < ms.length := by rw [h.2.2.2]; exact hn
      have hm : ms[n]? = some ms[n] := by simp [hmn]
      have hv := h.1 x (List.mem_of_getElem? hxn)
      have hmo := h.2.1 _ (List.mem_of_getElem? hm)
      rw [getI_some hm, Option.bind_some, inner hmo (vT_len hv) (vT_coef hv)
        (fun i => by have := lin_rng h (g := fun t => coef t.Coeffs i) (fun t ht => coef_rng ht i) (n := n) (by have := h.2.2.1; omega); omega), Option.bind_some]
      unfold m_impl_combined_A1
      have hp := mul_rng hmo (const_rng hv)
      have hq := lin_rng h (g := Term.Const) (fun t ht => const_rng ht) (n := n) (by have := h.2.2.1; omega)
      simp only
      rw [w64_eq (n := ms[n] * x.Const) (by omega), w64_eq (by omega)]
      have e : ∀ g : Term → Int, lin ts ms g (n + 1) = lin ts ms g n + ms[n] * g x := by
        intro g
        unfold lin
        rw [show sumN (fun k => coef ms k * g (tAt ts k)) (n + 1) = sumN (fun k => coef ms k * g (tAt ts k)) n + coef ms n * g (tAt ts n) from rfl, coef_get hm]
        unfold tAt
        rw [hxn]; rfl
      simp only [e])
    (fun s hs => hs) rfl
  change (forL (m_impl_combined_L0 ms) (fun s0 => (s0.1, s0.2)) 0 ts (lin ts ms Term.Const 0, tab fun i => lin ts ms (fun t => coef t.Coeffs i) 0)).bind _ = _
  rw [h1, h2, Option.bind_some]
  unfold m_impl_combined_A0
  rw [impl_trimmed (by simp only [tab_len]; omega)]; rfl
theorem spec_sum_loop {p q : Term} {a b : Int} (hp : vT p = true) (hq : vT q = true) (ha : mOK a) (hb : mOK b) :
    iter (m_spec_l02Sum_L0 p a q b) ([], 0) = some (tab fun i => a * coef p.Coeffs i + b * coef q.Coeffs i) := by
  have key : ∀ (m n : Nat), n + m = 10 → iter (m_spec_l02Sum_L0 p a q b) ((tab fun i => a * coef p.Coeffs i + b * coef q.Coeffs i).take n, (n : Int)) = some (tab fun i => a * coef p.Coeffs i + b * coef q.Coeffs i) := by
    intro m
    induction m with
    | zero =>
      intro n hn
      obtain rfl : n = 10 := by omega
      exact iter_out rfl
    | succ m ih =>
      intro n hn
      rw [iter_next (s' := ((tab fun i => a * coef p.Coeffs i + b * coef q.Coeffs i).take (n + 1), ((n + 1 : Nat) : Int)))]
      · exact ih (n + 1) (by omega)
      · unfold m_spec_l02Sum_L0
        have h1 := mul_rng ha (coef_rng hp n)
        have h2 := mul_rng hb (coef_rng hq n)
        rw [decide_eq_true (by omega), cond_true, spec_coeff (by omega), Option.bind_some, spec_coeff (by omega), Option.bind_some, capI_some (by simp [tab_len]; omega), Option.bind_some]
        rw [w64_succ (by omega), w64_eq (n := a * coef p.Coeffs n) (by omega), w64_eq (n := b * coef q.Coeffs n) (by omega), w64_eq (by omega), List.take_add_one, tab_get (by omega)]
        rfl
  exact key 10 0 rfl
theorem spec_sum {p q : Term} {a b : Int} (hp : vT p = true) (hq : vT q = true) (ha : mOK a) (hb : mOK b) :
    m_spec_l02Sum p a q b = some (chk (Term.mk (a * p.Const + b * q.Const) (trim (tab fun i => a * coef p.Coeffs i + b * coef q.Coeffs i)))) := by
  unfold m_spec_l02Sum
  rw [spec_sum_loop hp hq ha hb, Option.bind_some]
  unfold m_spec_l02Sum_A0
  have h1 := mul_rng ha (const_rng hp)
  have h2 := mul_rng hb (const_rng hq)
  rw [w64_eq (n := a * p.Const) (by omega), w64_eq (n := b * q.Const) (by omega), w64_eq (by omega), spec_make (by rw [tab_len]; omega)]
  rfl
def fAdd (p q : Term) : Term × Bool := bif vT p && vT q then chk (Term.mk (p.Const + q.Const) (trim (tab fun i => coef p.Coeffs i + coef q.Coeffs i))) else (Term.mk 0 [], false)
theorem one_mul' (x : Int) : (1 : Int) * x = x := Int.one_mul x
def small (r : Term × Bool) : Prop := cTerm r.1 ≤ 1048576
theorem chk_small (t : Term) : small (chk t) := by
  unfold chk small
  cases h : vT t with
  | false => exact Nat.zero_le _
  | true => have := vT_len h; unfold cTerm; simp only [cond_true]; omega
theorem fAdd_small (p q : Term) : small (fAdd p q) := by
  unfold fAdd
  cases vT p && vT q
  · exact Nat.zero_le _
  · exact chk_small _
theorem vT_one (c : Int) (h : inR c = true) : vT (Term.mk c []) = true := by unfold vT; simp only [h]; rfl
theorem coef_nil (i : Nat) : coef [] i = 0 := rfl
def fScale (p : Term) (m : Int) : Term × Bool := bif vT p && inR m then chk (Term.mk (m * p.Const) (trim (tab fun i => m * coef p.Coeffs i))) else (Term.mk 0 [], false)
theorem lin_one (p : Term) (m : Int) (g : Term → Int) : lin [p] [m] g 1 = m * g p := by
  unfold lin
  simp [sumN, coef, tAt]
theorem fScale_small (p : Term) (m : Int) : small (fScale p m) := by
  unfold fScale
  cases vT p && inR m
  · exact Nat.zero_le _
  · exact chk_small _
def fOpp (p : Term) : Term × Bool := bif vT p then chk (Term.mk (-p.Const - 1) (trim (tab fun i => -coef p.Coeffs i))) else (Term.mk 0 [], false)
theorem fOpp_small (p : Term) : small (fOpp p) := by
  unfold fOpp
  cases vT p
  · exact Nat.zero_le _
  · exact chk_small _
def cTermS (ts : List Term) : Nat := ts.length + (ts.map cTerm).sum
theorem mem_sum {α : Type} {c : α → Nat} {xs : List α} {x : α} (h : x ∈ xs) : c x ≤ (xs.map c).sum := by
  induction xs with
  | nil => cases h
  | cons y r ih =>
    simp only [List.map_cons, List.sum_cons]
    rcases List.mem_cons.1 h with rfl | h
    · omega
    · have := ih h; omega
theorem cTermS_mem {ts : List Term} {t : Term} (h : t ∈ ts) : cTerm t ≤ cTermS ts := by have := mem_sum (c := cTerm) h; unfold cTermS; omega
theorem sz_TermS {ts : List Term} (k : kLa_Term ts) : SzP m_laws_szTermS cTermS ts := fun b hb => by
  unfold m_laws_szTermS cTermS
  rw [szW k.1 hb]
  by_cases h : ts.length ≤ b
  · rw [decide_eq_false (by omega), cond_false, show (b : Int) - (ts.length : Int) = ((b - ts.length : Nat) : Int) by omega,
      iter_sz (xs := ts) (c := cTerm) (sz := m_laws_szTerm)
        (fun n x b hx => by unfold m_laws_szTermS_L0; rw [dec_lt (get_lt hx), cond_true, getI_some hx]; rfl)
        (fun b => by unfold m_laws_szTermS_L0; rw [dec_self]; rfl) k.1 (fun x hx => sz_Term (k.2 x hx).2.1) (by omega), Option.bind_some]
    by_cases h2 : (ts.map cTerm).sum ≤ b - ts.length
    · rw [if_pos h2, szOut_ok (by omega)]
      unfold m_laws_szTermS_A0; simp only; congr 2; omega
    · rw [if_neg h2, szOut_no (by omega)]; rfl
  · rw [decide_eq_true (by omega), szOut_no (by omega)]; rfl
theorem to_TermS {ts : List Term} (hl : cTermS ts ≤ 1048576) : m_laws_toTermS ts = some ts := by
  have hlen : ts.length ≤ 1048576 := by unfold cTermS at hl; omega
  unfold m_laws_toTermS
  rw [makeI_some (by omega), Option.bind_some, iter_to (xs := ts) (z := Term.mk 0 []) (cp := m_laws_toTerm)
    (fun n x ys hx => by unfold m_laws_toTermS_L0; rw [dec_lt (get_lt hx), cond_true, getI_some hx]; rfl)
    (fun ys => by unfold m_laws_toTermS_L0; rw [dec_self]; rfl) hlen (fun x hx => to_Term (by have := cTermS_mem hx; omega))]
  rfl
theorem eq_TermS {xs ys : List Term} (hl : cTermS xs ≤ 1048576) : m_laws_eqTermS xs ys = some (decide (xs = ys)) := by
  have hlen : xs.length ≤ 1048576 := by unfold cTermS at hl; omega
  unfold m_laws_eqTermS
  by_cases h : xs.length = ys.length
  · rw [decide_eq_true (by omega), Bool.not_true, cond_false, iter_eq (xs := xs) (ys := ys) (eq := m_laws_eqTerm)
      (fun n x y hx hy => by unfold m_laws_eqTermS_L0; rw [dec_lt (get_lt hx), cond_true, getI_some hx, getI_some hy]; rfl)
      (by unfold m_laws_eqTermS_L0; rw [dec_self]; rfl) (by omega) h (fun x hx y => eq_Term (by have := cTermS_mem hx; omega))]
    by_cases e : xs = ys
    · rw [if_pos e, decide_eq_true e]; rfl
    · rw [if_neg e, decide_eq_false e]; rfl
  · rw [decide_eq_false (by omega), decide_eq_false (fun e => h (by rw [e]))]; rfl
/-- An element's marks: its number, then its coefficients. -/
noncomputable def mkEl (x : Term) (k : Int) : Option (Int × Term) := (m_laws_markInt64S x.Coeffs (w64 (k + 1))).bind fun r => some (r.1, Term.mk k r.2)
theorem mkEl_ok {x : Term} (hl : cTerm x ≤ 1048576) {k : Nat} (hk : k ≤ 1125899906842623) : ∃ x', mkEl x k = some (((k + (1 + cTerm x) : Nat) : Int), x') := by
  obtain ⟨r, h1, _⟩ := mk_ints (xs := x.Coeffs) hl (k := k + 1) (by omega)
  refine ⟨Term.mk k r, ?_⟩
  unfold mkEl
  rw [w64_succ (by omega), h1, Option.bind_some]
  unfold cTerm
  congr 3
  omega
/-- The marks of a list of terms. -/
theorem mk_TermS {ts : List Term} (hl : cTermS ts ≤ 1048576) {k : Nat} (hk : k ≤ 1048577) : ∃ ts', m_laws_markTermS ts k = some (((k + cTermS ts : Nat) : Int), ts') := by
  have hlen : ts.length ≤ 1048576 := by unfold cTermS at hl; omega
  have key : ∀ (q n : Nat) (ys : List Term) (k : Nat), n + q = ts.length → ys.length = ts.length → ys.drop n = ts.drop n → k + cTermS (ts.drop n) ≤ 1000000000 →
      ∃ xs', iter m_laws_markTermS_L0 (ys, (k : Int), (n : Int)) = some (((k + cTermS (ts.drop n) : Nat) : Int), xs') := by
    intro q
    induction q with
    | zero =>
      intro n ys k hn hy _ hk
      obtain rfl : n = ts.length := by omega
      refine ⟨ys, ?_⟩
      rw [iter_out (t := ((k : Int), ys))]
      · simp [cTermS]
      · unfold m_laws_markTermS_L0; rw [← hy, dec_self]; rfl
    | succ q ih =>
      intro n ys k hn hy hd hk
      have hlt : n < ts.length := by omega
      have hyn : ys[n]? = some ts[n] := by
        have := congrArg (fun l => l[0]?) hd
        simpa [List.getElem?_drop, hlt] using this
      have hc : cTermS (ts.drop n) = 1 + cTerm ts[n] + cTermS (ts.drop (n + 1)) := by
        rw [List.drop_eq_getElem_cons hlt]; unfold cTermS; simp only [List.length_cons, List.map_cons, List.sum_cons]; omega
      have hm := cTermS_mem (List.getElem_mem hlt)
      obtain ⟨r, h1, _⟩ := mk_ints (xs := (ts[n]).Coeffs) (by unfold cTerm at hm; omega) (k := k + 1) (by omega)
      obtain ⟨xs', e1⟩ := ih (n + 1) ((ys.set n (Term.mk k (ts[n]).Coeffs)).set n (Term.mk k r)) (k + 1 + cTerm ts[n]) (by omega) (by simpa using hy)
        (by
          have := congrArg (fun l => l.drop 1) hd
          simp only [List.drop_drop] at this
          rw [List.drop_set_of_lt (by omega), List.drop_set_of_lt (by omega)]; exact this) (by omega)
      refine ⟨xs', ?_⟩
      rw [iter_next (s' := ((ys.set n (Term.mk k (ts[n]).Coeffs)).set n (Term.mk k r), ((k + 1 + cTerm ts[n] : Nat) : Int), ((n + 1 : Nat) : Int))), e1, hc]
      · congr 2; omega
      · unfold m_laws_markTermS_L0
        simp only
        rw [dec_lt (by omega), cond_true, getI_some hyn, Option.bind_some, Int.toNat_natCast,
          getI_some (x := Term.mk k (ts[n]).Coeffs) (by rw [List.getElem?_set_self (by omega)]), Option.bind_some, w64_succ (by omega)]
        simp only
        rw [h1, Option.bind_some, w64_succ (by omega)]
        rfl
  obtain ⟨xs', h⟩ := key ts.length 0 ts k (by omega) rfl rfl (by simp only [List.drop_zero]; omega)
  refine ⟨xs', ?_⟩
  unfold m_laws_markTermS
  rw [List.drop_zero] at h
  rw [show (0 : Int) = ((0 : Nat) : Int) from rfl, h]; rfl
theorem comb_loop {ts : List Term} {ms : List Int} (h : Lin ts ms) :
    forL (m_impl_combined_L0 ms) (fun s0 => (s0.1, s0.2)) 0 ts (0, tab fun _ => 0) = some (lin ts ms Term.Const ts.length, tab fun i => lin ts ms (fun t => coef t.Coeffs i) ts.length) := by
  obtain ⟨t, h1, h2⟩ := forL_inv (step := m_impl_combined_L0 ms) (fin := fun s0 => (s0.1, s0.2)) (xs := ts) (fun n s => s = (lin ts ms Term.Const n, tab fun i => lin ts ms (fun t => coef t.Coeffs i) n))
    (fun t => t = (lin ts ms Term.Const ts.length, tab fun i => lin ts ms (fun t => coef t.Coeffs i) ts.length))
    (fun n x s hxn hs => by
      subst hs
      have hn := get_lt hxn
      refine .inl ⟨_, ?_, rfl⟩
      unfold m_impl_combined_L0
      have hmn : n < ms.length := by rw [h.2.2.2]; exact hn
      have hm : ms[n]? = some ms[n] := by simp [hmn]
      have hv := h.1 x (List.mem_of_getElem? hxn)
      have hmo := h.2.1 _ (List.mem_of_getElem? hm)
      rw [getI_some hm, Option.bind_some, inner hmo (vT_len hv) (vT_coef hv)
        (fun i => by have := lin_rng h (g := fun t => coef t.Coeffs i) (fun t ht => coef_rng ht i) (n := n) (by have := h.2.2.1; omega); omega), Option.bind_some]
      unfold m_impl_combined_A1
      have hp := mul_rng hmo (const_rng hv)
      have hq := lin_rng h (g := Term.Const) (fun t ht => const_rng ht) (n := n) (by have := h.2.2.1; omega)
      simp only
      rw [w64_eq (n := ms[n] * x.Const) (by omega), w64_eq (by omega)]
      have e : ∀ g : Term → Int, lin ts ms g (n + 1) = lin ts ms g n + ms[n] * g x := by
        intro g
        unfold lin
        rw [show sumN (fun k => coef ms k * g (tAt ts k)) (n + 1) = sumN (fun k => coef ms k * g (tAt ts k)) n + coef ms n * g (tAt ts n) from rfl, coef_get hm]
        unfold tAt
        rw [hxn]; rfl
      simp only [e])
    (fun s hs => hs) rfl
  change forL (m_impl_combined_L0 ms) (fun s0 => (s0.1, s0.2)) 0 ts (lin ts ms Term.Const 0, tab fun i => lin ts ms (fun t => coef t.Coeffs i) 0) = _
  rw [h1, h2]
theorem spec_inner {m : Int} {t : Term} (hl : t.Coeffs.length ≤ 1048576) (s : List Int) :
    iter (m_spec_l02Combine_L1 m t) (s, 0) = forL (m_impl_combined_L1 m) (fun s1 => s1) 0 t.Coeffs s :=
  iter_for (step := m_spec_l02Combine_L1 m t) t.Coeffs (fun n (s : List Int) => (s, (n : Int))) (m_impl_combined_L1 m) (fun s1 => s1)
    (fun n x r hx => by
      unfold m_spec_l02Combine_L1 m_impl_combined_L1
      simp only
      rw [dec_lt (get_lt hx), cond_true]
      cases getI r (n : Int) with
      | none => rfl
      | some y =>
        simp only [Option.bind_some]
        rw [getI_some hx, Option.bind_some, w64_succ (by have := get_lt hx; omega)]; rfl)
    (fun r => by unfold m_spec_l02Combine_L1; simp only; rw [dec_self]; rfl) s
theorem spec_comb_loop {ts : List Term} {ms : List Int} (h1 : ∀ t ∈ ts, t.Coeffs.length ≤ 1048576) (h2 : ts.length ≤ 1048576) (s : Int × List Int) :
    iter (m_spec_l02Combine_L0 ts ms) (s.1, s.2, 0) = forL (m_impl_combined_L0 ms) (fun s0 => (s0.1, s0.2)) 0 ts s :=
  iter_for (step := m_spec_l02Combine_L0 ts ms) ts (fun n (s : Int × List Int) => (s.1, s.2, (n : Int))) (m_impl_combined_L0 ms) (fun s0 => (s0.1, s0.2))
    (fun n x r hx => by
      unfold m_spec_l02Combine_L0 m_impl_combined_L0
      simp only
      rw [dec_lt (get_lt hx), cond_true]
      cases getI ms (n : Int) with
      | none => rfl
      | some y =>
        simp only [Option.bind_some]
        rw [getI_some hx, Option.bind_some, spec_inner (h1 x (List.mem_of_getElem? hx))]
        cases forL (m_impl_combined_L1 y) (fun s1 => s1) 0 x.Coeffs r.2 with
        | none => rfl
        | some u =>
          simp only [Option.bind_some]
          unfold m_spec_l02Combine_A1 m_impl_combined_A1
          simp only
          rw [w64_succ (by have := get_lt hx; omega)]; rfl)
    (fun r => by unfold m_spec_l02Combine_L0; simp only; rw [dec_self]; rfl) s
theorem spec_combine {ts : List Term} {ms : List Int} (h : Lin ts ms) :
    m_spec_l02Combine ts ms = some (chk (Term.mk (lin ts ms Term.Const ts.length) (trim (tab fun i => lin ts ms (fun t => coef t.Coeffs i) ts.length)))) := by
  unfold m_spec_l02Combine
  rw [show (10 : Int) = ((10 : Nat) : Int) from rfl, makeI_some (by omega), Option.bind_some, tab_zero,
    show iter (m_spec_l02Combine_L0 ts ms) (0, tab (fun _ => 0), 0) = _ from spec_comb_loop (fun t ht => by have := vT_len (h.1 t ht); omega) (by have := h.2.2.1; omega) (0, tab fun _ => 0),
    comb_loop h, Option.bind_some]
  unfold m_spec_l02Combine_A0
  rw [spec_make (by simp only [tab_len]; omega)]; rfl
def inM (m : Int) : Bool := decide (0 ≤ m) && decide (m ≤ 1000000)
theorem inM_ok {m : Int} (h : inM m = true) : mOK m := by simp [inM] at h; unfold mOK; omega
theorem dec_eqN {a b : Nat} : decide ((a : Int) = (b : Int)) = decide (a = b) := by by_cases h : a = b <;> simp [h]; omega
theorem dec_leN {a b : Nat} : decide ((a : Int) ≤ (b : Int)) = decide (a ≤ b) := by by_cases h : a ≤ b <;> simp [h]
theorem spec_all {ts : List Term} {k : Nat} (hl : cTermS ts ≤ 1048576) : m_spec_l02All ts (k : Int) = some (ts.all vT && decide (ts.length ≤ k)) := by
  have hlen : ts.length ≤ 1048576 := by unfold cTermS at hl; omega
  have h := iter_for (step := m_spec_l02All_L0 ts) ts (fun n (_ : Unit) => (n : Int)) (fun _ x _ => bif vT x then some (.next ()) else some (.out (.inr false))) (fun _ => .inl ())
    (fun n x r hx => by
      unfold m_spec_l02All_L0
      rw [dec_lt (get_lt hx), cond_true, getI_some hx, Option.bind_some, spec_is (by have := cTermS_mem (List.mem_of_getElem? hx); omega), Option.bind_some]
      have hw : w64 ((n : Int) + 1) = ((n + 1 : Nat) : Int) := w64_succ (by have := get_lt hx; omega)
      cases vT x
      · rfl
      · rw [hw]; rfl)
    (fun r => by unfold m_spec_l02All_L0; rw [dec_self]; rfl) ()
  rw [forL_all vT _ _ (fun n x _ => rfl)] at h
  unfold m_spec_l02All
  rw [show (0 : Int) = ((0 : Nat) : Int) from rfl, h, Option.bind_some]
  cases ts.all vT
  · rfl
  · change some (decide ((ts.length : Int) ≤ (k : Int))) = _
    rw [dec_leN]; rfl
theorem impl_terms {ts : List Term} {k : Nat} : m_impl_areTerms ts (k : Int) = some (decide (ts.length ≤ k) && ts.all vT) := by
  unfold m_impl_areTerms
  by_cases h : ts.length ≤ k
  · rw [decide_eq_false (by omega), cond_false, decide_eq_true h, Bool.true_and, forL_all vT (f := .inr false) ts 0 (fun n x _ => by
      unfold m_impl_areTerms_L0
      rw [impl_valid, Option.bind_some]
      cases vT x <;> rfl), Option.bind_some]
    cases ts.all vT <;> rfl
  · rw [decide_eq_true (by omega), decide_eq_false h]; rfl
def fComb (ts : List Term) (ms : List Int) : Term × Bool :=
  bif ts.all vT && decide (ts.length ≤ 14) && decide (ms.length = ts.length) && ms.all inM then
    chk (Term.mk (lin ts ms Term.Const ts.length) (trim (tab fun i => lin ts ms (fun t => coef t.Coeffs i) ts.length))) else (Term.mk 0 [], false)
theorem comb_lin {ts : List Term} {ms : List Int} (h1 : ts.all vT = true) (h2 : ts.length ≤ 14) (h3 : ms.length = ts.length) (h4 : ms.all inM = true) : Lin ts ms :=
  ⟨fun t ht => List.all_eq_true.1 h1 t ht, fun m hm => inM_ok (List.all_eq_true.1 h4 m hm), h2, h3⟩
theorem impl_comb {ts : List Term} {ms : List Int} : m_impl_CombineTerms ts ms = some (fComb ts ms) := by
  unfold m_impl_CombineTerms fComb m_impl_ValidFacts
  rw [show (14 : Int) = ((14 : Nat) : Int) from rfl, impl_terms, impl_all, dec_eqN]
  change ((some _).bind _).bind (fun r7 => bif (!r7 || _) then _ else (some (ms.all inM)).bind _) = _
  cases h1 : ts.all vT with
  | false => simp
  | true =>
    by_cases h2 : ts.length ≤ 14
    · by_cases h3 : ms.length = ts.length
      · cases h4 : ms.all inM with
        | false => simp [h2, h3]
        | true => simp [h2, h3, impl_combined (comb_lin h1 h2 h3 h4), impl_checked]
      · simp [h2, h3]
    · simp [h2]
theorem fComb_small (ts : List Term) (ms : List Int) : small (fComb ts ms) := by
  unfold fComb
  cases ts.all vT && decide (ts.length ≤ 14) && decide (ms.length = ts.length) && ms.all inM
  · exact Nat.zero_le _
  · exact chk_small _
def fRef (r : Term × Bool) : Bool := (r.2 && decide ((r.1.Coeffs.length : Int) = 0)) && decide (r.1.Const < 0)
theorem mk_ints' {xs : List Int} {k : Nat} (hk : k + xs.length ≤ 4611686018427387904) :
    ∃ xs', m_laws_markInt64S xs k = some (((k + xs.length : Nat) : Int), xs') ∧ m_laws_heldInt64S xs' k = some ((k + xs.length : Nat) : Int) := by
  obtain ⟨xs', h1, h2, h3⟩ := iter_mark (xs := xs) (m := fun _ => 1) (mk := markI) (held := heldI)
    (step := m_laws_markInt64S_L0) (hstep := m_laws_heldInt64S_L0)
    (fun n ys x k hk hx => by unfold m_laws_markInt64S_L0; rw [dec_lt (get_lt hx), cond_true, getI_some hx]; rfl)
    (fun ys k => by unfold m_laws_markInt64S_L0; rw [dec_self]; rfl)
    (fun n ys x k hk hx => by
      unfold m_laws_heldInt64S_L0 heldI; rw [dec_lt (get_lt hx), cond_true, getI_some hx, Option.bind_some, Option.bind_some]
      have h2 : w64 ((k : Int) + 1) = ((k + 1 : Nat) : Int) := w64_succ (by omega)
      by_cases h : x = k
      · rw [decide_eq_true h, Bool.not_true, cond_false, cond_false, h2, decide_eq_false (by omega), cond_false]
      · rw [decide_eq_false h, Bool.not_false, cond_true, cond_true, decide_eq_true (by decide), cond_true])
    (fun ys k => by unfold m_laws_heldInt64S_L0; rw [dec_self]; rfl)
    (by omega) (fun x _ => mk_I x) (k := k) (by rw [sum_one]; omega)
  rw [sum_one] at h1 h3
  exact ⟨xs', by unfold m_laws_markInt64S; rw [h1]; rfl, by unfold m_laws_heldInt64S; rw [h3]; rfl⟩
noncomputable def heldEl (x : Term) (k : Int) : Option Int := bif !decide (x.Const = k) then some (-1) else m_laws_heldInt64S x.Coeffs (w64 (k + 1))
theorem mk_El (x : Term) : MkP mkEl heldEl (fun x => 1 + cTerm x) x := fun k hk => by
  simp only [cTerm] at hk ⊢
  obtain ⟨r, h1, h2⟩ := mk_ints' (xs := x.Coeffs) (k := k + 1) (by omega)
  refine ⟨Term.mk k r, ?_, ?_⟩
  · unfold mkEl
    rw [w64_succ (by omega), h1, Option.bind_some]
    congr 3; omega
  · unfold heldEl
    rw [decide_eq_true rfl, Bool.not_true, cond_false, w64_succ (by omega), h2]
    congr 2; omega
theorem sum_add {α : Type} (c : α → Nat) (xs : List α) : (xs.map fun x => 1 + c x).sum = xs.length + (xs.map c).sum := by
  induction xs with
  | nil => rfl
  | cons x r ih => simp only [List.map_cons, List.sum_cons, List.length_cons, ih]; omega
theorem mkh_TermS {ts : List Term} {k : Nat} (hk : k + cTermS ts ≤ 4611686018427387904) :
    ∃ ts', m_laws_markTermS ts k = some (((k + cTermS ts : Nat) : Int), ts') ∧ m_laws_heldTermS ts' k = some ((k + cTermS ts : Nat) : Int) := by
  unfold cTermS at hk ⊢
  obtain ⟨xs', h1, h2, h3⟩ := iter_mark (xs := ts) (m := fun x => 1 + cTerm x) (mk := mkEl) (held := heldEl)
    (step := m_laws_markTermS_L0) (hstep := m_laws_heldTermS_L0)
    (fun n ys x k hk hx => by
      unfold m_laws_markTermS_L0 mkEl
      have hn := get_lt hx
      simp only
      rw [dec_lt hn, cond_true, getI_some hx, Option.bind_some, Int.toNat_natCast, getI_some (x := Term.mk k x.Coeffs) (by rw [List.getElem?_set_self hn]), Option.bind_some]
      cases m_laws_markInt64S x.Coeffs (w64 ((k : Int) + 1)) with
      | none => rfl
      | some r => simp only [Option.bind_some, List.set_set])
    (fun ys k => by unfold m_laws_markTermS_L0; simp only; rw [dec_self]; rfl)
    (fun n ys x k hk hx => by
      unfold m_laws_heldTermS_L0 heldEl
      simp only
      rw [dec_lt (get_lt hx), cond_true, getI_some hx, Option.bind_some]
      by_cases h : x.Const = k
      · rw [decide_eq_true h]; rfl
      · rw [decide_eq_false h, Bool.not_false, cond_true, cond_true, Option.bind_some, decide_eq_true (by decide), cond_true])
    (fun ys k => by unfold m_laws_heldTermS_L0; simp only; rw [dec_self]; rfl)
    (by omega) (fun x _ => mk_El x) (k := k) (by rw [sum_add]; omega)
  rw [sum_add] at h1 h3
  exact ⟨xs', by unfold m_laws_markTermS; rw [h1]; rfl, by unfold m_laws_heldTermS; rw [h3]; rfl⟩
theorem mkh_Term {t : Term} {k : Nat} (hk : k + cTerm t ≤ 4611686018427387904) :
    ∃ r, m_laws_markTerm t k = some (((k + cTerm t : Nat) : Int), r) ∧ m_laws_heldTerm (Term.mk t.Const r) k = some ((k + cTerm t : Nat) : Int) := by
  obtain ⟨r, h1, h2⟩ := mk_ints' hk
  refine ⟨r, ?_, ?_⟩
  · unfold m_laws_markTerm; rw [h1]; rfl
  · unfold m_laws_heldTerm; rw [h2, Option.bind_some, decide_eq_false (by omega)]; rfl
def cSeq (s : Sequent) : Nat := cTermS s.Facts + cTerm s.Goal
theorem foldl_snoc {α : Type} (xs s : List α) : xs.foldl (fun s x => s ++ [x]) s = s ++ xs := by
  induction xs generalizing s with
  | nil => simp
  | cons x r ih => simp [ih]
theorem impl_ownTerms {ts : List Term} (hl : cTermS ts ≤ 1048576) : m_impl_ownTerms ts = some ts := by
  have hlen : ts.length ≤ 1048576 := by unfold cTermS at hl; omega
  unfold m_impl_ownTerms
  rw [forL_fold (fun s x => s ++ [x]) (fun k s => s.length = k) ts 0 [] rfl (fun n x s hx hs => by
    have := get_lt hx
    unfold m_impl_ownTerms_L0
    rw [impl_own (by have := cTermS_mem (List.mem_of_getElem? hx); unfold cTerm at this; omega), Option.bind_some, capI_some (by simp; omega), Option.bind_some]
    exact ⟨rfl, by simp [hs]⟩), Option.bind_some, foldl_snoc]
  rfl
theorem spec_ownAll {ts : List Term} (hl : cTermS ts ≤ 1048576) : m_spec_l02OwnAll ts = some ts := by
  have hlen : ts.length ≤ 1048576 := by unfold cTermS at hl; omega
  have h := iter_for (step := m_spec_l02OwnAll_L0 ts) ts (fun n (s : List Term) => (s, (n : Int))) m_impl_ownTerms_L0 (fun s0 => s0)
    (fun n x r hx => by
      unfold m_spec_l02OwnAll_L0 m_impl_ownTerms_L0 m_spec_l02Own
      have hc := cTermS_mem (List.mem_of_getElem? hx)
      unfold cTerm at hc
      simp only
      rw [dec_lt (get_lt hx), cond_true, getI_some hx, Option.bind_some, spec_own (by omega), Option.bind_some, Option.bind_some, impl_own (by omega), Option.bind_some]
      simp only [List.length_cons, List.length_nil, Nat.zero_add]
      cases capI (r.length + 1) 32 with
      | none => rfl
      | some u => simp only [Option.bind_some]; rw [w64_succ (by have := get_lt hx; omega)]; rfl)
    (fun r => by unfold m_spec_l02OwnAll_L0; simp only; rw [dec_self]; rfl) ([] : List Term)
  have h2 := impl_ownTerms hl
  unfold m_impl_ownTerms at h2
  unfold m_spec_l02OwnAll
  rw [show (0 : Int) = ((0 : Nat) : Int) from rfl, h]
  exact h2
def opp (t : Term) : Term := Term.mk (-t.Const - 1) (trim (tab fun i => -coef t.Coeffs i))
theorem spec_opposite {t : Term} (h : vT t = true) : m_spec_l02Opposite t = some (chk (opp t)) := by
  unfold m_spec_l02Opposite
  rw [spec_sum h (vT_one 1 rfl) (by unfold mOK; omega) (by unfold mOK; omega)]
  simp only [coef_nil, Int.mul_zero, Int.add_zero, Int.neg_mul, Int.one_mul]; rfl
theorem impl_opposite {t : Term} (h : vT t = true) : m_impl_Term_opposite t = some (opp t) := by
  unfold m_impl_Term_opposite
  have := const_rng h
  rw [impl_combined ⟨by simp [h], by simp [mOK], by simp, rfl⟩]
  simp only [List.length_cons, List.length_nil, Nat.zero_add, lin_one, Option.bind_some, Int.neg_mul, Int.one_mul]
  rw [w64_eq (by omega)]; rfl
theorem opp_len (t : Term) : (opp t).Coeffs.length ≤ 10 := by unfold opp; have := trim_len (tab fun i => -coef t.Coeffs i); rw [tab_len] at this; exact this
def vSeq (s : Sequent) : Bool := s.Facts.all vT && decide (s.Facts.length ≤ 13) && vT s.Goal
def fCtx (s : Sequent) : List Term × Bool := bif vSeq s && vT (opp s.Goal) then (s.Facts ++ [opp s.Goal], true) else ([], false)
theorem impl_ctx {s : Sequent} (hl : cSeq s ≤ 1048576) : m_impl_ContextOf s = some (fCtx s) := by
  unfold cSeq at hl
  have hlen : s.Facts.length ≤ 1048576 := by have : s.Facts.length ≤ cTermS s.Facts := by { unfold cTermS; omega }; omega
  unfold m_impl_ContextOf m_impl_ValidSequent fCtx vSeq
  rw [show (13 : Int) = ((13 : Nat) : Int) from rfl, impl_terms, Option.bind_some, impl_valid, Bool.and_comm (decide (s.Facts.length ≤ 13))]
  cases h1 : s.Facts.all vT && decide (s.Facts.length ≤ 13) with
  | false => rfl
  | true =>
    cases h2 : vT s.Goal with
    | false => rfl
    | true =>
      simp only [cond_true, Option.bind_some, Bool.not_true, cond_false, Bool.true_and]
      rw [impl_opposite h2, Option.bind_some, impl_valid, Option.bind_some, impl_ownTerms (by omega), Option.bind_some, Option.bind_some, impl_own (by have := opp_len s.Goal; omega), Option.bind_some]
      cases h3 : vT (opp s.Goal) with
      | false => rfl
      | true =>
        simp only [cond_true, Bool.not_true, cond_false]
        rw [capI_some (by simp; omega)]; rfl
theorem fCtx_small (s : Sequent) : cTermS (fCtx s).1 ≤ 1048576 := by
  unfold fCtx
  cases h : vSeq s && vT (opp s.Goal) with
  | false => exact Nat.zero_le _
  | true =>
    simp only [cond_true]
    simp only [vSeq, Bool.and_eq_true, List.all_eq_true, decide_eq_true_eq] at h
    have hk : ∀ (ts : List Term), (∀ t ∈ ts, vT t = true) → (ts.map cTerm).sum ≤ ts.length * 10 := by
      intro ts
      induction ts with
      | nil => intro _; simp
      | cons t r ih =>
        intro h
        have h1 := ih (fun t ht => h t (by simp [ht]))
        have h2 := vT_len (h t (by simp))
        simp only [List.map_cons, List.sum_cons, List.length_cons]
        unfold cTerm at *
        omega
    have h1 := hk (s.Facts ++ [opp s.Goal]) (fun t ht => by
      rcases List.mem_append.1 ht with ht | ht
      · exact h.1.1.1 t ht
      · rw [List.mem_singleton.1 ht]; exact h.2)
    unfold cTermS
    simp only [List.length_append, List.length_cons, List.length_nil] at h1 ⊢
    have := h.1.1.2
    omega
theorem euclid {step : Int × Int → Option (Ctl (Int × Int) Int)}
    (h0 : ∀ a : Nat, step ((a : Int), ((0 : Nat) : Int)) = some (.out (a : Int)))
    (hs : ∀ a b : Nat, 0 < b → step ((a : Int), (b : Int)) = some (.next ((b : Int), ((a % b : Nat) : Int)))) : ∀ (n b a : Nat), b < n → iter step ((a : Int), (b : Int)) = some ((Nat.gcd a b : Nat) : Int) := by
  intro n
  induction n with
  | zero => intro b a h; omega
  | succ n ih =>
    intro b a h
    by_cases hb : b = 0
    · subst hb; rw [iter_out (h0 a), Nat.gcd_zero_right]
    · rw [iter_next (hs a b (by omega)), ih (a % b) b (by have := Nat.mod_lt a (Nat.pos_of_ne_zero hb); omega)]
      congr 2
      rw [Nat.gcd_comm a b, Nat.gcd_rec b a, Nat.gcd_comm]
theorem rem_nat {a b : Nat} (hb : 0 < b) : remI (a : Int) (b : Int) = some ((a % b : Nat) : Int) := by
  unfold remI
  rw [decide_eq_false (by omega), cond_false]
  rfl
theorem spec_euclid (a b : Nat) : iter m_spec_l02Divisor_L1 ((a : Int), (b : Int)) = some ((Nat.gcd a b : Nat) : Int) :=
  euclid (fun a => rfl) (fun a b hb => by
    unfold m_spec_l02Divisor_L1
    simp only
    rw [decide_eq_true (by omega), cond_true, rem_nat hb]; rfl) (b + 1) b a (Nat.lt_succ_self _)
theorem impl_euclid (a b : Nat) : iter m_impl_gcd_L1 ((a : Int), (b : Int)) = some ((Nat.gcd a b : Nat) : Int) :=
  euclid (fun a => rfl) (fun a b hb => by
    unfold m_impl_gcd_L1
    simp only
    rw [decide_eq_false (by omega), Bool.not_false, cond_true, rem_nat hb]; rfl) (b + 1) b a (Nat.lt_succ_self _)
def gcdL (xs : List Int) : Nat := xs.foldl (fun d x => Nat.gcd d x.natAbs) 0
theorem foldl_cast (xs : List Int) : ∀ (d : Nat), xs.foldl (fun (d : Int) x => ((Nat.gcd d.toNat x.natAbs : Nat) : Int)) (d : Int) = ((xs.foldl (fun d x => Nat.gcd d x.natAbs) d : Nat) : Int) := by
  induction xs with
  | nil => intro d; rfl
  | cons x r ih => intro d; simp only [List.foldl_cons, Int.toNat_natCast]; exact ih _
theorem impl_gcd {xs : List Int} (h : ∀ x ∈ xs, inR x = true) : m_impl_gcd xs = some ((gcdL xs : Nat) : Int) := by
  unfold m_impl_gcd
  rw [forL_fold (fun (d : Int) x => ((Nat.gcd d.toNat x.natAbs : Nat) : Int)) (fun _ d => 0 ≤ d) xs 0 0 (Int.le_refl 0) (fun n x d hx hd => by
    have hr := inR_iff.1 (h x (List.mem_of_getElem? hx))
    unfold m_impl_gcd_L0 m_impl_absolute
    rw [Option.bind_some, w64_eq (by omega), show max x (0 - x) = ((x.natAbs : Nat) : Int) by omega, show d = ((d.toNat : Nat) : Int) by omega, impl_euclid, Option.bind_some]
    exact ⟨by rw [Int.toNat_natCast]; rfl, by omega⟩), Option.bind_some]
  have := foldl_cast xs 0
  exact congrArg some this
theorem spec_gcd {t : Term} (h : ∀ x ∈ t.Coeffs, inR x = true) (hl : t.Coeffs.length ≤ 1048576) : m_spec_l02Divisor t = some ((gcdL t.Coeffs : Nat) : Int) := by
  have h2 := iter_for (step := m_spec_l02Divisor_L0 t) t.Coeffs (fun n (d : Nat) => ((d : Int), (n : Int))) (fun n x d => some (.next (Nat.gcd d x.natAbs))) (fun d => ((d : Nat) : Int))
    (fun n x d hx => by
      have hr := inR_iff.1 (h x (List.mem_of_getElem? hx))
      unfold m_spec_l02Divisor_L0 m_spec_l00Max
      simp only
      rw [dec_lt (get_lt hx), cond_true, getI_some hx, Option.bind_some, w64_eq (n := 0 - x) (by omega)]
      have e : (bif decide (0 - x < x) then some x else some (0 - x)) = some ((x.natAbs : Nat) : Int) := by
        by_cases h : 0 - x < x
        · rw [decide_eq_true h, cond_true, show ((x.natAbs : Nat) : Int) = x by omega]
        · rw [decide_eq_false h, cond_false, show ((x.natAbs : Nat) : Int) = 0 - x by omega]
      rw [e, Option.bind_some, spec_euclid, Option.bind_some]
      unfold m_spec_l02Divisor_A1
      simp only
      rw [w64_succ (by have := get_lt hx; omega)]; rfl)
    (fun r => by unfold m_spec_l02Divisor_L0; simp only; rw [dec_self]; rfl) 0
  rw [forL_fold (fun (d : Nat) x => Nat.gcd d x.natAbs) (fun _ _ => True) t.Coeffs 0 0 trivial (fun n x d hx _ => ⟨rfl, trivial⟩)] at h2
  unfold m_spec_l02Divisor
  rw [show ((0 : Int), (0 : Int)) = (((0 : Nat) : Int), ((0 : Nat) : Int)) from rfl, h2]
  rfl
theorem foldl_dvd (xs : List Int) : ∀ (d : Nat), (xs.foldl (fun d x => Nat.gcd d x.natAbs) d) ∣ d ∧ ∀ x ∈ xs, (xs.foldl (fun d x => Nat.gcd d x.natAbs) d) ∣ x.natAbs := by
  induction xs with
  | nil => intro d; exact ⟨Nat.dvd_refl d, fun x h => by cases h⟩
  | cons y r ih =>
    intro d
    obtain ⟨h1, h2⟩ := ih (Nat.gcd d y.natAbs)
    simp only [List.foldl_cons]
    refine ⟨Nat.dvd_trans h1 (Nat.gcd_dvd_left _ _), fun x hx => ?_⟩
    rcases List.mem_cons.1 hx with rfl | hx
    · exact Nat.dvd_trans h1 (Nat.gcd_dvd_right _ _)
    · exact h2 x hx
theorem gcdL_dvd {xs : List Int} {x : Int} (h : x ∈ xs) : gcdL xs ∣ x.natAbs := (foldl_dvd xs 0).2 x h
theorem tdiv_rng {x : Int} {d : Nat} (hd : 2 ≤ d) (h : inR x = true) : inR (x.tdiv d) = true ∧ -500000 ≤ x.tdiv d ∧ x.tdiv d ≤ 500000 := by
  have hr := inR_iff.1 h
  have key : ∀ n : Nat, n ≤ 1000000 → n / d ≤ 500000 := by
    intro n hn
    rw [Nat.div_le_iff_le_mul_add_pred (by omega)]
    have : d * 500000 ≥ 2 * 500000 := Nat.mul_le_mul_right _ hd
    omega
  have : -500000 ≤ x.tdiv d ∧ x.tdiv d ≤ 500000 := by
    rcases Int.le_total 0 x with h0 | h0
    · obtain ⟨n, rfl⟩ := Int.eq_ofNat_of_zero_le h0
      have := key n (by omega)
      rw [show ((n : Int).tdiv (d : Int)) = ((n / d : Nat) : Int) from rfl]
      generalize n / d = q at this ⊢
      omega
    · obtain ⟨n, hn⟩ := Int.eq_ofNat_of_zero_le (show 0 ≤ -x by omega)
      have := key n (by omega)
      have e : x.tdiv d = -((n / d : Nat) : Int) := by
        rw [show x = -(n : Int) by omega, Int.neg_tdiv]; rfl
      rw [e]
      generalize n / d = q at this ⊢
      omega
  exact ⟨inR_iff.2 (by omega), this⟩
theorem tdiv_ne {x : Int} {d : Nat} (hd : 0 < d) (hx : x ≠ 0) (h : d ∣ x.natAbs) : x.tdiv d ≠ 0 := by
  obtain ⟨k, hk⟩ := h
  intro h0
  have h1 : (x.tdiv d) * d = x := Int.tdiv_mul_cancel (Int.natAbs_dvd_natAbs.1 (by simpa using ⟨k, hk⟩))
  rw [h0, Int.zero_mul] at h1
  exact hx h1.symm
theorem quo_nat {x : Int} {d : Nat} (hd : 2 ≤ d) (h : inR x = true) : quoI x (d : Int) = some (x.tdiv d) := by
  have := (tdiv_rng hd h).2
  unfold quoI
  rw [decide_eq_false (by omega), cond_false, w64_eq (by omega)]
def quos (xs : List Int) (d : Nat) : List Int := xs.map fun x => x.tdiv d
def flo (c : Int) (d : Nat) : Int := if c.tmod d < 0 then c.tdiv d - 1 else c.tdiv d
theorem flo_rng {c : Int} {d : Nat} (hd : 2 ≤ d) (h : inR c = true) : inR (flo c d) = true := by
  have := (tdiv_rng hd h).2
  unfold flo
  split <;> exact inR_iff.2 (by omega)
theorem trim_id {xs : List Int} (h : lastOK xs = true) : trim xs = xs := by
  unfold trim
  cases hn : xs.length with
  | zero => rw [List.length_eq_zero_iff.1 hn]; rfl
  | succ n =>
    have hl : xs.getLast? = xs[n]? := by rw [List.getLast?_eq_getElem?, hn]; rfl
    have hx : xs[n]? = some xs[n] := by simp
    unfold lastOK at h
    rw [hl, hx] at h
    simp at h
    unfold tl
    rw [if_neg (by rw [hx]; simpa using h), ← hn, List.take_length]
theorem quos_last {xs : List Int} {d : Nat} (hd : 0 < d) (h : lastOK xs = true) (hv : ∀ x ∈ xs, d ∣ x.natAbs) : lastOK (quos xs d) = true := by
  unfold lastOK quos at *
  rw [List.getLast?_map]
  cases hx : xs.getLast? with
  | none => rfl
  | some x =>
    rw [hx] at h
    simp at h
    have := tdiv_ne hd h (hv x (List.mem_of_getLast? hx))
    simpa using this
theorem vT_last {t : Term} (h : vT t = true) : lastOK t.Coeffs = true := by simp [vT] at h; exact h.1.2
theorem tight_valid {t : Term} (h : vT t = true) (hd : 2 ≤ gcdL t.Coeffs) : vT (Term.mk (flo t.Const (gcdL t.Coeffs)) (quos t.Coeffs (gcdL t.Coeffs))) = true := by
  have h1 := vT_len h
  have h2 := quos_last (d := gcdL t.Coeffs) (by omega) (vT_last h) (fun x hx => gcdL_dvd hx)
  have h3 := flo_rng hd (vT_const h)
  have h4 : (quos t.Coeffs (gcdL t.Coeffs)).all inR = true := by
    rw [List.all_eq_true]
    intro y hy
    obtain ⟨x, hx, rfl⟩ := List.mem_map.1 hy
    exact (tdiv_rng hd (vT_coef h x hx)).1
  unfold vT
  rw [h2, h3, h4]
  simp [quos, h1]
def fTight (t : Term) : Term × Bool :=
  bif vT t && decide (2 ≤ gcdL t.Coeffs) then (Term.mk (flo t.Const (gcdL t.Coeffs)) (quos t.Coeffs (gcdL t.Coeffs)), true) else (Term.mk 0 [], false)
theorem spec_quos {t : Term} {d : Nat} (hd : 2 ≤ d) (h : ∀ x ∈ t.Coeffs, inR x = true) (hl : t.Coeffs.length ≤ 1048576) : iter (m_spec_l02Tight_L0 t (d : Int)) ([], 0) = some (quos t.Coeffs d) := by
  have h2 := iter_for (step := m_spec_l02Tight_L0 t (d : Int)) t.Coeffs (fun n (s : List Int) => (s, (n : Int))) (fun n x s => (capI (s.length + 1) 8).bind fun _ => some (.next (s ++ [x.tdiv d]))) (fun s => s)
    (fun n x s hx => by
      unfold m_spec_l02Tight_L0
      simp only
      rw [dec_lt (get_lt hx), cond_true, getI_some hx, Option.bind_some, quo_nat hd (h x (List.mem_of_getElem? hx)), Option.bind_some]
      simp only [List.length_cons, List.length_nil, Nat.zero_add]
      cases capI (s.length + 1) 8 with
      | none => rfl
      | some u => simp only [Option.bind_some]; rw [w64_succ (by have := get_lt hx; omega)]; rfl)
    (fun r => by unfold m_spec_l02Tight_L0; simp only; rw [dec_self]; rfl) []
  rw [forL_fold (fun s x => s ++ [x.tdiv d]) (fun k s => s.length = k) t.Coeffs 0 [] rfl (fun n x s hx hs => by
    have := get_lt hx
    rw [capI_some (by omega), Option.bind_some]
    exact ⟨rfl, by simp [hs]⟩)] at h2
  rw [show (([] : List Int), (0 : Int)) = ([], ((0 : Nat) : Int)) from rfl, h2]
  congr 1
  have : ∀ (xs s : List Int), xs.foldl (fun s x => s ++ [x.tdiv d]) s = s ++ xs.map fun x => x.tdiv d := by
    intro xs
    induction xs with
    | nil => intro s; simp
    | cons x r ih => intro s; simp [ih]
  exact this t.Coeffs []
theorem impl_quos {t : Term} {d : Nat} (hd : 2 ≤ d) (h : ∀ x ∈ t.Coeffs, inR x = true) (hl : t.Coeffs.length ≤ 1048576) : iter (m_impl_Term_tightened_L0 (d : Int) t) (t.Coeffs, 0) = some (quos t.Coeffs d) := by
  have key : ∀ (m n : Nat), n + m = t.Coeffs.length → iter (m_impl_Term_tightened_L0 (d : Int) t) (quos (t.Coeffs.take n) d ++ t.Coeffs.drop n, (n : Int)) = some (quos t.Coeffs d) := by
    intro m
    induction m with
    | zero =>
      intro n hn
      obtain rfl : n = t.Coeffs.length := by omega
      rw [iter_out (t := quos t.Coeffs d)]
      unfold m_impl_Term_tightened_L0
      simp only
      rw [dec_self, cond_false]
      simp
    | succ m ih =>
      intro n hn
      have hlt : n < t.Coeffs.length := by omega
      have hx : t.Coeffs[n]? = some t.Coeffs[n] := by simp
      have hql : (quos (t.Coeffs.take n) d).length = n := by unfold quos; simp; omega
      have hg : (quos (t.Coeffs.take n) d ++ t.Coeffs.drop n)[n]? = some t.Coeffs[n] := by
        rw [List.getElem?_append_right (by omega), hql, Nat.sub_self]; simp
      rw [iter_next (s' := (quos (t.Coeffs.take (n + 1)) d ++ t.Coeffs.drop (n + 1), ((n + 1 : Nat) : Int)))]
      · exact ih (n + 1) (by omega)
      · unfold m_impl_Term_tightened_L0
        simp only
        rw [dec_lt hlt, cond_true, getI_some hg, Option.bind_some, quo_nat hd (h _ (List.mem_of_getElem? hx)), Option.bind_some, w64_succ (by omega), Int.toNat_natCast]
        congr 3
        rw [List.set_append_right _ _ (by omega), hql, Nat.sub_self, List.drop_eq_getElem_cons hlt, List.set_cons_zero, List.take_add_one, hx, Option.toList_some, show ∀ ys, quos (ys ++ [t.Coeffs[n]]) d = quos ys d ++ [t.Coeffs[n].tdiv d] by intro ys; simp [quos], List.append_assoc]
        rfl
  have := key t.Coeffs.length 0 (by omega)
  simpa [quos] using this
theorem fTight_small (t : Term) : small (fTight t) := by
  unfold fTight small
  cases h : vT t && decide (2 ≤ gcdL t.Coeffs) with
  | false => exact Nat.zero_le _
  | true =>
    simp only [Bool.and_eq_true] at h
    have := vT_len h.1
    simp [cTerm, quos]; omega
theorem lin_succ {ts : List Term} {ms : List Int} {n : Nat} {t : Term} {m : Int} (h1 : ts[n]? = some t) (h2 : ms[n]? = some m) (g : Term → Int) :
    lin ts ms g (n + 1) = lin ts ms g n + m * g t := by
  unfold lin
  rw [show sumN (fun k => coef ms k * g (tAt ts k)) (n + 1) = sumN (fun k => coef ms k * g (tAt ts k)) n + coef ms n * g (tAt ts n) from rfl, coef_get h2]
  unfold tAt
  rw [h1]; rfl
def unitT (n : Nat) : Term := Term.mk 0 ((List.replicate (n + 1) 0).set n 1)
theorem unit_coef (n i : Nat) : coef (unitT n).Coeffs i = if i = n then 1 else 0 := by
  unfold coef unitT
  simp only [List.getElem?_set, List.length_replicate, List.getElem?_replicate]
  by_cases h : i = n
  · subst h; simp
  · rw [if_neg (Ne.symm h), if_neg h]
    by_cases h2 : i < n + 1
    · rw [if_pos h2]; rfl
    · rw [if_neg h2]; rfl
theorem unit_valid : ∀ n, n < 10 → vT (unitT n) = true := by decide
def subT (ps : List Term) (n : Nat) : Term := match ps[n]? with | some t => t | none => unitT n
theorem subT_valid {ps : List Term} (h : ps.all vT = true) {n : Nat} (hn : n < 10) : vT (subT ps n) = true := by
  unfold subT
  cases hx : ps[n]? with
  | none => exact unit_valid n hn
  | some t => exact List.all_eq_true.1 h t (List.mem_of_getElem? hx)
def subL (p : Term) (ps : List Term) (n : Nat) : List Term := Term.mk p.Const [] :: (List.range n).map (subT ps)
def subM (p : Term) : List Int := 1 :: p.Coeffs
theorem sub_lin {p : Term} {ps : List Term} (hp : vT p = true) (hs : ps.all vT = true) : Lin (subL p ps p.Coeffs.length) (subM p) := by
  have hl := vT_len hp
  refine ⟨fun t ht => ?_, fun m hm => ?_, by simp [subL]; omega, by simp [subL, subM]⟩
  · unfold subL at ht
    rcases List.mem_cons.1 ht with rfl | ht
    · exact vT_one _ (vT_const hp)
    · obtain ⟨i, hi, rfl⟩ := List.mem_map.1 ht
      exact subT_valid hs (by rw [List.mem_range] at hi; omega)
  · unfold subM at hm
    rcases List.mem_cons.1 hm with rfl | hm
    · unfold mOK; omega
    · exact inR_iff.1 (vT_coef hp m hm)
def fSub (p : Term) (ps : List Term) : Term × Bool :=
  bif vT p && ps.all vT && decide (ps.length ≤ 10) then
    chk (Term.mk (lin (subL p ps p.Coeffs.length) (subM p) Term.Const (p.Coeffs.length + 1)) (trim (tab fun i => lin (subL p ps p.Coeffs.length) (subM p) (fun t => coef t.Coeffs i) (p.Coeffs.length + 1)))) else (Term.mk 0 [], false)
theorem fSub_small (p : Term) (ps : List Term) : small (fSub p ps) := by
  unfold fSub
  cases vT p && ps.all vT && decide (ps.length ≤ 10)
  · exact Nat.zero_le _
  · exact chk_small _
def Src (s : l00Src) (k : Nat) : Prop := (∀ x ∈ s.code, 0 ≤ x ∧ x ≤ 255) ∧ s.code.length ≤ 1048576 ∧ 0 ≤ s.at_ ∧ s.at_ ≤ k
theorem Src.mono {s : l00Src} {k k' : Nat} (h : Src s k) (hk : k ≤ k') : Src s k' := ⟨h.1, h.2.1, h.2.2.1, by have := h.2.2.2; omega⟩
theorem and_rng (a : Int) : 0 ≤ andU 64 a 255 ∧ andU 64 a 255 ≤ 255 := by
  unfold andU
  have h : (BitVec.ofInt 64 a &&& BitVec.ofInt 64 255).toNat ≤ 255 := by
    rw [BitVec.toNat_and]
    have : (BitVec.ofInt 64 255).toNat = 255 := by decide
    rw [this]
    exact Nat.and_le_right
  generalize (BitVec.ofInt 64 a &&& BitVec.ofInt 64 255).toNat = q at h
  unfold wu
  omega
theorem next_ok {s : l00Src} {k : Nat} (h : Src s k) (hk : k ≤ 1000000000) : ∃ r s', m_spec_l00Src_next s = some (r, s') ∧ 0 ≤ r ∧ r ≤ 255 ∧ Src s' (k + 1) := by
  obtain ⟨h1, h2, h3, h4⟩ := h
  have hJ : ∀ j : Int, 0 ≤ j → j ≤ 255 → ∃ r s', m_spec_l00Src_next_J0 s j = some (r, s') ∧ 0 ≤ r ∧ r ≤ 255 ∧ Src s' (k + 1) := by
    intro j hj0 hj1
    unfold m_spec_l00Src_next_J0
    rw [w64_eq (n := s.at_ + 1) (by omega)]
    have hS : ∀ sd, Src (l00Src.mk s.code (s.at_ + 1) sd) (k + 1) := fun sd => ⟨h1, h2, by simp only; omega, by simp only; omega⟩
    by_cases hq : s.at_ + 1 ≤ (s.code.length : Int)
    · rw [decide_eq_true hq, cond_true]; exact ⟨_, _, rfl, hj0, hj1, hS _⟩
    · rw [decide_eq_false hq, cond_false]
      have := and_rng (Int.fdiv (wu 64 ((wu 64 ((wu 64 (s.seed * (6364136223846793005 : Int))) + (wu 64 j))) + (1442695040888963407 : Int))) (2 ^ 40))
      exact ⟨_, _, rfl, by rw [w64_eq (by omega)]; omega, by rw [w64_eq (by omega)]; omega, hS _⟩
  unfold m_spec_l00Src_next
  by_cases hq : s.at_ < (s.code.length : Int)
  · obtain ⟨n, hn⟩ := Int.eq_ofNat_of_zero_le h3
    have hlt : n < s.code.length := by omega
    have hx : s.code[n]? = some s.code[n] := by simp
    have hb := h1 _ (List.getElem_mem hlt)
    rw [decide_eq_true hq, cond_true, hn, getI_some hx, Option.bind_some, w64_eq (by omega)]
    exact hJ _ hb.1 hb.2
  · rw [decide_eq_false hq, cond_false]; exact hJ 0 (by omega) (by omega)
theorem pick_ok {s : l00Src} {k : Nat} {n : Int} (h : Src s k) (hk : k ≤ 100000000) (hn : n ≤ 200) : ∃ r s', m_spec_l00Src_pick s n = some (r, s') ∧ 0 ≤ r ∧ (r < n ∨ r = 0) ∧ Src s' (k + 1) := by
  unfold m_spec_l00Src_pick
  by_cases h1 : n ≤ 1
  · rw [decide_eq_true h1, cond_true]; exact ⟨_, _, rfl, by omega, .inr rfl, h.mono (by omega)⟩
  · rw [decide_eq_false h1, cond_false]
    obtain ⟨r, s', e1, e2, e3, e4⟩ := next_ok h (by omega)
    rw [e1, Option.bind_some, decide_eq_false (by omega), cond_false]
    simp only
    unfold remI
    rw [decide_eq_false (by omega), cond_false, Option.bind_some]
    exact ⟨_, _, rfl, Int.tmod_nonneg _ e2, .inl (Int.tmod_lt_of_pos _ (by omega)), e4⟩
theorem from_ok {code : List Int} (h1 : ∀ x ∈ code, 0 ≤ x ∧ x ≤ 255) (h2 : code.length ≤ 1048576) : m_spec_l00From code = some (l00Src.mk code 0 0) ∧ Src (l00Src.mk code 0 0) 0 :=
  ⟨rfl, h1, h2, Int.le_refl _, Int.le_refl _⟩
theorem at_ok {code : List Int} {i : Nat} {n : Int} (h1 : ∀ x ∈ code, 0 ≤ x ∧ x ≤ 255) (hi : i ≤ 1000000) (hn : 1 < n) : ∃ r, m_laws_b10At code (i : Int) n = some r ∧ 0 ≤ r ∧ r < n := by
  unfold m_laws_b10At
  rw [decide_eq_false (by omega), cond_false]
  by_cases h : i < code.length
  · have hx : code[i]? = some code[i] := by simp [h]
    have hb := h1 _ (List.getElem_mem h)
    rw [dec_lt h, cond_true, getI_some hx, Option.bind_some, w64_eq (by omega)]
    unfold remI
    rw [decide_eq_false (by omega), cond_false, Option.bind_some]
    exact ⟨_, rfl, Int.tmod_nonneg _ hb.1, Int.tmod_lt_of_pos _ (by omega)⟩
  · rw [dec_not_lt h, cond_false, w64_eq (n := (i : Int) * 37) (by omega), w64_eq (by omega)]
    unfold remI
    rw [decide_eq_false (by omega), cond_false, Option.bind_some]
    exact ⟨_, rfl, Int.tmod_nonneg _ (by omega), Int.tmod_lt_of_pos _ (by omega)⟩
theorem tl_last {xs : List Int} : ∀ n, n ≤ xs.length → lastOK (xs.take (tl xs n)) = true := by
  intro n
  induction n with
  | zero => intro _; rfl
  | succ n ih =>
    intro hn
    unfold tl
    split
    · exact ih (by omega)
    · rename_i h
      have hx : xs[n]? = some xs[n] := by simp
      unfold lastOK
      rw [List.getLast?_eq_getElem?]
      have hl : (xs.take (n + 1)).length = n + 1 := by simp; omega
      rw [hl, show n + 1 - 1 = n from rfl, List.getElem?_take, if_pos (by omega), hx]
      rw [hx] at h
      simpa using h
theorem trim_last (xs : List Int) : lastOK (trim xs) = true := tl_last _ (Nat.le_refl _)
theorem tl_zero {xs : List Int} : ∀ n, n ≤ xs.length → ∀ i, tl xs n ≤ i → i < n → coef xs i = 0 := by
  intro n
  induction n with
  | zero => intro _ i _ h; omega
  | succ n ih =>
    intro hn i h1 h2
    unfold tl at h1
    split at h1
    · rename_i h
      by_cases hi : i = n
      · subst hi; exact coef_get h
      · exact ih (by omega) i h1 (by omega)
    · omega
theorem trim_coef (xs : List Int) (i : Nat) : coef (trim xs) i = coef xs i := by
  unfold trim
  by_cases h : i < tl xs xs.length
  · unfold coef; rw [List.getElem?_take, if_pos h]
  · rw [coef_no (by simp; omega)]
    by_cases h2 : i < xs.length
    · rw [tl_zero xs.length (Nat.le_refl _) i (by omega) h2]
    · rw [coef_no (by omega)]
theorem tab_coef (f : Nat → Int) (i : Nat) : coef (tab f) i = if i < 10 then f i else 0 := by
  by_cases h : i < 10
  · rw [if_pos h, coef_get (tab_get h)]
  · rw [if_neg h, coef_no (by rw [tab_len]; omega)]
theorem last_coef {xs : List Int} (h : lastOK xs = true) (h0 : 0 < xs.length) : coef xs (xs.length - 1) ≠ 0 := by
  unfold lastOK at h
  rw [List.getLast?_eq_getElem?] at h
  have hx : xs[xs.length - 1]? = some (xs[xs.length - 1]'(by omega)) := by simp
  rw [hx] at h
  rw [coef_get hx]
  simpa using h
theorem coef_ext {xs ys : List Int} (hx : lastOK xs = true) (hy : lastOK ys = true) (h : ∀ i, coef xs i = coef ys i) : xs = ys := by
  have key : ∀ (xs ys : List Int), lastOK xs = true → (∀ i, coef xs i = coef ys i) → xs.length ≤ ys.length := by
    intro xs ys hx h
    apply Nat.le_of_not_lt
    intro hlt
    have := last_coef hx (by omega)
    rw [h, coef_no (by omega)] at this
    exact this rfl
  have hl : xs.length = ys.length := Nat.le_antisymm (key xs ys hx h) (key ys xs hy (fun i => (h i).symm))
  apply List.ext_getElem hl
  intro i h1 h2
  have := h i
  rw [coef_get (show xs[i]? = some xs[i] by simp), coef_get (show ys[i]? = some ys[i] by simp)] at this
  exact this
theorem coef_ten {t : Term} (h : vT t = true) {i : Nat} (hi : 10 ≤ i) : coef t.Coeffs i = 0 := coef_no (by have := vT_len h; omega)
/-- A term made of a table. -/
def mkT (c : Int) (f : Nat → Int) : Term := Term.mk c (trim (tab f))
theorem mkT_coef (c : Int) (f : Nat → Int) (i : Nat) : coef (mkT c f).Coeffs i = if i < 10 then f i else 0 := by
  unfold mkT; rw [trim_coef, tab_coef]
theorem mkT_valid {c : Int} {f : Nat → Int} (hc : -1000000 ≤ c ∧ c ≤ 1000000) (hf : ∀ i, i < 10 → -1000000 ≤ f i ∧ f i ≤ 1000000) : vT (mkT c f) = true := by
  have h1 : (mkT c f).Coeffs.length ≤ 10 := by have := trim_len (tab f); rw [tab_len] at this; exact this
  have h2 : lastOK (mkT c f).Coeffs = true := trim_last _
  have h3 : (mkT c f).Coeffs.all inR = true := by
    rw [List.all_eq_true]
    intro x hx
    obtain ⟨i, hi⟩ := List.getElem?_of_mem hx
    have := mkT_coef c f i
    rw [coef_get hi] at this
    rw [this]
    have hlt := get_lt hi
    rw [if_pos (by omega)]
    exact inR_iff.2 (hf i (by omega))
  unfold vT
  rw [h2, h3, inR_iff.2 (show -1000000 ≤ (mkT c f).Const ∧ (mkT c f).Const ≤ 1000000 from hc)]
  simp [h1]
theorem mkT_chk {c : Int} {f : Nat → Int} (hc : -1000000 ≤ c ∧ c ≤ 1000000) (hf : ∀ i, i < 10 → -1000000 ≤ f i ∧ f i ≤ 1000000) : chk (Term.mk c (trim (tab f))) = (mkT c f, true) := by
  have := mkT_valid hc hf
  unfold chk
  rw [show Term.mk c (trim (tab f)) = mkT c f from rfl, this]; rfl
theorem mkT_self {t : Term} (h : vT t = true) : mkT t.Const (fun i => coef t.Coeffs i) = t := by
  have : trim (tab fun i => coef t.Coeffs i) = t.Coeffs := coef_ext (trim_last _) (vT_last h) (fun i => by
    rw [trim_coef, tab_coef]
    by_cases hi : i < 10
    · rw [if_pos hi]
    · rw [if_neg hi, coef_ten h (by omega)])
  unfold mkT
  rw [this]
theorem mkT_ext {t : Term} {c : Int} {f : Nat → Int} (h : vT t = true) (hc : c = t.Const) (hf : ∀ i, i < 10 → f i = coef t.Coeffs i) : mkT c f = t := by
  rw [← mkT_self h]
  unfold mkT tab
  subst hc
  congr 2
  apply List.map_congr_left
  intro i hi
  exact hf i (by simpa using hi)
theorem sumN_congr {f g : Nat → Int} : ∀ n, (∀ i, i < n → f i = g i) → sumN f n = sumN g n := by
  intro n
  induction n with
  | zero => intro _; rfl
  | succ n ih => intro h; unfold sumN; rw [ih (fun i hi => h i (by omega)), h n (by omega)]
theorem sumN_neg (f : Nat → Int) : ∀ n, sumN (fun i => -f i) n = -sumN f n := by
  intro n
  induction n with
  | zero => rfl
  | succ n ih => unfold sumN; rw [ih]; omega
theorem sumN_add (f g : Nat → Int) : ∀ n, sumN (fun i => f i + g i) n = sumN f n + sumN g n := by
  intro n
  induction n with
  | zero => rfl
  | succ n ih => unfold sumN; rw [ih]; omega
theorem sumN_mul (c : Int) (f : Nat → Int) : ∀ n, sumN (fun i => c * f i) n = c * sumN f n := by
  intro n
  induction n with
  | zero => simp [sumN]
  | succ n ih => unfold sumN; rw [ih, Int.mul_add]
theorem sumN_zero : ∀ n, sumN (fun _ => 0) n = 0 := by
  intro n
  induction n with
  | zero => rfl
  | succ n ih => unfold sumN; rw [ih]; rfl
theorem sumN_stop {f : Nat → Int} {n : Nat} (h : ∀ i, n ≤ i → f i = 0) : ∀ m, n ≤ m → sumN f m = sumN f n := by
  intro m
  induction m with
  | zero => intro hm; rw [show n = 0 by omega]
  | succ m ih =>
    intro hm
    by_cases e : n = m + 1
    · rw [e]
    · rw [show sumN f (m + 1) = sumN f m + f m from rfl, ih (by omega), h m (by omega)]; omega
/-- A term's value. -/
def val (t : Term) (v : List Int) : Int := t.Const + sumN (fun i => coef t.Coeffs i * coef v i) 10
def Vals (v : List Int) : Prop := v.length = 10 ∧ ∀ x ∈ v, -6 ≤ x ∧ x ≤ 6
theorem Vals.coef {v : List Int} (h : Vals v) (i : Nat) : -6 ≤ coef v i ∧ coef v i ≤ 6 := by
  unfold Mod.coef
  cases hx : v[i]? with
  | none => simp
  | some x => exact h.2 x (List.mem_of_getElem? hx)
theorem value_ok {t : Term} {v : List Int} (ht : vT t = true) (hv : Vals v) : m_laws_b10Value t v = some (val t v) := by
  have hl := vT_len ht
  have hp : ∀ i, -6000000 ≤ coef t.Coeffs i * coef v i ∧ coef t.Coeffs i * coef v i ≤ 6000000 := by
    intro i
    have h1 := coef_rng ht i
    have h2 := hv.coef i
    have := prod_rng h1.1 h1.2 h2.1 h2.2
    omega
  have hsum := sumN_rng (f := fun i => coef t.Coeffs i * coef v i) (B := 6000000) hp
  have hc := const_rng ht
  have key : ∀ (m n : Nat), n + m = t.Coeffs.length → iter (m_laws_b10Value_L0 t v) (t.Const + sumN (fun i => coef t.Coeffs i * coef v i) n, (n : Int)) = some (val t v) := by
    intro m
    induction m with
    | zero =>
      intro n hn
      obtain rfl : n = t.Coeffs.length := by omega
      refine iter_out ?_
      unfold m_laws_b10Value_L0
      simp only
      rw [dec_self, Bool.false_and, cond_false]
      unfold val
      rw [sumN_stop (n := t.Coeffs.length) (fun i hi => by rw [coef_no hi, Int.zero_mul]) 10 hl]
    | succ m ih =>
      intro n hn
      have hlt : n < t.Coeffs.length := by omega
      have hltv : n < v.length := by rw [hv.1]; omega
      have hx : t.Coeffs[n]? = some t.Coeffs[n] := by simp
      have hy : v[n]? = some v[n] := by simp
      have hs := hsum n
      have hpn := hp n
      rw [iter_next (s' := (t.Const + sumN (fun i => coef t.Coeffs i * coef v i) (n + 1), ((n + 1 : Nat) : Int)))]
      · exact ih (n + 1) (by omega)
      · unfold m_laws_b10Value_L0
        simp only
        rw [dec_lt hlt, dec_lt hltv, Bool.true_and, cond_true, getI_some hx, Option.bind_some, getI_some hy, Option.bind_some, w64_succ (by omega)]
        rw [coef_get hx, coef_get hy] at hpn
        rw [w64_eq (n := t.Coeffs[n] * v[n]) (by omega), w64_eq (by omega), sumN, coef_get hx, coef_get hy, Int.add_assoc]
  unfold m_laws_b10Value
  have := key t.Coeffs.length 0 (by omega)
  rw [show t.Const + sumN (fun i => coef t.Coeffs i * coef v i) 0 = t.Const by simp [sumN]] at this
  rw [show (0 : Int) = ((0 : Nat) : Int) from rfl, this]; rfl
structure Small (t : Term) : Prop where
  v : vT t = true
  c : -7 ≤ t.Const ∧ t.Const ≤ 7
  f : ∀ i, -4 ≤ coef t.Coeffs i ∧ coef t.Coeffs i ≤ 4
theorem list_coef {xs : List Int} {a b : Int} (h : ∀ x ∈ xs, a ≤ x ∧ x ≤ b) (h0 : a ≤ 0 ∧ 0 ≤ b) (i : Nat) : a ≤ coef xs i ∧ coef xs i ≤ b := by
  unfold coef
  cases hx : xs[i]? with
  | none => simpa using h0
  | some x => exact h x (List.mem_of_getElem? hx)
theorem values_ok {code : List Int} (h1 : ∀ x ∈ code, 0 ≤ x ∧ x ≤ 255) (h2 : code.length ≤ 1048576) : ∃ v, m_spec_B10Values code = some v ∧ Vals v := by
  unfold m_spec_B10Values
  obtain ⟨e0, hS0⟩ := from_ok h1 h2
  rw [e0, Option.bind_some]
  simp only
  obtain ⟨u, eu, hu⟩ := iter_inv (step := m_spec_B10Values_L0)
    (fun s => Src (l00Src.mk s.1 s.2.1 s.2.2.1) s.2.2.2.1.length ∧ s.2.2.2.2 = (s.2.2.2.1.length : Int) ∧ s.2.2.2.1.length ≤ 10 ∧ ∀ x ∈ s.2.2.2.1, -6 ≤ x ∧ x ≤ 6)
    (fun s => 10 - s.2.2.2.1.length) Vals
    (fun ⟨c, a, sd, xs, n⟩ ⟨i1, i2, i3, i4⟩ => by
      simp only at i1 i2 i3 i4
      unfold m_spec_B10Values_L0
      simp only
      by_cases hn : n < 10
      · left
        obtain ⟨r, s', e, r1, r2, hS⟩ := pick_ok (n := 13) i1 (by omega) (by omega)
        rw [decide_eq_true hn, cond_true, e, Option.bind_some, capI_some (by simp; omega), Option.bind_some, w64_eq (n := r - 6) (by omega), w64_eq (n := n + 1) (by omega)]
        refine ⟨_, rfl, ⟨?_, by simp; omega, by simp; omega, ?_⟩, by simp; omega⟩
        · simp only [List.length_append, List.length_cons, List.length_nil]; exact hS
        · intro x hx
          simp only [List.mem_append, List.mem_singleton] at hx
          rcases hx with hx | rfl
          · exact i4 x hx
          · omega
      · right
        rw [decide_eq_false hn, cond_false]
        exact ⟨_, rfl, by omega, i4⟩)
    (s := (code, 0, 0, [], 0)) ⟨hS0, rfl, by simp, by simp⟩
  rw [eu, Option.bind_some]
  exact ⟨_, rfl, hu⟩
theorem long_no {a b : List Int} (h1 : a.length ≤ 1048576) (h2 : b.length ≤ 1048576) : m_laws_b10Long a b = some false := by
  unfold m_laws_b10Long
  rw [decide_eq_false (by omega), decide_eq_false (by omega)]; rfl
theorem long_yes {a b : List Int} (h : ¬ (a.length ≤ 1048576 ∧ b.length ≤ 1048576)) : m_laws_b10Long a b = some true := by
  unfold m_laws_b10Long
  by_cases h1 : a.length ≤ 1048576
  · rw [decide_eq_false (show ¬ (1048576 : Int) < (a.length : Int) by omega), decide_eq_true (show (1048576 : Int) < (b.length : Int) by omega)]; rfl
  · rw [decide_eq_true (show (1048576 : Int) < (a.length : Int) by omega)]; rfl
theorem fOpp_ok {t : Term} (h : vT t = true) (hc : -999999 ≤ t.Const ∧ t.Const ≤ 999999) : fOpp t = (mkT (-t.Const - 1) (fun i => -coef t.Coeffs i), true) := by
  unfold fOpp
  rw [h, cond_true]
  exact mkT_chk (by omega) (fun i _ => by have := coef_rng h i; omega)
theorem val_mkT (c : Int) (f : Nat → Int) (v : List Int) : val (mkT c f) v = c + sumN (fun i => f i * coef v i) 10 := by
  unfold val
  rw [sumN_congr (g := fun i => f i * coef v i) 10 (fun i hi => by rw [mkT_coef, if_pos hi])]
  rfl
theorem slices_eq {xs ys : List Int} : m_slices_Equal_int64_int64 xs ys = some (decide (xs = ys)) := by
  unfold m_slices_Equal_int64_int64
  by_cases h : xs.length = ys.length
  · rw [decide_eq_true (by omega), Bool.not_true, cond_false]
    have key : ∀ (as : List Int) (k : Nat), k + as.length = ys.length →
        forL (m_slices_Equal_int64_int64_L0 ys) (fun s0 => (Sum.inl ())) k as () = some (if as = ys.drop k then .inl () else .inr false) := by
      intro as
      induction as with
      | nil => intro k hk; rw [if_pos (by rw [List.drop_eq_nil_of_le (by simp at hk; omega)])]; rfl
      | cons a r ih =>
        intro k hk
        simp only [List.length_cons] at hk
        have hlt : k < ys.length := by omega
        rw [List.drop_eq_getElem_cons hlt]
        unfold forL m_slices_Equal_int64_int64_L0
        rw [getI_some (show ys[k]? = some ys[k] by simp), Option.bind_some]
        by_cases ha : a = ys[k]
        · rw [decide_eq_true ha, Bool.not_true, cond_false]
          have := ih (k + 1) (by omega)
          simp only
          refine Eq.trans this ?_
          congr 1
          by_cases h2 : r = ys.drop (k + 1)
          · rw [if_pos h2, if_pos (by rw [h2, ha])]
          · rw [if_neg h2, if_neg (fun e => h2 (List.cons.inj e).2)]
        · rw [decide_eq_false ha, Bool.not_false, cond_true, if_neg (fun e => ha (List.cons.inj e).1)]
    rw [key xs 0 (by omega), Option.bind_some, List.drop_zero]
    by_cases e : xs = ys
    · rw [if_pos e, decide_eq_true e]; rfl
    · rw [if_neg e, decide_eq_false e]; rfl
  · rw [decide_eq_false (by omega), decide_eq_false (fun e => h (by rw [e]))]; rfl
theorem dvd_foldl {k : Nat} : ∀ (xs : List Int) (d : Nat), k ∣ d → (∀ x ∈ xs, k ∣ x.natAbs) → k ∣ xs.foldl (fun d x => Nat.gcd d x.natAbs) d := by
  intro xs
  induction xs with
  | nil => intro d h _; exact h
  | cons x r ih => intro d h hx; exact ih _ (Nat.dvd_gcd h (hx x (by simp))) (fun y hy => hx y (by simp [hy]))
theorem dvd_gcdL {k : Nat} {xs : List Int} (h : ∀ x ∈ xs, k ∣ x.natAbs) : k ∣ gcdL xs := dvd_foldl xs 0 (Nat.dvd_zero k) h
theorem quo_mul {x : Int} {d : Nat} (h : d ∣ x.natAbs) : x.tdiv d * d = x := Int.tdiv_mul_cancel (Int.natAbs_dvd_natAbs.1 (by simpa using h))
theorem gcd_quos {xs : List Int} {d : Nat} (hd : 0 < d) (hg : gcdL xs = d) : gcdL (quos xs d) ≤ 1 := by
  have h1 : gcdL (quos xs d) * d ∣ gcdL xs := dvd_gcdL (fun x hx => by
    have h2 : gcdL (quos xs d) ∣ (x.tdiv d).natAbs := gcdL_dvd (List.mem_map.2 ⟨x, hx, rfl⟩)
    have h3 : d ∣ x.natAbs := by rw [← hg]; exact gcdL_dvd hx
    have h4 := quo_mul h3
    have h5 : x.natAbs = (x.tdiv d).natAbs * d := by
      have := congrArg Int.natAbs h4
      rw [Int.natAbs_mul] at this
      simpa using this.symm
    rw [h5]
    exact Nat.mul_dvd_mul_right h2 d)
  rw [hg] at h1
  have h6 := Nat.le_of_dvd hd h1
  apply Nat.le_of_not_lt
  intro hlt
  have : 2 * d ≤ gcdL (quos xs d) * d := Nat.mul_le_mul_right d hlt
  omega
theorem quos_coef {xs : List Int} {d : Nat} (h : ∀ x ∈ xs, d ∣ x.natAbs) (i : Nat) : coef xs i = (d : Int) * coef (quos xs d) i := by
  unfold coef quos
  rw [List.getElem?_map]
  cases hx : xs[i]? with
  | none => simp
  | some x =>
    have := quo_mul (h x (List.mem_of_getElem? hx))
    simp only [Option.getD_some, Option.map_some]
    rw [Int.mul_comm]; exact this.symm
theorem flo_spec (c : Int) {d : Nat} (hd : 0 < d) : (d : Int) * flo c d ≤ c ∧ c < (d : Int) * flo c d + d := by
  have h1 := Int.mul_tdiv_add_tmod c (d : Int)
  have h2 := Int.tmod_lt_of_pos c (show (0 : Int) < d by omega)
  have h3 : -(d : Int) < c.tmod d := by
    have := Int.tmod_lt_of_pos (-c) (show (0 : Int) < d by omega)
    rw [Int.neg_tmod] at this
    omega
  unfold flo
  split
  · rw [Int.mul_sub, Int.mul_one]; omega
  · omega
theorem sign_flo {c S : Int} {d : Nat} (hd : 0 < d) : (0 ≤ flo c d + S) ↔ (0 ≤ c + (d : Int) * S) := by
  obtain ⟨h1, h2⟩ := flo_spec c hd
  have e : (d : Int) * (flo c d + S) = (d : Int) * flo c d + d * S := Int.mul_add _ _ _
  constructor
  · intro h
    have := Int.mul_nonneg (show (0 : Int) ≤ d by omega) h
    omega
  · intro h
    apply Int.not_lt.1
    intro hlt
    have := Int.mul_le_mul_of_nonneg_left (show flo c d + S ≤ -1 by omega) (show (0 : Int) ≤ d by omega)
    rw [Int.mul_neg, Int.mul_one] at this
    omega
theorem fTight_val {t : Term} {v : List Int} (h : vT t = true) (hd : 2 ≤ gcdL t.Coeffs) : (0 ≤ val (Term.mk (flo t.Const (gcdL t.Coeffs)) (quos t.Coeffs (gcdL t.Coeffs))) v) ↔ (0 ≤ val t v) := by
  unfold val
  simp only
  rw [sign_flo (d := gcdL t.Coeffs) (by omega), ← sumN_mul]
  rw [sumN_congr (f := fun i => (gcdL t.Coeffs : Int) * (coef (quos t.Coeffs (gcdL t.Coeffs)) i * coef v i)) (g := fun i => coef t.Coeffs i * coef v i) 10 (fun i _ => by
    rw [quos_coef (d := gcdL t.Coeffs) (fun x hx => gcdL_dvd hx) i, Int.mul_assoc])]
theorem sumN_shift (f : Nat → Int) : ∀ n, sumN f (n + 1) = f 0 + sumN (fun i => f (i + 1)) n := by
  intro n
  induction n with
  | zero => simp [sumN]
  | succ n ih => rw [show sumN f (n + 1 + 1) = sumN f (n + 1) + f (n + 1) from rfl, ih, show sumN (fun i => f (i + 1)) (n + 1) = sumN (fun i => f (i + 1)) n + f (n + 1) from rfl]; omega
theorem lin_cons (t : Term) (ts : List Term) (m : Int) (ms : List Int) (g : Term → Int) (n : Nat) : lin (t :: ts) (m :: ms) g (n + 1) = m * g t + lin ts ms g n := by
  unfold lin
  rw [sumN_shift]
  rfl
/-- The value of a sum of multiples is the sum of the multiples of the values. -/
theorem val_lin (ts : List Term) (ms : List Int) (v : List Int) : ∀ n, lin ts ms Term.Const n + sumN (fun i => lin ts ms (fun t => coef t.Coeffs i) n * coef v i) 10 = lin ts ms (fun t => val t v) n := by
  intro n
  induction n with
  | zero => simp [lin, sumN]
  | succ n ih =>
    have e : ∀ g : Term → Int, lin ts ms g (n + 1) = lin ts ms g n + coef ms n * g (tAt ts n) := fun g => rfl
    simp only [e]
    rw [← ih]
    have e2 : sumN (fun i => (lin ts ms (fun t => coef t.Coeffs i) n + coef ms n * coef (tAt ts n).Coeffs i) * coef v i) 10 =
        sumN (fun i => lin ts ms (fun t => coef t.Coeffs i) n * coef v i) 10 + coef ms n * sumN (fun i => coef (tAt ts n).Coeffs i * coef v i) 10 := by
      rw [← sumN_mul, ← sumN_add]
      exact sumN_congr 10 (fun i _ => by rw [Int.add_mul, Int.mul_assoc])
    rw [e2]
    unfold val
    rw [Int.mul_add]
    omega
theorem val_mkT_lin (ts : List Term) (ms : List Int) (v : List Int) (n : Nat) : val (mkT (lin ts ms Term.Const n) (fun i => lin ts ms (fun t => coef t.Coeffs i) n)) v = lin ts ms (fun t => val t v) n := by
  rw [val_mkT]; exact val_lin ts ms v n
theorem prod_small {a b : Int} {A B : Int} (h1 : -A ≤ a ∧ a ≤ A) (h2 : -B ≤ b ∧ b ≤ B) : -(A * B) ≤ a * b ∧ a * b ≤ A * B := prod_rng h1.1 h1.2 h2.1 h2.2
theorem val_small {t : Term} {v : List Int} (ht : Small t) (hv : Vals v) : -247 ≤ val t v ∧ val t v ≤ 247 := by
  have h := sumN_rng (f := fun i => coef t.Coeffs i * coef v i) (B := 24) (fun i => by have := prod_small (A := 4) (B := 6) (ht.f i) (hv.coef i); omega) 10
  have := ht.c
  unfold val
  omega
theorem values_yes {v : List Int} (hv : Vals v) : m_impl_areValues v = some true := by
  unfold m_impl_areValues
  rw [decide_eq_true (by have := hv.1; omega), cond_true, impl_all, Option.bind_some]
  congr 1
  rw [List.all_eq_true]
  intro x hx
  have := hv.2 x hx
  rw [decide_eq_true (by omega), decide_eq_true (by omega)]; rfl
theorem sub_form (t : Term) (ps : List Term) (g : Term → Int) : lin (subL t ps t.Coeffs.length) (subM t) g (t.Coeffs.length + 1) = g (Term.mk t.Const []) + sumN (fun i => coef t.Coeffs i * g (subT ps i)) t.Coeffs.length := by
  unfold subL subM
  rw [lin_cons, Int.one_mul]
  congr 1
  unfold lin
  refine sumN_congr _ (fun i hi => ?_)
  unfold tAt
  rw [List.getElem?_map, List.getElem?_range hi]
  rfl
theorem val_unit (i : Nat) (v : List Int) (hi : i < 10) : val (unitT i) v = coef v i := by
  unfold val
  simp only [unit_coef]
  have : ∀ n, sumN (fun j => (if j = i then 1 else 0) * coef v j) n = if i < n then coef v i else 0 := by
    intro n
    induction n with
    | zero => simp [sumN]
    | succ n ih =>
      unfold sumN
      rw [ih]
      by_cases h1 : n = i
      · subst h1; simp
      · rw [if_neg h1]
        by_cases h2 : i < n
        · rw [if_pos h2, if_pos (by omega)]; omega
        · rw [if_neg h2, if_neg (by omega)]; omega
  rw [this, if_pos hi]
  show 0 + _ = _
  omega
theorem sub_val {t p : Term} {v : List Int} (ht : Small t) (hp : Small p) (hv : Vals v) :
    fSub t [p] = (mkT (lin (subL t [p] t.Coeffs.length) (subM t) Term.Const (t.Coeffs.length + 1)) (fun i => lin (subL t [p] t.Coeffs.length) (subM t) (fun t => coef t.Coeffs i) (t.Coeffs.length + 1)), true) ∧
    vT (mkT (lin (subL t [p] t.Coeffs.length) (subM t) Term.Const (t.Coeffs.length + 1)) (fun i => lin (subL t [p] t.Coeffs.length) (subM t) (fun t => coef t.Coeffs i) (t.Coeffs.length + 1))) = true ∧
    val (mkT (lin (subL t [p] t.Coeffs.length) (subM t) Term.Const (t.Coeffs.length + 1)) (fun i => lin (subL t [p] t.Coeffs.length) (subM t) (fun t => coef t.Coeffs i) (t.Coeffs.length + 1))) v =
      val t v - coef t.Coeffs 0 * coef v 0 + coef t.Coeffs 0 * val p v := by
  have hl := vT_len ht.v
  have hs0 : subT [p] 0 = p := rfl
  have hsn : ∀ i, i ≠ 0 → subT [p] i = unitT i := by
    intro i hi
    unfold subT
    cases i with
    | zero => exact absurd rfl hi
    | succ i => rfl
  have hB : ∀ g : Term → Int, (-7 ≤ g p ∧ g p ≤ 7) → (∀ i, -1 ≤ g (unitT i) ∧ g (unitT i) ≤ 1) → ∀ n : Nat, n ≤ 10 → -280 ≤ sumN (fun i => coef t.Coeffs i * g (subT [p] i)) n ∧ sumN (fun i => coef t.Coeffs i * g (subT [p] i)) n ≤ 280 := by
    intro g h1 h2 n hn
    have := sumN_rng (f := fun i => coef t.Coeffs i * g (subT [p] i)) (B := 28) (fun i => by
      have h3 : -7 ≤ g (subT [p] i) ∧ g (subT [p] i) ≤ 7 := by
        by_cases hi : i = 0
        · subst hi; exact h1
        · rw [hsn i hi]; have := h2 i; omega
      have := prod_small (A := 4) (B := 7) (ht.f i) h3
      omega) n
    omega
  have hC : -1000000 ≤ lin (subL t [p] t.Coeffs.length) (subM t) Term.Const (t.Coeffs.length + 1) ∧ lin (subL t [p] t.Coeffs.length) (subM t) Term.Const (t.Coeffs.length + 1) ≤ 1000000 := by
    rw [sub_form]
    have h1 := hB Term.Const hp.c (fun i => by show -1 ≤ (0 : Int) ∧ (0 : Int) ≤ 1; omega) _ hl
    have h2 := ht.c
    simp only
    omega
  have hF : ∀ i, i < 10 → -1000000 ≤ lin (subL t [p] t.Coeffs.length) (subM t) (fun t => coef t.Coeffs i) (t.Coeffs.length + 1) ∧ lin (subL t [p] t.Coeffs.length) (subM t) (fun t => coef t.Coeffs i) (t.Coeffs.length + 1) ≤ 1000000 := by
    intro i _
    rw [sub_form]
    have h1 := hB (fun t => coef t.Coeffs i) (by have := hp.f i; omega) (fun j => by rw [unit_coef]; split <;> omega) _ hl
    simp only [coef_nil]
    omega
  refine ⟨?_, mkT_valid hC hF, ?_⟩
  · unfold fSub
    rw [ht.v, show [p].all vT = true by simp [hp.v]]
    exact mkT_chk hC hF
  · rw [val_mkT_lin, sub_form]
    have e0 : val (Term.mk t.Const []) v = t.Const := by
      unfold val
      simp only [coef_nil, Int.zero_mul, sumN_zero, Int.add_zero]
    rw [e0]
    by_cases hz : t.Coeffs.length = 0
    · have : t.Coeffs = [] := List.length_eq_zero_iff.1 hz
      unfold val
      rw [this]
      simp only [coef_nil, Int.zero_mul, sumN_zero, List.length_nil, sumN]
      omega
    · have e1 : sumN (fun i => coef t.Coeffs i * val (subT [p] i) v) t.Coeffs.length = sumN (fun i => coef t.Coeffs i * coef v i) t.Coeffs.length + (coef t.Coeffs 0 * val p v - coef t.Coeffs 0 * coef v 0) := by
        obtain ⟨k, hk⟩ : ∃ k, t.Coeffs.length = k + 1 := ⟨t.Coeffs.length - 1, by omega⟩
        rw [hk, sumN_shift, sumN_shift, hs0]
        rw [sumN_congr (f := fun i => coef t.Coeffs (i + 1) * val (subT [p] (i + 1)) v) (g := fun i => coef t.Coeffs (i + 1) * coef v (i + 1)) k (fun i hi => by rw [hsn (i + 1) (by omega), val_unit _ _ (by omega)])]
        omega
      rw [e1]
      unfold val
      rw [sumN_stop (f := fun i => coef t.Coeffs i * coef v i) (n := t.Coeffs.length) (fun i hi => by rw [coef_no hi, Int.zero_mul]) 10 hl]
      omega
structure Fact (t : Term) (c : Nat) : Prop where
  v : vT t = true
  c : -(c : Int) ≤ t.Const ∧ t.Const ≤ c
  f : ∀ i, -3 ≤ coef t.Coeffs i ∧ coef t.Coeffs i ≤ 3
theorem Fact.mono {t : Term} {c c' : Nat} (h : Fact t c) (hc : c ≤ c') : Fact t c' := ⟨h.v, by have := h.c; omega, h.f⟩
theorem facts_inner {s : l00Src} {k : Nat} {n : Int} (h : Src s k) (hk : k ≤ 1000000) (hn : 0 ≤ n ∧ n ≤ 3) :
    ∃ c a sd xs, iter m_spec_B10Facts_L1 (s.code, s.at_, s.seed, [], n) = some (c, a, sd, xs) ∧ Src (l00Src.mk c a sd) (k + 4) ∧ xs.length ≤ 3 ∧ ∀ x ∈ xs, -3 ≤ x ∧ x ≤ 3 := by
  obtain ⟨u, eu, hu⟩ := iter_inv (step := m_spec_B10Facts_L1)
    (fun s => Src (l00Src.mk s.1 s.2.1 s.2.2.1) (k + s.2.2.2.1.length) ∧ 0 ≤ s.2.2.2.2 ∧ (s.2.2.2.1.length : Int) + s.2.2.2.2 ≤ 3 ∧ ∀ x ∈ s.2.2.2.1, -3 ≤ x ∧ x ≤ 3)
    (fun s => s.2.2.2.2.toNat) (fun u => Src (l00Src.mk u.1 u.2.1 u.2.2.1) (k + 4) ∧ u.2.2.2.length ≤ 3 ∧ ∀ x ∈ u.2.2.2, -3 ≤ x ∧ x ≤ 3)
    (fun ⟨c, a, sd, xs, n⟩ ⟨i1, i2, i3, i4⟩ => by
      simp only at i1 i2 i3 i4
      unfold m_spec_B10Facts_L1
      simp only
      by_cases hn : 0 < n
      · left
        obtain ⟨r, s', e, r1, r2, hS⟩ := pick_ok (n := 7) i1 (by omega) (by omega)
        rw [decide_eq_true hn, cond_true, e, Option.bind_some, capI_some (by simp; omega), Option.bind_some, w64_eq (n := r - 3) (by omega), w64_eq (n := n - 1) (by omega)]
        refine ⟨_, rfl, ⟨?_, by simp only; omega, by simp; omega, ?_⟩, by simp only; omega⟩
        · simp only [List.length_append, List.length_cons, List.length_nil]; exact hS.mono (by omega)
        · intro x hx
          simp only [List.mem_append, List.mem_singleton] at hx
          rcases hx with hx | rfl
          · exact i4 x hx
          · omega
      · right
        rw [decide_eq_false hn, cond_false]
        exact ⟨_, rfl, i1.mono (by omega), by simp only; omega, i4⟩)
    (s := (s.code, s.at_, s.seed, [], n)) ⟨h, hn.1, by simp; omega, by simp⟩
  exact ⟨u.1, u.2.1, u.2.2.1, u.2.2.2, eu, hu⟩
theorem make_fact {c : Int} {xs : List Int} (hc : -5 ≤ c ∧ c ≤ 5) (h : ∀ x ∈ xs, -3 ≤ x ∧ x ≤ 3) : Fact (chk (Term.mk c (trim xs))).1 5 := by
  unfold chk
  cases hv : vT (Term.mk c (trim xs)) with
  | false => exact ⟨rfl, by simp only [cond_false]; decide, fun i => by rw [show coef (bif false then (Term.mk c (trim xs), true) else (Term.mk 0 [], false)).1.Coeffs i = 0 from rfl]; omega⟩
  | true =>
    refine ⟨hv, by simp only [cond_true]; omega, fun i => ?_⟩
    simp only [cond_true]
    rw [trim_coef]
    exact list_coef h (by omega) i
def FSt (s : List Int × Int × Int × List Term × Int) : Prop :=
  Src (l00Src.mk s.1 s.2.1 s.2.2.1) (20 * s.2.2.2.1.length + 1) ∧ 0 ≤ s.2.2.2.2 ∧ (s.2.2.2.1.length : Int) + s.2.2.2.2 ≤ 5 ∧ ∀ t ∈ s.2.2.2.1, Fact t (7 * s.2.2.2.1.length + 5)
theorem facts_J {c : List Int} {a sd : Int} {out : List Term} {n : Int} {r38 : Term × Bool} {c' : List Int} {a' sd' : Int} {b : Bool} (hI : FSt (c, a, sd, out, n)) (hn : 0 < n)
    (hr : Fact r38.1 5) (hS : Src (l00Src.mk c' a' sd') (20 * out.length + 10)) (hb : b = true → 0 < out.length) :
    ∃ s', m_spec_B10Facts_J0 (c, a, sd, out, n) r38 (c', a', sd', b) = some (.next s') ∧ FSt s' ∧ s'.2.2.2.2 = n - 1 := by
  obtain ⟨i1, i2, i3, i4⟩ := hI
  simp only at i1 i2 i3 i4
  have hadd : ∀ t (s2 : l00Src), Fact t (7 * (out.length + 1) + 5) → Src s2 (20 * out.length + 13) → FSt (s2.code, s2.at_, s2.seed, out ++ [t], n - 1) := by
    intro t s2 ht h2
    refine ⟨?_, by simp only; omega, by simp; omega, ?_⟩
    · simp only [List.length_append, List.length_cons, List.length_nil]; exact h2.mono (by omega)
    · intro x hx
      simp only [List.mem_append, List.mem_singleton] at hx
      simp only [List.length_append, List.length_cons, List.length_nil]
      rcases hx with hx | rfl
      · exact (i4 x hx).mono (by omega)
      · exact ht
  unfold m_spec_B10Facts_J0
  simp only
  cases b with
  | false =>
    rw [cond_false, capI_some (by simp; omega), Option.bind_some, w64_eq (n := n - 1) (by omega)]
    exact ⟨_, rfl, hadd _ (l00Src.mk c' a' sd') (hr.mono (by omega)) (hS.mono (by omega)), rfl⟩
  | true =>
    have h0 := hb rfl
    obtain ⟨r, s1, e1, k1, k2, hS1⟩ := pick_ok (n := (out.length : Int)) hS (by omega) (by omega)
    obtain ⟨m, hm⟩ := Int.eq_ofNat_of_zero_le k1
    have hlt : m < out.length := by omega
    have hx : out[m]? = some out[m] := by simp
    have hf := i4 _ (List.getElem_mem hlt)
    obtain ⟨q, s2, e2, q1, q2, hS2⟩ := pick_ok (n := 7) hS1 (by omega) (by omega)
    have hcf := hf.c
    have eo : chk (opp out[m]) = (opp out[m], true) := mkT_chk (by omega) (fun i _ => by have := hf.f i; omega)
    rw [cond_true, e1, Option.bind_some]
    simp only
    rw [hm, getI_some hx, Option.bind_some, spec_opposite hf.v, Option.bind_some, e2, Option.bind_some, eo]
    simp only
    rw [show (opp out[m]).Const = -(out[m]).Const - 1 from rfl, w64_eq (n := -(out[m]).Const - 1 + q) (by omega), capI_some (by simp; omega), Option.bind_some, w64_eq (n := n - 1) (by omega)]
    refine ⟨_, rfl, hadd _ s2 ⟨mkT_valid (c := -(out[m]).Const - 1 + q) (f := fun i => -coef (out[m]).Coeffs i) (by omega) (fun i _ => by have := hf.f i; omega), ?_, fun i => ?_⟩ (hS2.mono (by omega)), rfl⟩
    · simp only; omega
    · have := mkT_coef 0 (fun i => -coef (out[m]).Coeffs i) i
      have h2 := hf.f i
      rw [show coef (Term.mk (-(out[m]).Const - 1 + q) (opp out[m]).Coeffs).Coeffs i = coef (mkT 0 (fun i => -coef (out[m]).Coeffs i)).Coeffs i from rfl, this]
      split <;> omega
theorem facts_ok {code : List Int} (h1 : ∀ x ∈ code, 0 ≤ x ∧ x ≤ 255) (h2 : code.length ≤ 1048576) : ∃ ts, m_spec_B10Facts code = some ts ∧ ts.length ≤ 5 ∧ ∀ t ∈ ts, Fact t 40 := by
  unfold m_spec_B10Facts
  obtain ⟨e0, hS0⟩ := from_ok h1 h2
  rw [e0, Option.bind_some]
  obtain ⟨r, s1, e1, g1, g2, hS1⟩ := pick_ok (n := 5) hS0 (by omega) (by omega)
  rw [e1, Option.bind_some]
  simp only
  rw [w64_eq (n := 1 + r) (by omega)]
  obtain ⟨u, eu, hu⟩ := iter_inv (step := m_spec_B10Facts_L0) FSt (fun s => s.2.2.2.2.toNat) (fun ts => ts.length ≤ 5 ∧ ∀ t ∈ ts, Fact t 40)
    (fun ⟨c, a, sd, out, n⟩ hI => by
      have hI' := hI
      obtain ⟨i1, i2, i3, i4⟩ := hI'
      simp only at i1 i2 i3 i4
      unfold m_spec_B10Facts_L0
      simp only
      by_cases hn : 0 < n
      · left
        obtain ⟨r, s', e, r1, r2, hS⟩ := pick_ok (n := 4) i1 (by omega) (by omega)
        obtain ⟨c2, a2, sd2, xs, e2, hS2, hx1, hx2⟩ := facts_inner hS (by omega) (n := r) (by omega)
        rw [decide_eq_true hn, cond_true, e, Option.bind_some]
        simp only
        rw [e2, Option.bind_some]
        unfold m_spec_B10Facts_A1
        simp only
        obtain ⟨q, s3, e3, q1, q2, hS3⟩ := pick_ok (n := 9) hS2 (by omega) (by omega)
        rw [e3, Option.bind_some]
        simp only
        rw [w64_eq (n := q - 3) (by omega), spec_make (by omega), Option.bind_some]
        have hf := make_fact (c := q - 3) (xs := xs) (by omega) hx2
        by_cases h0 : 0 < out.length
        · rw [decide_eq_true (show (0 : Int) < (out.length : Int) by omega), cond_true]
          obtain ⟨z, s4, e4, z1, z2, hS4⟩ := pick_ok (n := 3) hS3 (by omega) (by omega)
          unfold m_spec_l00Src_one
          rw [e4, Option.bind_some, Option.bind_some]
          simp only
          obtain ⟨s', j1, j2, j3⟩ := facts_J (b := decide (z = 0)) (r38 := chk (Term.mk (q - 3) (trim xs))) hI hn hf (c' := s4.code) (a' := s4.at_) (sd' := s4.seed) (hS4.mono (by omega)) (fun _ => h0)
          exact ⟨s', j1, j2, by rw [j3]; omega⟩
        · rw [decide_eq_false (show ¬ (0 : Int) < (out.length : Int) by omega), cond_false]
          obtain ⟨s', j1, j2, j3⟩ := facts_J (b := false) (r38 := chk (Term.mk (q - 3) (trim xs))) hI hn hf (c' := s3.code) (a' := s3.at_) (sd' := s3.seed) (hS3.mono (by omega)) (fun h => by cases h)
          exact ⟨s', j1, j2, by rw [j3]; omega⟩
      · right
        rw [decide_eq_false hn, cond_false]
        exact ⟨_, rfl, by omega, fun t ht => (i4 t ht).mono (by omega)⟩)
    (s := (s1.code, s1.at_, s1.seed, [], 1 + r)) ⟨hS1.mono (by simp), by simp only; omega, by simp; omega, by simp⟩
  rw [eu, Option.bind_some]
  exact ⟨_, rfl, hu⟩
def allHold (ts : List Term) (v : List Int) : Bool := ts.all fun t => !decide (val t v < 0)
theorem hold_ok {ts : List Term} {v : List Int} (h : ∀ t ∈ ts, vT t = true) (hl : ts.length ≤ 1048576) (hv : Vals v) : m_laws_b10Hold ts v = some (allHold ts v) := by
  have h2 := iter_for (step := m_laws_b10Hold_L0 ts v) ts (fun n (_ : Unit) => (n : Int)) (fun _ t _ => bif !decide (val t v < 0) then some (.next ()) else some (.out (.inr false))) (fun _ => .inl ())
    (fun n x r hx => by
      unfold m_laws_b10Hold_L0
      rw [dec_lt (get_lt hx), cond_true, getI_some hx, Option.bind_some, value_ok (h x (List.mem_of_getElem? hx)) hv, Option.bind_some]
      have hw : w64 ((n : Int) + 1) = ((n + 1 : Nat) : Int) := w64_succ (by have := get_lt hx; omega)
      cases decide (val x v < 0)
      · rw [hw]; rfl
      · rfl)
    (fun r => by unfold m_laws_b10Hold_L0; rw [dec_self]; rfl) ()
  rw [forL_all (fun t => !decide (val t v < 0)) _ _ (fun n x _ => rfl)] at h2
  unfold m_laws_b10Hold
  rw [show (0 : Int) = ((0 : Nat) : Int) from rfl, h2, Option.bind_some]
  unfold allHold
  cases ts.all fun t => !decide (val t v < 0) <;> rfl
theorem fact_val {t : Term} {v : List Int} (h : Fact t 40) (hv : Vals v) : -220 ≤ val t v ∧ val t v ≤ 220 := by
  have h2 := sumN_rng (f := fun i => coef t.Coeffs i * coef v i) (B := 18) (fun i => by have := prod_small (A := 3) (B := 6) (h.f i) (hv.coef i); omega) 10
  have := h.c
  unfold val
  omega
theorem sumN_nonneg {f : Nat → Int} : ∀ n, (∀ i, i < n → 0 ≤ f i) → 0 ≤ sumN f n := by
  intro n
  induction n with
  | zero => intro _; exact Int.le_refl 0
  | succ n ih => intro h; have := ih (fun i hi => h i (by omega)); have := h n (by omega); unfold sumN; omega
theorem sumN_bnd {f : Nat → Int} {B : Int} : ∀ n : Nat, (∀ i, i < n → -B ≤ f i ∧ f i ≤ B) → -(n * B) ≤ sumN f n ∧ sumN f n ≤ n * B := by
  intro n
  induction n with
  | zero => intro _; simp [sumN]
  | succ n ih =>
    intro h
    have h1 := ih (fun i hi => h i (by omega))
    have h2 := h n (by omega)
    have e : ((n + 1 : Nat) : Int) * B = n * B + B := by rw [Int.natCast_add]; simp [Int.add_mul]
    rw [e]; unfold sumN; omega

end Go.Mod

/- Rows of an elimination: how two are mixed. Plain Lean. -/
namespace Go.Mod
open Go.AM
set_option linter.unusedVariables false
set_option linter.unusedSimpArgs false

/-! ### Loops with a counter -/
theorem iter_cnt {σ τ : Type} {step : σ → Option (Ctl σ τ)} (st : Nat → σ) (N : Nat) {t : τ} (hs : ∀ k, k < N → step (st k) = some (.next (st (k + 1)))) (he : step (st N) = some (.out t)) :
    iter step (st 0) = some t := by
  have key : ∀ (q k : Nat), k + q = N → iter step (st k) = some t := by
    intro q
    induction q with
    | zero => intro k hk; obtain rfl : k = N := by omega
              exact iter_out he
    | succ q ih => intro k hk; rw [iter_next (hs k (by omega))]; exact ih (k + 1) (by omega)
  exact key N 0 (by omega)
theorem forL_map {α β τ : Type} {body : Nat → α → List β → Option (Ctl (List β) τ)} {fin : List β → τ} (f : Nat → β) (xs : List α)
    (hb : ∀ n x, xs[n]? = some x → body n x ((List.range n).map f) = some (.next ((List.range n).map f ++ [f n]))) : forL body fin 0 xs [] = some (fin ((List.range xs.length).map f)) := by
  obtain ⟨t, h1, h2⟩ := forL_inv (xs := xs) (step := body) (fin := fin) (fun n s => s = (List.range n).map f) (fun t => t = fin ((List.range xs.length).map f))
    (fun n x s hx hI => .inl ⟨(List.range n).map f ++ [f n], by rw [hI]; exact hb n x hx, by rw [List.range_succ, List.map_append]; rfl⟩) (fun s hI => by rw [hI]) (s := []) rfl
  rw [h1, h2]
def Far (x : Int) : Prop := -4000000000000 ≤ x ∧ x ≤ 4000000000000
theorem max_abs {b : Int} : (bif decide (0 - b < b) then some b else some (0 - b)) = some ((b.natAbs : Nat) : Int) := by
  by_cases h : 0 - b < b
  · rw [decide_eq_true h, cond_true, show ((b.natAbs : Nat) : Int) = b by omega]
  · rw [decide_eq_false h, cond_false, show ((b.natAbs : Nat) : Int) = 0 - b by omega]
theorem spec_euclid6 (a b : Nat) : iter m_spec_l06Gcd_L0 ((a : Int), (b : Int)) = some ((Nat.gcd a b : Nat) : Int) :=
  euclid (fun a => rfl) (fun a b hb => by
    unfold m_spec_l06Gcd_L0
    simp only
    rw [decide_eq_true (by omega), cond_true, rem_nat hb]; rfl) (b + 1) b a (Nat.lt_succ_self _)
theorem spec_gcd2 {a : Nat} {b : Int} (h : Far b) : m_spec_l06Gcd (a : Int) b = some ((Nat.gcd a b.natAbs : Nat) : Int) := by
  unfold Far at h
  unfold m_spec_l06Gcd m_spec_l00Max
  rw [w64_eq (n := 0 - b) (by omega), max_abs, Option.bind_some, spec_euclid6, Option.bind_some]; rfl
theorem impl_gcdW {xs : List Int} (h : ∀ x ∈ xs, Far x) : m_impl_gcd xs = some ((gcdL xs : Nat) : Int) := by
  unfold m_impl_gcd
  rw [forL_fold (fun (d : Int) x => ((Nat.gcd d.toNat x.natAbs : Nat) : Int)) (fun _ d => 0 ≤ d) xs 0 0 (Int.le_refl 0) (fun n x d hx hd => by
    have hr := h x (List.mem_of_getElem? hx)
    unfold Far at hr
    unfold m_impl_gcd_L0 m_impl_absolute
    rw [Option.bind_some, w64_eq (by omega), show max x (0 - x) = ((x.natAbs : Nat) : Int) by omega, show d = ((d.toNat : Nat) : Int) by omega, impl_euclid, Option.bind_some]
    exact ⟨by rw [Int.toNat_natCast]; rfl, by omega⟩), Option.bind_some]
  have := foldl_cast xs 0
  exact congrArg some this
theorem tdiv_le (x : Int) (d : Nat) : (x.tdiv d).natAbs ≤ x.natAbs := by
  rw [Int.natAbs_tdiv]; exact Nat.div_le_self _ _
theorem quo_far {x : Int} {d : Nat} (hd : 0 < d) (h : Far x) : quoI x (d : Int) = some (x.tdiv d) := by
  unfold Far at h
  have := tdiv_le x d
  unfold quoI
  rw [decide_eq_false (by omega), cond_false, w64_eq (by omega)]
theorem quos_get {xs : List Int} {d n : Nat} {x : Int} (h : xs[n]? = some x) : (quos xs d)[n]? = some (x.tdiv d) := by unfold quos; rw [List.getElem?_map, h]; rfl
/-- Divided up to here. -/
def part (xs : List Int) (d k : Nat) : List Int := quos (xs.take k) d ++ xs.drop k
theorem part_len (xs : List Int) (d k : Nat) : (part xs d k).length = xs.length := by unfold part quos; simp; omega
theorem part_get {xs : List Int} {d k : Nat} {x : Int} (h : xs[k]? = some x) : (part xs d k)[k]? = some x := by
  have hk := get_lt h
  unfold part quos
  rw [List.getElem?_append_right (by simp; omega)]
  simp only [List.length_map, List.length_take]
  rw [List.getElem?_drop, show k + (k - min k xs.length) = k by omega, h]
theorem part_set {xs : List Int} {d k : Nat} {x : Int} (h : xs[k]? = some x) : (part xs d k).set k (x.tdiv d) = part xs d (k + 1) := by
  have hk := get_lt h
  unfold part quos
  rw [List.set_append_right _ _ (by simp; omega)]
  simp only [List.length_map, List.length_take]
  rw [show k - min k xs.length = 0 by omega, List.take_add_one, h, List.map_append, List.append_assoc]
  congr 1
  rw [List.drop_eq_getElem_cons hk]
  have : xs[k] = x := by rw [List.getElem?_eq_getElem hk] at h; exact Option.some.inj h
  simp [this]
theorem part_zero (xs : List Int) (d : Nat) : part xs d 0 = xs := by simp [part, quos]
theorem part_end (xs : List Int) (d : Nat) : part xs d xs.length = quos xs d := by simp [part]

/-! ### Rows -/
structure RowOK (n : Nat) (x : combination) : Prop where
  v : vT x.term = true
  len : x.by_.length = n
  rng : ∀ m ∈ x.by_, 0 ≤ m ∧ m ≤ 1000000
  pos : ∃ m ∈ x.by_, m ≠ 0
def rowOf (x : combination) : l06Row := l06Row.mk x.term.Const (tab fun i => coef x.term.Coeffs i) x.by_
theorem RowOK.coefB {n : Nat} {x : combination} (h : RowOK n x) (j : Nat) : 0 ≤ coef x.by_ j ∧ coef x.by_ j ≤ 1000000 := by
  unfold coef
  cases hx : x.by_[j]? with
  | none => simp
  | some y => exact h.rng y (List.mem_of_getElem? hx)
def mxG (p q : combination) (k : Nat) : Nat := Nat.gcd (coef p.term.Coeffs k).natAbs (coef q.term.Coeffs k).natAbs
def mxM (p q : combination) (k : Nat) : Int := (coef p.term.Coeffs k).tdiv (mxG p q k)
def mxN (p q : combination) (k : Nat) : Int := (-coef q.term.Coeffs k).tdiv (mxG p q k)
def mxC (p q : combination) (k : Nat) : Int := mxN p q k * p.term.Const + mxM p q k * q.term.Const
def mxV (p q : combination) (k i : Nat) : Int := mxN p q k * coef p.term.Coeffs i + mxM p q k * coef q.term.Coeffs i
def mxJ (p q : combination) (k j : Nat) : Int := mxN p q k * coef p.by_ j + mxM p q k * coef q.by_ j
def mxB (p q : combination) (k : Nat) : List Int := (List.range p.by_.length).map (mxJ p q k)
def mxD (p q : combination) (k : Nat) : Nat := gcdL (mxC p q k :: (tab (mxV p q k) ++ mxB p q k))
def mxR (p q : combination) (k : Nat) : combination := combination.mk (Term.mk ((mxC p q k).tdiv (mxD p q k)) (quos (trim (tab (mxV p q k))) (mxD p q k))) (quos (mxB p q k) (mxD p q k))
def mixR (p q : combination) (k : Nat) : combination × Bool := (mxR p q k, vT (mxR p q k).term && (mxR p q k).by_.all inR)

/-- Two rows that can be mixed. -/
structure Two (n : Nat) (p q : combination) (k : Nat) : Prop where
  rp : RowOK n p
  rq : RowOK n q
  a : 0 < coef p.term.Coeffs k
  b : coef q.term.Coeffs k < 0
  n : n ≤ 14
section
variable {n k : Nat} {p q : combination}
theorem Two.g (h : Two n p q k) : 0 < mxG p q k := Nat.gcd_pos_of_pos_left _ (by have := h.a; omega)
theorem Two.mEq (h : Two n p q k) : mxM p q k * (mxG p q k : Int) = coef p.term.Coeffs k := quo_mul (Nat.gcd_dvd_left _ _)
theorem Two.nEq (h : Two n p q k) : mxN p q k * (mxG p q k : Int) = -coef q.term.Coeffs k := quo_mul (by rw [Int.natAbs_neg]; exact Nat.gcd_dvd_right _ _)
theorem Two.m (h : Two n p q k) : 1 ≤ mxM p q k ∧ mxM p q k ≤ 1000000 := by
  have h1 := h.mEq; have h2 := h.a; have h3 := coef_rng h.rp.v k; have h4 := tdiv_le (coef p.term.Coeffs k) (mxG p q k)
  have h5 : 0 ≤ mxM p q k := Int.tdiv_nonneg (by omega) (by omega)
  have h6 : mxM p q k ≠ 0 := fun e => by rw [e, Int.zero_mul] at h1; omega
  unfold mxM at h5 h6 ⊢
  omega
theorem Two.nn (h : Two n p q k) : 1 ≤ mxN p q k ∧ mxN p q k ≤ 1000000 := by
  have h1 := h.nEq; have h2 := h.b; have h3 := coef_rng h.rq.v k; have h4 := tdiv_le (-coef q.term.Coeffs k) (mxG p q k)
  have h5 : 0 ≤ mxN p q k := Int.tdiv_nonneg (by omega) (by omega)
  have h6 : mxN p q k ≠ 0 := fun e => by rw [e, Int.zero_mul] at h1; omega
  unfold mxN at h5 h6 ⊢
  omega
theorem Two.two (h : Two n p q k) {x y : Int} (hx : -1000000 ≤ x ∧ x ≤ 1000000) (hy : -1000000 ≤ y ∧ y ≤ 1000000) :
    (-1000000000000 ≤ mxN p q k * x ∧ mxN p q k * x ≤ 1000000000000) ∧ (-1000000000000 ≤ mxM p q k * y ∧ mxM p q k * y ≤ 1000000000000) :=
  ⟨mul_rng (by have := h.nn; omega) hx, mul_rng (by have := h.m; omega) hy⟩
theorem Two.far (h : Two n p q k) {x y : Int} (hx : -1000000 ≤ x ∧ x ≤ 1000000) (hy : -1000000 ≤ y ∧ y ≤ 1000000) : Far (mxN p q k * x + mxM p q k * y) := by
  have := h.two hx hy; unfold Far; omega
theorem Two.wide (h : Two n p q k) {x y : Int} (hx : -1000000 ≤ x ∧ x ≤ 1000000) (hy : -1000000 ≤ y ∧ y ≤ 1000000) :
    w64 (w64 (mxN p q k * x) + w64 (mxM p q k * y)) = mxN p q k * x + mxM p q k * y := by
  have := h.two hx hy
  rw [w64_eq (n := mxN p q k * x) (by omega), w64_eq (n := mxM p q k * y) (by omega), w64_eq (by omega)]
theorem Two.farC (h : Two n p q k) : Far (mxC p q k) := h.far (const_rng h.rp.v) (const_rng h.rq.v)
theorem Two.farV (h : Two n p q k) (i : Nat) : Far (mxV p q k i) := h.far (coef_rng h.rp.v i) (coef_rng h.rq.v i)
theorem Two.farJ (h : Two n p q k) (j : Nat) : Far (mxJ p q k j) := h.far (by have := h.rp.coefB j; omega) (by have := h.rq.coefB j; omega)
theorem Two.farAll (h : Two n p q k) : ∀ x ∈ mxC p q k :: (tab (mxV p q k) ++ mxB p q k), Far x := by
  intro x hx
  simp only [List.mem_cons, List.mem_append] at hx
  rcases hx with rfl | hx | hx
  · exact h.farC
  · obtain ⟨i, _, rfl⟩ := List.mem_map.1 hx; exact h.farV i
  · obtain ⟨i, _, rfl⟩ := List.mem_map.1 hx; exact h.farJ i
theorem Two.bpos (h : Two n p q k) : ∃ j, j < p.by_.length ∧ 0 < mxJ p q k j := by
  obtain ⟨m, hm, hne⟩ := h.rp.pos
  obtain ⟨j, hj⟩ := List.getElem?_of_mem hm
  refine ⟨j, get_lt hj, ?_⟩
  have h1 := h.rp.rng m hm
  have h2 := h.nn.1; have h3 := h.m.1; have h4 := (h.rq.coefB j).1
  unfold mxJ
  rw [coef_get hj]
  have h5 : 0 < mxN p q k * m := Int.mul_pos (by omega) (by omega)
  have h6 : 0 ≤ mxM p q k * coef q.by_ j := Int.mul_nonneg (by omega) h4
  omega
theorem Two.d (h : Two n p q k) : 0 < mxD p q k := by
  obtain ⟨j, hj, hp⟩ := h.bpos
  have : mxD p q k ∣ (mxJ p q k j).natAbs := gcdL_dvd (by simp only [List.mem_cons, List.mem_append]; exact .inr (.inr (List.mem_map.2 ⟨j, List.mem_range.2 hj, rfl⟩)))
  exact Nat.pos_of_dvd_of_pos this (by omega)
theorem mxD_c : mxD p q k ∣ (mxC p q k).natAbs := gcdL_dvd (by simp)
theorem mxD_v {x : Int} (h : x ∈ tab (mxV p q k)) : mxD p q k ∣ x.natAbs := gcdL_dvd (by simp [h])
theorem mxD_b {x : Int} (h : x ∈ mxB p q k) : mxD p q k ∣ x.natAbs := gcdL_dvd (by simp [h])
theorem mem_trim {xs : List Int} {x : Int} (h : x ∈ trim xs) : x ∈ xs := List.mem_of_mem_take h
theorem trim_mem {xs : List Int} {x : Int} (h : x ∈ xs) (h0 : x ≠ 0) : x ∈ trim xs := by
  obtain ⟨i, hi⟩ := List.getElem?_of_mem h
  have := trim_coef xs i
  rw [coef_get hi] at this
  unfold coef at this
  cases ht : (trim xs)[i]? with
  | none => rw [ht] at this; exact absurd this.symm h0
  | some y => rw [ht] at this; simp only [Option.getD_some] at this; rw [← this]; exact List.mem_of_getElem? ht
theorem gcdL_trim (c : Int) (xs ys : List Int) : gcdL ([c] ++ trim xs ++ ys) = gcdL (c :: (xs ++ ys)) := by
  refine Nat.dvd_antisymm (dvd_gcdL fun x hx => ?_) (dvd_gcdL fun x hx => ?_)
  · simp only [List.mem_cons, List.mem_append] at hx
    by_cases h0 : x = 0
    · subst h0; exact Nat.dvd_zero _
    · refine gcdL_dvd ?_
      simp only [List.mem_append, List.mem_singleton]
      rcases hx with h | h | h
      · exact .inl (.inl h)
      · exact .inl (.inr (trim_mem h h0))
      · exact .inr h
  · simp only [List.mem_append, List.mem_singleton] at hx
    refine gcdL_dvd ?_
    simp only [List.mem_cons, List.mem_append]
    rcases hx with (h | h) | h
    · exact .inl h
    · exact .inr (.inl (mem_trim h))
    · exact .inr (.inr h)

/-! ### What the program reckons -/
theorem impl_coeff {t : Term} {i : Nat} (hl : t.Coeffs.length ≤ 10) : m_impl_Term_coeff t (i : Int) = some (coef t.Coeffs i) := by
  unfold m_impl_Term_coeff
  by_cases h : i < t.Coeffs.length
  · rw [decide_eq_true (by omega), cond_true, getI_some (List.getElem?_eq_getElem h), Option.bind_some, coef_get (List.getElem?_eq_getElem h)]
  · rw [decide_eq_false (by omega), cond_false, coef_no (by omega)]
theorem lin_two (p q : Term) (a b : Int) (g : Term → Int) : lin [p, q] [a, b] g 2 = a * g p + b * g q := by
  rw [show (2 : Nat) = 1 + 1 from rfl, lin_cons, lin_one]
theorem Two.negq (h : Two n p q k) : w64 (0 - coef q.term.Coeffs k) = -coef q.term.Coeffs k := by
  have := coef_rng h.rq.v k
  rw [w64_eq (by omega)]; omega
theorem iter_part {xs : List Int} {d : Nat} {step : List Int × Int → Option (Ctl (List Int × Int) (List Int))} (hd : 0 < d) (hl : xs.length ≤ 1000) (hx : ∀ x ∈ xs, Far x)
    (hs : ∀ (s : List Int) (i : Int), step (s, i) = bif decide (i < (xs.length : Int)) then (getI s i).bind fun x => (quoI x (d : Int)).bind fun q => some (.next (s.set i.toNat q, w64 (i + 1))) else some (.out s)) :
    iter step (xs, 0) = some (quos xs d) := by
  have h := iter_cnt (step := step) (fun k => (part xs d k, (k : Int))) xs.length (t := quos xs d) (fun k hk => by
    have hg : xs[k]? = some xs[k] := List.getElem?_eq_getElem hk
    rw [hs, dec_lt hk, cond_true, getI_some (part_get hg), Option.bind_some, quo_far hd (hx _ (List.getElem_mem hk)), Option.bind_some, Int.toNat_natCast, part_set hg, w64_succ (by omega)])
    (by rw [hs, dec_self, cond_false, part_end])
  rw [part_zero] at h
  exact h
theorem impl_mix (h : Two n p q k) (hk : k < 10) : m_impl_cancelled p q (k : Int) = some (mixR p q k) := by
  have lp := vT_len h.rp.v
  have lq := vT_len h.rq.v
  have hlen : p.by_.length ≤ 14 := by rw [h.rp.len]; exact h.n
  have hg : ∀ x ∈ [coef p.term.Coeffs k, -coef q.term.Coeffs k], Far x := by
    have h1 := coef_rng h.rp.v k; have h2 := coef_rng h.rq.v k
    intro x hx
    simp only [List.mem_cons, List.not_mem_nil, or_false] at hx
    unfold Far
    rcases hx with rfl | rfl <;> omega
  have hgc : gcdL [coef p.term.Coeffs k, -coef q.term.Coeffs k] = mxG p q k := by
    unfold gcdL mxG
    simp only [List.foldl_cons, List.foldl_nil, Nat.gcd_zero_left, Int.natAbs_neg]
  have hL : Lin [p.term, q.term] [mxN p q k, mxM p q k] := ⟨by simp [h.rp.v, h.rq.v], by
    have h1 := h.m; have h2 := h.nn
    intro x hx
    simp only [List.mem_cons, List.not_mem_nil, or_false] at hx
    unfold mOK
    rcases hx with rfl | rfl <;> omega, by simp, rfl⟩
  unfold m_impl_cancelled
  rw [impl_coeff lp, Option.bind_some, impl_coeff lq, Option.bind_some, h.negq, impl_gcdW hg, Option.bind_some, hgc]
  rw [quo_far h.g (hg _ (by simp)), Option.bind_some, quo_far h.g (hg _ (by simp)), Option.bind_some]
  rw [show (coef p.term.Coeffs k).tdiv (mxG p q k) = mxM p q k from rfl, show (-coef q.term.Coeffs k).tdiv (mxG p q k) = mxN p q k from rfl]
  rw [impl_combined hL, Option.bind_some]
  simp only [List.length_cons, List.length_nil, Nat.zero_add, Nat.reduceAdd, lin_two]
  rw [show mxN p q k * p.term.Const + mxM p q k * q.term.Const = mxC p q k from rfl, show (fun i => mxN p q k * coef p.term.Coeffs i + mxM p q k * coef q.term.Coeffs i) = mxV p q k from rfl]
  rw [forL_map (mxJ p q k) p.by_ (fun j x hx => by
    have hj := get_lt hx
    have hjq : j < q.by_.length := by rw [h.rq.len, ← h.rp.len]; exact hj
    unfold m_impl_cancelled_L0
    rw [getI_some (List.getElem?_eq_getElem hjq), Option.bind_some, ← coef_get hx, ← coef_get (List.getElem?_eq_getElem hjq)]
    rw [h.wide (by have := h.rp.coefB j; omega) (by have := h.rq.coefB j; omega), capI_some (by simp; omega)]; rfl), Option.bind_some]
  unfold m_impl_cancelled_A0
  have hbl : (mxB p q k).length = p.by_.length := by simp [mxB]
  have htl : (trim (tab (mxV p q k))).length ≤ 10 := by have := trim_len (tab (mxV p q k)); rw [tab_len] at this; exact this
  rw [show (List.range p.by_.length).map (mxJ p q k) = mxB p q k from rfl]
  simp only
  rw [capI_some (by simp; omega), Option.bind_some, capI_some (by simp; omega), Option.bind_some]
  have hall := h.farAll
  have hfar : ∀ x ∈ [mxC p q k] ++ trim (tab (mxV p q k)) ++ mxB p q k, Far x := fun x hx => by
    simp only [List.mem_append, List.mem_singleton] at hx
    refine hall x ?_
    simp only [List.mem_cons, List.mem_append]
    rcases hx with (h | h) | h
    · exact .inl h
    · exact .inr (.inl (mem_trim h))
    · exact .inr (.inr h)
  rw [impl_gcdW hfar, Option.bind_some, gcdL_trim, show gcdL (mxC p q k :: (tab (mxV p q k) ++ mxB p q k)) = mxD p q k from rfl, quo_far h.d h.farC, Option.bind_some]
  rw [iter_part (xs := trim (tab (mxV p q k))) (d := mxD p q k) h.d (by omega) (fun x hx => hfar x (by simp [hx])) (fun s i => rfl), Option.bind_some]
  unfold m_impl_cancelled_A1
  rw [iter_part (xs := mxB p q k) (d := mxD p q k) h.d (by omega) (fun x hx => hfar x (by simp [hx])) (fun s i => rfl), Option.bind_some]
  unfold m_impl_cancelled_A2
  rw [impl_valid, Option.bind_some, impl_all, Option.bind_some]
  unfold mixR
  rw [show Term.mk ((mxC p q k).tdiv (mxD p q k)) (quos (trim (tab (mxV p q k))) (mxD p q k)) = (mxR p q k).term from rfl]
  cases vT (mxR p q k).term <;> rfl
end
end Go.Mod

/- Rows of an elimination: the reference mixes them as the program does. Plain Lean. -/
namespace Go.Mod
open Go.AM
set_option linter.unusedVariables false
set_option linter.unusedSimpArgs false

theorem tab_getI {f : Nat → Int} {i : Nat} (h : i < 10) : getI (tab f) (i : Int) = some (f i) := getI_some (tab_get h)
theorem tab_congr {f g : Nat → Int} (h : ∀ i, i < 10 → f i = g i) : tab f = tab g := List.map_congr_left (fun i hi => h i (List.mem_range.1 hi))
def foldG (a : Nat) (xs : List Int) : Nat := xs.foldl (fun d x => Nat.gcd d x.natAbs) a
theorem acc_loop {step : Int × List Int × Int → Option (Ctl (Int × List Int × Int) (Int × List Int))} (V : Nat → Int) (N g0 : Nat)
    (hs : ∀ j, j < N → ∀ (g : Nat), step ((g : Int), (List.range j).map V, (j : Int)) = some (.next (((Nat.gcd g (V j).natAbs : Nat) : Int), (List.range j).map V ++ [V j], ((j + 1 : Nat) : Int))))
    (he : ∀ g xs, step (g, xs, (N : Int)) = some (.out (g, xs))) : iter step ((g0 : Int), [], 0) = some (((foldG g0 ((List.range N).map V) : Nat) : Int), (List.range N).map V) := by
  have h := iter_cnt (step := step) (fun j => (((foldG g0 ((List.range j).map V) : Nat) : Int), (List.range j).map V, (j : Int))) N (t := (((foldG g0 ((List.range N).map V) : Nat) : Int), (List.range N).map V))
    (fun j hj => by
      rw [hs j hj]
      have e : (List.range (j + 1)).map V = (List.range j).map V ++ [V j] := by rw [List.range_succ, List.map_append]; rfl
      rw [e]
      unfold foldG
      rw [List.foldl_append]; rfl) (he _ _)
  exact h
theorem div_loop {xs : List Int} {d : Nat} {b0 : Bool} {step : List Int × Bool × Int → Option (Ctl (List Int × Bool × Int) (List Int × Bool))} (hd : 0 < d) (hl : xs.length ≤ 1000) (hx : ∀ x ∈ xs, Far x)
    (hs : ∀ (s : List Int) (b : Bool) (i : Int), step (s, b, i) = bif decide (i < (s.length : Int)) then (getI s i).bind fun x => (quoI x (d : Int)).bind fun q =>
      bif b then (getI (s.set i.toNat q) i).bind fun y => (m_spec_l02Number y).bind fun r => some (.next (s.set i.toNat q, r, w64 (i + 1))) else some (.next (s.set i.toNat q, false, w64 (i + 1))) else some (.out (s, b))) :
    iter step (xs, b0, 0) = some (quos xs d, b0 && (quos xs d).all inR) := by
  have h := iter_cnt (step := step) (fun k => (part xs d k, b0 && (quos (xs.take k) d).all inR, (k : Int))) xs.length (t := (quos xs d, b0 && (quos xs d).all inR)) (fun k hk => by
    have hg : xs[k]? = some xs[k] := List.getElem?_eq_getElem hk
    have hkl : k < (part xs d k).length := by rw [part_len]; exact hk
    rw [hs, dec_lt hkl, cond_true, getI_some (part_get hg), Option.bind_some, quo_far hd (hx _ (List.getElem_mem hk)), Option.bind_some, Int.toNat_natCast, w64_succ (by omega)]
    rw [getI_some (x := xs[k].tdiv d) (by rw [List.getElem?_set_self hkl]), Option.bind_some, spec_number, Option.bind_some, part_set hg]
    have e : (quos (xs.take (k + 1)) d).all inR = ((quos (xs.take k) d).all inR && inR (xs[k].tdiv d)) := by
      unfold quos
      rw [List.take_add_one, hg, List.map_append, List.all_append]
      simp
    rw [e]
    cases b0 <;> cases (quos (xs.take k) d).all inR <;> rfl)
    (by
      rw [hs, part_len, dec_self, cond_false, part_end, List.take_length])
  rw [part_zero] at h
  simpa [quos] using h
section
variable {n k : Nat} {p q : combination}
theorem quos_tab (f : Nat → Int) (d : Nat) : quos (tab f) d = tab fun i => (f i).tdiv d := by unfold quos tab; rw [List.map_map]; rfl
theorem coef_quos (xs : List Int) (d i : Nat) : coef (quos xs d) i = (coef xs i).tdiv d := by
  unfold coef quos
  rw [List.getElem?_map]
  cases xs[i]? with
  | none => simp
  | some x => rfl
theorem all_quos_trim (ys : List Int) (d : Nat) : (quos (trim ys) d).all inR = (quos ys d).all inR := by
  apply Bool.eq_iff_iff.2
  rw [List.all_eq_true, List.all_eq_true]
  unfold quos
  constructor
  · intro h x hx
    obtain ⟨y, hy, rfl⟩ := List.mem_map.1 hx
    by_cases h0 : y = 0
    · subst h0; simp; decide
    · exact h _ (List.mem_map.2 ⟨y, trim_mem hy h0, rfl⟩)
  · intro h x hx
    obtain ⟨y, hy, rfl⟩ := List.mem_map.1 hx
    exact h _ (List.mem_map.2 ⟨y, mem_trim hy, rfl⟩)
theorem mxV_coef (h : Two n p q k) (i : Nat) (hi : i < 10) : coef (mxR p q k).term.Coeffs i = (mxV p q k i).tdiv (mxD p q k) := by
  unfold mxR
  simp only
  rw [coef_quos, trim_coef, tab_coef, if_pos hi]
theorem rowOf_mx (h : Two n p q k) : rowOf (mxR p q k) = l06Row.mk ((mxC p q k).tdiv (mxD p q k)) (quos (tab (mxV p q k)) (mxD p q k)) (quos (mxB p q k) (mxD p q k)) := by
  unfold rowOf
  rw [quos_tab, tab_congr (fun i hi => mxV_coef h i hi)]; rfl
theorem mx_fine (h : Two n p q k) : (mixR p q k).2 = ((inR ((mxC p q k).tdiv (mxD p q k)) && (quos (tab (mxV p q k)) (mxD p q k)).all inR) && (quos (mxB p q k) (mxD p q k)).all inR) := by
  unfold mixR mxR vT
  simp only
  have h1 : (quos (trim (tab (mxV p q k))) (mxD p q k)).length ≤ 10 := by unfold quos; have := trim_len (tab (mxV p q k)); rw [tab_len] at this; simpa using this
  rw [decide_eq_true h1, quos_last h.d (trim_last _) (fun x hx => mxD_v (mem_trim hx)), all_quos_trim]
  simp
theorem spec_mix (h : Two n p q k) (hk : k < 10) : m_spec_l06Mix (rowOf p) (rowOf q) (k : Int) = some (rowOf (mixR p q k).1, (mixR p q k).2) := by
  have hlen : p.by_.length ≤ 14 := by rw [h.rp.len]; exact h.n
  have fa : Far (coef p.term.Coeffs k) := by have := coef_rng h.rp.v k; unfold Far; omega
  have fb : Far (-coef q.term.Coeffs k) := by have := coef_rng h.rq.v k; unfold Far; omega
  have hg : m_spec_l06Gcd (coef p.term.Coeffs k) (-coef q.term.Coeffs k) = some ((mxG p q k : Nat) : Int) := by
    have := spec_gcd2 (a := (coef p.term.Coeffs k).natAbs) fb
    have ha := h.a
    rw [show (((coef p.term.Coeffs k).natAbs : Nat) : Int) = coef p.term.Coeffs k by omega, Int.natAbs_neg] at this
    exact this
  unfold m_spec_l06Mix
  rw [show getI (rowOf p).list (k : Int) = some (coef p.term.Coeffs k) from tab_getI hk, Option.bind_some, show getI (rowOf q).list (k : Int) = some (coef q.term.Coeffs k) from tab_getI hk, Option.bind_some]
  rw [h.negq, hg, Option.bind_some, quo_far h.g fa, Option.bind_some, quo_far h.g fb, Option.bind_some]
  rw [show (coef p.term.Coeffs k).tdiv (mxG p q k) = mxM p q k from rfl, show (-coef q.term.Coeffs k).tdiv (mxG p q k) = mxN p q k from rfl]
  rw [show (rowOf p).c = p.term.Const from rfl, show (rowOf q).c = q.term.Const from rfl, h.wide (const_rng h.rp.v) (const_rng h.rq.v)]
  rw [show mxN p q k * p.term.Const + mxM p q k * q.term.Const = mxC p q k from rfl]
  rw [show m_spec_l06Gcd 0 (mxC p q k) = _ from spec_gcd2 (a := 0) h.farC, Option.bind_some]
  rw [acc_loop (mxV p q k) 10 (Nat.gcd 0 (mxC p q k).natAbs) (fun j hj g => by
    unfold m_spec_l06Mix_L0
    simp only
    rw [show (rowOf p).list.length = 10 from tab_len _, dec_lt hj, cond_true]
    rw [show getI (rowOf p).list (j : Int) = some (coef p.term.Coeffs j) from tab_getI hj, Option.bind_some, show getI (rowOf q).list (j : Int) = some (coef q.term.Coeffs j) from tab_getI hj, Option.bind_some]
    rw [h.wide (coef_rng h.rp.v j) (coef_rng h.rq.v j), capI_some (by simp; omega), Option.bind_some]
    unfold m_spec_l06Mix_J0
    rw [show mxN p q k * coef p.term.Coeffs j + mxM p q k * coef q.term.Coeffs j = mxV p q k j from rfl]
    simp only
    rw [getI_some (x := mxV p q k j) (by rw [List.getElem?_append_right (by simp)]; simp), Option.bind_some, spec_gcd2 (h.farV j), Option.bind_some, w64_succ (by omega)])
    (fun g xs => by
      unfold m_spec_l06Mix_L0
      simp only
      rw [show (rowOf p).list.length = 10 from tab_len _, dec_self, cond_false]), Option.bind_some]
  unfold m_spec_l06Mix_A0
  rw [show (List.range 10).map (mxV p q k) = tab (mxV p q k) from rfl]
  simp only
  rw [acc_loop (mxJ p q k) p.by_.length (foldG (Nat.gcd 0 (mxC p q k).natAbs) (tab (mxV p q k))) (fun j hj g => by
    have hjq : j < q.by_.length := by rw [h.rq.len, ← h.rp.len]; exact hj
    unfold m_spec_l06Mix_L1
    simp only
    rw [show (rowOf p).times = p.by_ from rfl, show (rowOf q).times = q.by_ from rfl, dec_lt hj, cond_true]
    rw [getI_some (List.getElem?_eq_getElem hj), Option.bind_some, getI_some (List.getElem?_eq_getElem hjq), Option.bind_some, ← coef_get (List.getElem?_eq_getElem hj), ← coef_get (List.getElem?_eq_getElem hjq)]
    rw [h.wide (by have := h.rp.coefB j; omega) (by have := h.rq.coefB j; omega), capI_some (by simp; omega), Option.bind_some]
    unfold m_spec_l06Mix_J1
    rw [show mxN p q k * coef p.by_ j + mxM p q k * coef q.by_ j = mxJ p q k j from rfl]
    simp only
    rw [getI_some (x := mxJ p q k j) (by rw [List.getElem?_append_right (by simp)]; simp), Option.bind_some, spec_gcd2 (h.farJ j), Option.bind_some, w64_succ (by omega)])
    (fun g xs => by
      unfold m_spec_l06Mix_L1
      simp only
      rw [show (rowOf p).times = p.by_ from rfl, dec_self, cond_false]), Option.bind_some]
  unfold m_spec_l06Mix_A1
  have hD : foldG (foldG (Nat.gcd 0 (mxC p q k).natAbs) (tab (mxV p q k))) ((List.range p.by_.length).map (mxJ p q k)) = mxD p q k := by
    unfold mxD gcdL foldG mxB
    rw [List.foldl_cons, List.foldl_append]
  have hall := h.farAll
  simp only
  rw [hD, show (rowOf p).c = p.term.Const from rfl, show (rowOf q).c = q.term.Const from rfl, h.wide (const_rng h.rp.v) (const_rng h.rq.v)]
  rw [show mxN p q k * p.term.Const + mxM p q k * q.term.Const = mxC p q k from rfl, quo_far h.d h.farC, Option.bind_some, spec_number, Option.bind_some]
  rw [div_loop (xs := tab (mxV p q k)) (d := mxD p q k) h.d (by rw [tab_len]; omega) (fun x hx => hall x (by simp [hx])) (fun s b i => rfl), Option.bind_some]
  unfold m_spec_l06Mix_A2
  simp only
  rw [show (List.range p.by_.length).map (mxJ p q k) = mxB p q k from rfl]
  rw [div_loop (xs := mxB p q k) (d := mxD p q k) h.d (by simp [mxB]; omega) (fun x hx => hall x (by simp [hx])) (fun s b i => rfl), Option.bind_some]
  unfold m_spec_l06Mix_A3
  simp only
  rw [mx_fine h, show (mixR p q k).1 = mxR p q k from rfl, rowOf_mx h]

/-! ### What a mixed row is -/
theorem mx_ok (h : Two n p q k) (hf : (mixR p q k).2 = true) : RowOK n (mxR p q k) := by
  unfold mixR at hf
  simp only [Bool.and_eq_true, List.all_eq_true] at hf
  have hlen : (mxR p q k).by_.length = n := by unfold mxR mxB quos; simp; exact h.rp.len
  refine ⟨hf.1, hlen, fun m hm => ?_, ?_⟩
  · have h1 := inR_iff.1 (hf.2 m hm)
    refine ⟨?_, h1.2⟩
    unfold mxR quos at hm
    obtain ⟨y, hy, rfl⟩ := List.mem_map.1 hm
    unfold mxB at hy
    obtain ⟨j, _, rfl⟩ := List.mem_map.1 hy
    refine Int.tdiv_nonneg ?_ (Int.natCast_nonneg _)
    unfold mxJ
    have h2 := h.nn.1; have h3 := h.m.1
    exact Int.add_nonneg (Int.mul_nonneg (by omega) (h.rp.coefB j).1) (Int.mul_nonneg (by omega) (h.rq.coefB j).1)
  · obtain ⟨j, hj, hp⟩ := h.bpos
    have hm : mxJ p q k j ∈ mxB p q k := List.mem_map.2 ⟨j, List.mem_range.2 hj, rfl⟩
    exact ⟨(mxJ p q k j).tdiv (mxD p q k), List.mem_map.2 ⟨_, hm, rfl⟩, tdiv_ne h.d (by omega) (mxD_b hm)⟩
/-- The symbol is gone. -/
theorem mx_zero (h : Two n p q k) (hk : k < 10) : coef (mxR p q k).term.Coeffs k = 0 := by
  rw [mxV_coef h k hk]
  have : mxV p q k k = 0 := by
    unfold mxV
    have h1 := h.mEq; have h2 := h.nEq
    have e : coef q.term.Coeffs k = -(mxN p q k * (mxG p q k : Int)) := by omega
    rw [e, ← h1, Int.mul_neg, ← Int.mul_assoc, ← Int.mul_assoc, Int.mul_comm (mxN p q k)]
    omega
  rw [this]; simp
/-- What is gone in both stays gone. -/
theorem mx_gone (h : Two n p q k) {i : Nat} (hi : i < 10) (hp : coef p.term.Coeffs i = 0) (hq : coef q.term.Coeffs i = 0) : coef (mxR p q k).term.Coeffs i = 0 := by
  rw [mxV_coef h i hi]
  unfold mxV
  rw [hp, hq]; simp
end
end Go.Mod

/- Stages of an elimination. Plain Lean. -/
namespace Go.Mod
open Go.AM
set_option linter.unusedVariables false
set_option linter.unusedSimpArgs false

def keep (k : Nat) (rows : List combination) : List combination := rows.filter fun x => decide (coef x.term.Coeffs k = 0)
def inS (k cnt : Nat) (p : combination) : List combination → List combination → Option (List combination)
  | [], acc => some acc
  | q :: r, acc => if coef p.term.Coeffs k ≤ 0 then inS k cnt p r acc else if 0 ≤ coef q.term.Coeffs k then inS k cnt p r acc
    else if (mixR p q k).2 = false ∨ cnt + acc.length = 60 then none else inS k cnt p r (acc ++ [(mixR p q k).1])
def outS (k cnt : Nat) (rows : List combination) : List combination → List combination → Option (List combination)
  | [], acc => some acc
  | p :: r, acc => match inS k cnt p rows acc with
    | some a => outS k cnt rows r a
    | none => none
def stage (k : Nat) (rows : List combination) : Option (List combination) := outS k (keep k rows).length rows rows []
def elimF : List Nat → List combination → List combination → Option (List combination × List combination)
  | [], rows, news => some (rows, news)
  | k :: ks, rows, news => match stage k rows with
    | some a => elimF ks (keep k rows ++ a) (news ++ a)
    | none => none

/-! ### What stages keep true -/
theorem inner_inv {n k cnt : Nat} {p : combination} (I : combination → Prop) (hp : RowOK n p ∧ I p) (hn : n ≤ 14) (hm : ∀ p q, I p → I q → Two n p q k → (mixR p q k).2 = true → I (mxR p q k)) :
    ∀ (r acc a : List combination), (∀ x ∈ r, RowOK n x ∧ I x) → (∀ x ∈ acc, RowOK n x ∧ I x) → cnt + acc.length ≤ 60 → inS k cnt p r acc = some a → (∀ x ∈ a, RowOK n x ∧ I x) ∧ cnt + a.length ≤ 60 := by
  intro r
  induction r with
  | nil => intro acc a _ h2 h3 h; cases h; exact ⟨h2, h3⟩
  | cons q r ih =>
    intro acc a h1 h2 h3 h
    have hr : ∀ x ∈ r, RowOK n x ∧ I x := fun x hx => h1 x (by simp [hx])
    unfold inS at h
    by_cases c1 : coef p.term.Coeffs k ≤ 0
    · rw [if_pos c1] at h; exact ih acc a hr h2 h3 h
    · rw [if_neg c1] at h
      by_cases c2 : 0 ≤ coef q.term.Coeffs k
      · rw [if_pos c2] at h; exact ih acc a hr h2 h3 h
      · rw [if_neg c2] at h
        have hq := h1 q (by simp)
        have two : Two n p q k := ⟨hp.1, hq.1, by omega, by omega, hn⟩
        by_cases c3 : (mixR p q k).2 = false ∨ cnt + acc.length = 60
        · rw [if_pos c3] at h; cases h
        · rw [if_neg c3] at h
          have c4 : (mixR p q k).2 = true := by
            cases hf : (mixR p q k).2 with
            | true => rfl
            | false => exact absurd (.inl hf) c3
          have c5 : cnt + acc.length ≠ 60 := fun e => c3 (.inr e)
          refine ih _ a hr (fun x hx => ?_) (by simp; omega) h
          rcases List.mem_append.1 hx with hx | hx
          · exact h2 x hx
          · rw [List.mem_singleton.1 hx]; exact ⟨mx_ok two c4, hm _ _ hp.2 hq.2 two c4⟩
theorem outer_inv {n k cnt : Nat} {rows : List combination} (I : combination → Prop) (hrows : ∀ x ∈ rows, RowOK n x ∧ I x) (hn : n ≤ 14) (hm : ∀ p q, I p → I q → Two n p q k → (mixR p q k).2 = true → I (mxR p q k)) :
    ∀ (r acc a : List combination), (∀ x ∈ r, RowOK n x ∧ I x) → (∀ x ∈ acc, RowOK n x ∧ I x) → cnt + acc.length ≤ 60 → outS k cnt rows r acc = some a → (∀ x ∈ a, RowOK n x ∧ I x) ∧ cnt + a.length ≤ 60 := by
  intro r
  induction r with
  | nil => intro acc a _ h2 h3 h; cases h; exact ⟨h2, h3⟩
  | cons p r ih =>
    intro acc a h1 h2 h3 h
    unfold outS at h
    cases hi : inS k cnt p rows acc with
    | none => rw [hi] at h; cases h
    | some b =>
      rw [hi] at h
      obtain ⟨g1, g2⟩ := inner_inv I (h1 p (by simp)) hn hm rows acc b hrows h2 h3 hi
      exact ih b a (fun x hx => h1 x (by simp [hx])) g1 g2 h
theorem keep_len (k : Nat) (rows : List combination) : (keep k rows).length ≤ rows.length := List.length_filter_le _ _
theorem stage_inv {n k : Nat} {rows a : List combination} (I : combination → Prop) (hrows : ∀ x ∈ rows, RowOK n x ∧ I x) (hl : rows.length ≤ 60) (hn : n ≤ 14)
    (hm : ∀ p q, I p → I q → Two n p q k → (mixR p q k).2 = true → I (mxR p q k)) (h : stage k rows = some a) :
    (∀ x ∈ keep k rows ++ a, RowOK n x ∧ I x) ∧ (keep k rows ++ a).length ≤ 60 ∧ ∀ x ∈ a, RowOK n x ∧ I x := by
  have hk := keep_len k rows
  obtain ⟨g1, g2⟩ := outer_inv (cnt := (keep k rows).length) I hrows hn hm rows [] a hrows (by simp) (by simp; omega) h
  refine ⟨fun x hx => ?_, by simp; omega, g1⟩
  rcases List.mem_append.1 hx with hx | hx
  · exact hrows x (List.mem_filter.1 hx).1
  · exact g1 x hx

/-! ### The program's stages -/
theorem impl_inner {n k : Nat} {p : combination} (hk : k < 10) (hn : n ≤ 14) (hp : RowOK n p) {kept news0 : List combination} (hnews : news0.length ≤ 1000) : ∀ (r acc : List combination) (m : Nat), (∀ x ∈ r, RowOK n x) → kept.length + acc.length ≤ 60 →
    forL (m_impl_eliminated_L4 (k : Int) p) (fun s4 => (.inl (s4.1, s4.2))) m r (news0 ++ acc, kept ++ acc) = some (match inS k kept.length p r acc with | some a => .inl (news0 ++ a, kept ++ a) | none => .inr ([], [], false)) := by
  intro r
  induction r with
  | nil => intro acc m _ _; rfl
  | cons q r ih =>
    intro acc m h1 h2
    have hq := h1 q (by simp)
    have hr : ∀ x ∈ r, RowOK n x := fun x hx => h1 x (by simp [hx])
    have lp := vT_len hp.v
    have lq := vT_len hq.v
    unfold forL inS
    by_cases c1 : coef p.term.Coeffs k ≤ 0
    · rw [show m_impl_eliminated_L4 (k : Int) p m q (news0 ++ acc, kept ++ acc) = some (.next (news0 ++ acc, kept ++ acc)) by
        unfold m_impl_eliminated_L4; rw [impl_coeff lp, Option.bind_some, decide_eq_true c1, cond_true], if_pos c1]
      exact ih acc (m + 1) hr h2
    · by_cases c2 : 0 ≤ coef q.term.Coeffs k
      · rw [show m_impl_eliminated_L4 (k : Int) p m q (news0 ++ acc, kept ++ acc) = some (.next (news0 ++ acc, kept ++ acc)) by
          unfold m_impl_eliminated_L4; rw [impl_coeff lp, Option.bind_some, decide_eq_false c1, cond_false, impl_coeff lq, Option.bind_some, decide_eq_true c2, cond_true], if_neg c1, if_pos c2]
        exact ih acc (m + 1) hr h2
      · have two : Two n p q k := ⟨hp, hq, by omega, by omega, hn⟩
        have hs : m_impl_eliminated_L4 (k : Int) p m q (news0 ++ acc, kept ++ acc) = bif (!(mixR p q k).2) || decide (((kept ++ acc).length : Int) = 60) then some (.out (.inr ([], [], false))) else
            some (.next (news0 ++ (acc ++ [(mixR p q k).1]), kept ++ (acc ++ [(mixR p q k).1]))) := by
          unfold m_impl_eliminated_L4
          rw [impl_coeff lp, Option.bind_some, decide_eq_false c1, cond_false, impl_coeff lq, Option.bind_some, decide_eq_false c2, cond_false, impl_mix two hk, Option.bind_some]
          simp only
          rw [capI_some (by simp; omega), Option.bind_some, capI_some (by simp; omega), Option.bind_some, List.append_assoc, List.append_assoc]
        rw [hs, if_neg c1, if_neg c2]
        by_cases c3 : (mixR p q k).2 = false ∨ kept.length + acc.length = 60
        · rw [if_pos c3]
          have : ((!(mixR p q k).2) || decide (((kept ++ acc).length : Int) = 60)) = true := by
            rcases c3 with c3 | c3
            · rw [c3]; rfl
            · rw [decide_eq_true (by rw [List.length_append, c3]; rfl), Bool.or_true]
          rw [this]; rfl
        · rw [if_neg c3]
          have c5 : kept.length + acc.length ≠ 60 := fun e => c3 (.inr e)
          have : ((!(mixR p q k).2) || decide (((kept ++ acc).length : Int) = 60)) = false := by
            rw [decide_eq_false (by simp; omega), Bool.or_false]
            cases hf : (mixR p q k).2 with
            | true => rfl
            | false => exact absurd (.inl hf) c3
          rw [this]
          exact ih _ (m + 1) hr (by simp; omega)
theorem impl_outer {n k : Nat} {rows nw : List combination} (hk : k < 10) (hn : n ≤ 14) (hrows : ∀ x ∈ rows, RowOK n x) {kept news0 : List combination} (hnews : news0.length ≤ 1000) : ∀ (r acc : List combination) (m : Nat), (∀ x ∈ r, RowOK n x) → (∀ x ∈ acc, RowOK n x) → kept.length + acc.length ≤ 60 →
    forL (m_impl_eliminated_L3 (rows, nw) (k : Int)) (fun s3 => (.inl (s3.1, s3.2))) m r (news0 ++ acc, kept ++ acc) = some (match outS k kept.length rows r acc with | some a => .inl (news0 ++ a, kept ++ a) | none => .inr ([], [], false)) := by
  intro r
  induction r with
  | nil => intro acc m _ _ _; rfl
  | cons p r ih =>
    intro acc m h1 h2 h3
    have hp := h1 p (by simp)
    have hs : m_impl_eliminated_L3 (rows, nw) (k : Int) m p (news0 ++ acc, kept ++ acc) = match inS k kept.length p rows acc with
        | some a => some (.next (news0 ++ a, kept ++ a)) | none => some (.out (.inr ([], [], false))) := by
      unfold m_impl_eliminated_L3
      simp only
      rw [impl_inner hk hn hp hnews rows acc 0 hrows h3, Option.bind_some]
      cases inS k kept.length p rows acc <;> rfl
    unfold forL outS
    rw [hs]
    cases hi : inS k kept.length p rows acc with
    | none => rfl
    | some b =>
      obtain ⟨g1, g2⟩ := inner_inv (fun _ => True) ⟨hp, trivial⟩ hn (fun _ _ _ _ _ _ => trivial) rows acc b (fun x hx => ⟨hrows x hx, trivial⟩) (fun x hx => ⟨h2 x hx, trivial⟩) h3 hi
      exact ih b (m + 1) (fun x hx => h1 x (by simp [hx])) (fun x hx => (g1 x hx).1) g2
theorem keep_take {k j : Nat} {rows : List combination} {x : combination} (hx : rows[j]? = some x) : keep k (rows.take (j + 1)) = bif decide (coef x.term.Coeffs k = 0) then keep k (rows.take j) ++ [x] else keep k (rows.take j) := by
  unfold keep
  rw [List.take_add_one, hx, List.filter_append]
  simp only [Option.toList_some]
  by_cases h : coef x.term.Coeffs k = 0
  · rw [decide_eq_true h, cond_true]; simp [h]
  · rw [decide_eq_false h, cond_false]; simp [h]
theorem impl_keep {n k : Nat} {rows : List combination} (hrows : ∀ x ∈ rows, RowOK n x) (hl : rows.length ≤ 60) : forL (m_impl_eliminated_L2 (k : Int)) (fun s2 => s2) 0 rows [] = some (keep k rows) := by
  obtain ⟨t, h1, h2⟩ := forL_inv (xs := rows) (step := m_impl_eliminated_L2 (k : Int)) (fin := fun s2 => s2) (fun j s => s = keep k (rows.take j)) (fun t => t = keep k rows)
    (fun j x s hx hI => .inl ⟨keep k (rows.take (j + 1)), by
      have hr := hrows x (List.mem_of_getElem? hx)
      have hkl := keep_len k (rows.take j)
      have hj := get_lt hx
      rw [List.length_take] at hkl
      unfold m_impl_eliminated_L2
      rw [impl_coeff (vT_len hr.v), Option.bind_some, keep_take hx, hI]
      cases decide (coef x.term.Coeffs k = 0) with
      | true => rw [cond_true, cond_true, capI_some (by simp; omega)]; rfl
      | false => rfl, rfl⟩)
    (fun s hI => by rw [hI, List.take_length]) (s := []) (by simp [keep])
  rw [h1, h2]
/-- Rows that are as they should be. -/
def Rws (n : Nat) (rows : List combination) : Prop := (∀ x ∈ rows, RowOK n x) ∧ rows.length ≤ 60
theorem Rws.next {n k : Nat} {rows a : List combination} (h : Rws n rows) (hn : n ≤ 14) (hs : stage k rows = some a) : Rws n (keep k rows ++ a) ∧ a.length ≤ 60 := by
  obtain ⟨h1, h2, _⟩ := stage_inv (fun _ => True) (fun x hx => ⟨h.1 x hx, trivial⟩) h.2 hn (fun _ _ _ _ _ _ => trivial) hs
  exact ⟨⟨fun x hx => (h1 x hx).1, h2⟩, by simp at h2; omega⟩
theorem impl_elim {n : Nat} (hn : n ≤ 14) : ∀ (ks : List Nat) (m : Nat) (rows news : List combination), (∀ k ∈ ks, k < 10) → Rws n rows → news.length + 60 * ks.length ≤ 1000 →
    forL m_impl_eliminated_L1 (fun s1 => (.inl (s1.1, s1.2))) m (ks.map fun (k : Nat) => (k : Int)) (rows, news) = some (match elimF ks rows news with | some r => .inl (r.1, r.2) | none => .inr ([], [], false)) := by
  intro ks
  induction ks with
  | nil => intro m rows news _ _ _; rfl
  | cons k ks ih =>
    intro m rows news hks hr hl
    have hk := hks k (by simp)
    have hkl := keep_len k rows
    have hl60 := hr.2
    have hs : m_impl_eliminated_L1 m (k : Int) (rows, news) = match stage k rows with
        | some a => some (.next (keep k rows ++ a, news ++ a)) | none => some (.out (.inr ([], [], false))) := by
      unfold m_impl_eliminated_L1
      simp only
      rw [impl_keep hr.1 hr.2, Option.bind_some]
      unfold m_impl_eliminated_A2
      simp only
      have := impl_outer (rows := rows) (nw := news) hk hn hr.1 (kept := keep k rows) (news0 := news) (by simp at hl; omega) rows [] 0 hr.1 (by simp) (by simp; omega)
      rw [List.append_nil, List.append_nil] at this
      rw [this, Option.bind_some]
      unfold stage
      cases ho : outS k (keep k rows).length rows rows [] with
      | none => rfl
      | some a =>
        obtain ⟨g1, g2⟩ := hr.next hn (show stage k rows = some a from ho)
        have := g1.2
        unfold m_impl_eliminated_A3
        simp only
        rw [decide_eq_false (by omega), cond_false]
    unfold elimF
    simp only [List.map_cons]
    unfold forL
    rw [hs]
    cases hst : stage k rows with
    | none => rfl
    | some a =>
      obtain ⟨g1, g2⟩ := hr.next hn hst
      exact ih (m + 1) _ _ (fun j hj => hks j (by simp [hj])) g1 (by simp at hl ⊢; omega)

/-! ### The first rows -/
def unitB (n i : Nat) : List Int := (List.replicate n (0 : Int)).set i 1
def row0 (ts : List Term) (i : Nat) : combination := combination.mk (tAt ts i) (unitB ts.length i)
def rows0 (ts : List Term) : List combination := (List.range ts.length).map (row0 ts)
theorem tAt_get {ts : List Term} {i : Nat} {t : Term} (h : ts[i]? = some t) : tAt ts i = t := by unfold tAt; rw [h]; rfl
theorem rows0_ok {ts : List Term} (h : ∀ t ∈ ts, vT t = true) (hl : ts.length ≤ 14) : Rws ts.length (rows0 ts) := by
  refine ⟨fun x hx => ?_, by simp [rows0]; omega⟩
  obtain ⟨i, hi, rfl⟩ := List.mem_map.1 hx
  have hi := List.mem_range.1 hi
  refine ⟨tAt_valid h i, by simp [row0, unitB], fun m hm => ?_, ⟨1, ?_, by decide⟩⟩
  · unfold row0 unitB at hm
    rcases List.mem_or_eq_of_mem_set hm with hm | rfl
    · rw [List.eq_of_mem_replicate hm]; omega
    · omega
  · unfold row0 unitB
    refine List.mem_of_getElem? (i := i) ?_
    rw [List.getElem?_set_self (by simpa using hi)]
theorem impl_eliminated {ts : List Term} {ks : List Nat} (h : ∀ t ∈ ts, vT t = true) (hl : ts.length ≤ 14) (hks : ∀ k ∈ ks, k < 10) (hkl : ks.length ≤ 10) :
    m_impl_eliminated ts (ks.map fun (k : Nat) => (k : Int)) = some (match elimF ks (rows0 ts) [] with | some r => (r.1, r.2, true) | none => ([], [], false)) := by
  unfold m_impl_eliminated
  rw [forL_map (row0 ts) ts (fun i x hx => by
    have hi := get_lt hx
    unfold m_impl_eliminated_L0
    rw [makeI_some (by omega), Option.bind_some, getI_some (x := 0) (by rw [List.getElem?_replicate, if_pos hi]), Option.bind_some, capI_some (by simp; omega), Option.bind_some, Int.toNat_natCast]
    unfold row0 unitB
    rw [tAt_get hx]), Option.bind_some]
  unfold m_impl_eliminated_A0
  rw [show (List.range ts.length).map (row0 ts) = rows0 ts from rfl, impl_elim hl ks 0 _ _ hks (rows0_ok h hl) (by simp; omega), Option.bind_some]
  cases elimF ks (rows0 ts) [] <;> rfl
end Go.Mod

/- Stages of the reference's elimination. Plain Lean. -/
namespace Go.Mod
open Go.AM
set_option linter.unusedVariables false
set_option linter.unusedSimpArgs false

theorem row_at {rows : List combination} {i : Nat} {x : combination} (h : rows[i]? = some x) : getI (rows.map rowOf) (i : Int) = some (rowOf x) := getI_some (by rw [List.getElem?_map, h]; rfl)
theorem row_coef {x : combination} {k : Nat} (hk : k < 10) : getI (rowOf x).list (k : Int) = some (coef x.term.Coeffs k) := tab_getI hk
theorem spec_inner6 {n k i : Nat} {p : combination} {rows : List combination} (hk : k < 10) (hn : n ≤ 14) (hp : RowOK n p) (hi : rows[i]? = some p) (hrows : ∀ x ∈ rows, RowOK n x) (hl : rows.length ≤ 60) {kept : List combination} {s : List l06Row} :
    ∀ (q j : Nat) (acc : List combination), j + q = rows.length → kept.length + acc.length ≤ 60 →
      iter (m_spec_l06Stage_L2 (rows.map rowOf) (k : Int) (s, (i : Int))) ((kept ++ acc).map rowOf, (j : Int)) =
        some (match inS k kept.length p (rows.drop j) acc with | some a => .inl ((kept ++ a).map rowOf) | none => .inr ([], 0, false)) := by
  intro q
  induction q with
  | zero =>
    intro j acc hj _
    obtain rfl : j = rows.length := by omega
    rw [List.drop_length]
    refine iter_out ?_
    unfold m_spec_l06Stage_L2
    simp only
    rw [List.length_map, dec_self]; rfl
  | succ q ih =>
    intro j acc hj h2
    have hjl : j < rows.length := by omega
    have hx : rows[j]? = some rows[j] := List.getElem?_eq_getElem hjl
    have hq := hrows _ (List.getElem_mem hjl)
    rw [List.drop_eq_getElem_cons hjl]
    generalize hqe : rows[j] = x at *
    unfold inS
    by_cases c1 : coef p.term.Coeffs k ≤ 0
    · rw [if_pos c1, iter_next (s' := ((kept ++ acc).map rowOf, ((j + 1 : Nat) : Int)))]
      · exact ih (j + 1) acc (by omega) h2
      · unfold m_spec_l06Stage_L2
        simp only
        rw [List.length_map, dec_lt hjl, cond_true, row_at hi, Option.bind_some, row_coef hk, Option.bind_some, decide_eq_true c1, cond_true, w64_succ (by omega)]
    · rw [if_neg c1]
      by_cases c2 : 0 ≤ coef x.term.Coeffs k
      · rw [if_pos c2, iter_next (s' := ((kept ++ acc).map rowOf, ((j + 1 : Nat) : Int)))]
        · exact ih (j + 1) acc (by omega) h2
        · unfold m_spec_l06Stage_L2
          simp only
          rw [List.length_map, dec_lt hjl, cond_true, row_at hi, Option.bind_some, row_coef hk, Option.bind_some, decide_eq_false c1, cond_false, row_at hx, Option.bind_some, row_coef hk, Option.bind_some, decide_eq_true c2, cond_true, w64_succ (by omega)]
      · rw [if_neg c2]
        have two : Two n p x k := ⟨hp, hq, by omega, by omega, hn⟩
        have hs : m_spec_l06Stage_L2 (rows.map rowOf) (k : Int) (s, (i : Int)) ((kept ++ acc).map rowOf, (j : Int)) = bif (!(mixR p x k).2) || decide ((((kept ++ acc).map rowOf).length : Int) = 60) then some (.out (.inr ([], 0, false))) else
            some (.next ((kept ++ (acc ++ [(mixR p x k).1])).map rowOf, ((j + 1 : Nat) : Int))) := by
          unfold m_spec_l06Stage_L2
          simp only
          rw [List.length_map, dec_lt hjl, cond_true, row_at hi, Option.bind_some, row_coef hk, Option.bind_some, decide_eq_false c1, cond_false, row_at hx, Option.bind_some, row_coef hk, Option.bind_some, decide_eq_false c2, cond_false, spec_mix two hk, Option.bind_some]
          unfold m_spec_l06Stage_J0
          simp only
          rw [capI_some (by simp; omega), Option.bind_some, w64_succ (by omega), ← List.append_assoc, List.map_append (l₁ := kept ++ acc)]
          rfl
        by_cases c3 : (mixR p x k).2 = false ∨ kept.length + acc.length = 60
        · rw [if_pos c3]
          have : ((!(mixR p x k).2) || decide ((((kept ++ acc).map rowOf).length : Int) = 60)) = true := by
            rcases c3 with c3 | c3
            · rw [c3]; rfl
            · rw [decide_eq_true (by rw [List.length_map, List.length_append, c3]; rfl), Bool.or_true]
          rw [this] at hs
          rw [iter_out hs]
        · rw [if_neg c3]
          have c5 : kept.length + acc.length ≠ 60 := fun e => c3 (.inr e)
          have : ((!(mixR p x k).2) || decide ((((kept ++ acc).map rowOf).length : Int) = 60)) = false := by
            rw [decide_eq_false (by simp; omega), Bool.or_false]
            cases hf : (mixR p x k).2 with
            | true => rfl
            | false => exact absurd (.inl hf) c3
          rw [this] at hs
          rw [iter_next hs]
          exact ih (j + 1) _ (by omega) (by simp; omega)
theorem spec_outer6 {n k : Nat} {rows : List combination} (hk : k < 10) (hn : n ≤ 14) (hrows : ∀ x ∈ rows, RowOK n x) (hl : rows.length ≤ 60) {kept : List combination} :
    ∀ (q i : Nat) (acc : List combination), i + q = rows.length → (∀ x ∈ acc, RowOK n x) → kept.length + acc.length ≤ 60 →
      iter (m_spec_l06Stage_L1 (rows.map rowOf) (k : Int)) ((kept ++ acc).map rowOf, (i : Int)) =
        some (match outS k kept.length rows (rows.drop i) acc with | some a => .inl ((kept ++ a).map rowOf) | none => .inr ([], 0, false)) := by
  intro q
  induction q with
  | zero =>
    intro i acc hi _ _
    obtain rfl : i = rows.length := by omega
    rw [List.drop_length]
    refine iter_out ?_
    unfold m_spec_l06Stage_L1
    simp only
    rw [List.length_map, dec_self]; rfl
  | succ q ih =>
    intro i acc hi h2 h3
    have hil : i < rows.length := by omega
    have hx : rows[i]? = some rows[i] := List.getElem?_eq_getElem hil
    have hp := hrows _ (List.getElem_mem hil)
    rw [List.drop_eq_getElem_cons hil]
    have hs : m_spec_l06Stage_L1 (rows.map rowOf) (k : Int) ((kept ++ acc).map rowOf, (i : Int)) = match inS k kept.length rows[i] rows acc with
        | some a => some (.next ((kept ++ a).map rowOf, ((i + 1 : Nat) : Int))) | none => some (.out (.inr ([], 0, false))) := by
      unfold m_spec_l06Stage_L1
      simp only
      rw [List.length_map, dec_lt hil, cond_true]
      have := spec_inner6 (s := (kept ++ acc).map rowOf) hk hn hp hx hrows hl (kept := kept) rows.length 0 acc (by omega) h3
      rw [List.drop_zero] at this
      rw [show ((0 : Nat) : Int) = 0 from rfl] at this
      rw [this, Option.bind_some]
      cases inS k kept.length rows[i] rows acc with
      | none => rfl
      | some a => unfold m_spec_l06Stage_A2; simp only; rw [w64_succ (by omega)]
    unfold outS
    cases hin : inS k kept.length rows[i] rows acc with
    | none => rw [hin] at hs; rw [iter_out hs]
    | some b =>
      rw [hin] at hs
      rw [iter_next hs]
      obtain ⟨g1, g2⟩ := inner_inv (fun _ => True) ⟨hp, trivial⟩ hn (fun _ _ _ _ _ _ => trivial) rows acc b (fun x hx => ⟨hrows x hx, trivial⟩) (fun x hx => ⟨h2 x hx, trivial⟩) h3 hin
      exact ih (i + 1) b (by omega) (fun x hx => (g1 x hx).1) g2
theorem spec_stage {n k : Nat} {rows : List combination} (hk : k < 10) (hn : n ≤ 14) (hr : Rws n rows) :
    m_spec_l06Stage (rows.map rowOf) (k : Int) = some (match stage k rows with | some a => ((keep k rows ++ a).map rowOf, ((keep k rows).length : Int), true) | none => ([], 0, false)) := by
  have hl := hr.2
  have hkl := keep_len k rows
  unfold m_spec_l06Stage
  have h := iter_cnt (step := m_spec_l06Stage_L0 (rows.map rowOf) (k : Int)) (fun j => ((keep k (rows.take j)).map rowOf, (j : Int))) rows.length (t := (keep k rows).map rowOf) (fun j hj => by
    have hx : rows[j]? = some rows[j] := List.getElem?_eq_getElem hj
    have hkl := keep_len k (rows.take j)
    rw [List.length_take] at hkl
    unfold m_spec_l06Stage_L0
    simp only
    rw [List.length_map, dec_lt hj, cond_true, row_at hx, Option.bind_some, row_coef hk, Option.bind_some, keep_take hx, w64_succ (by omega)]
    cases decide (coef rows[j].term.Coeffs k = 0) with
    | true => rw [cond_true, cond_true, capI_some (by simp; omega), Option.bind_some, List.map_append]; rfl
    | false => rfl)
    (by
      unfold m_spec_l06Stage_L0
      simp only
      rw [List.length_map, dec_self, cond_false, List.take_length])
  rw [show iter (m_spec_l06Stage_L0 (rows.map rowOf) (k : Int)) ([], 0) = _ from h, Option.bind_some]
  unfold m_spec_l06Stage_A0
  have h2 := spec_outer6 hk hn hr.1 hl (kept := keep k rows) rows.length 0 [] (by omega) (by simp) (by simp; omega)
  rw [List.append_nil, List.drop_zero, show ((0 : Nat) : Int) = 0 from rfl] at h2
  rw [h2, Option.bind_some]
  unfold stage
  cases outS k (keep k rows).length rows rows [] with
  | none => rfl
  | some a => unfold m_spec_l06Stage_A1; simp only [List.length_map]
theorem spec_rows {ts : List Term} (h : ∀ t ∈ ts, vT t = true) (hl : ts.length ≤ 14) : m_spec_l06Rows ts = some ((rows0 ts).map rowOf) := by
  unfold m_spec_l06Rows
  have h1 := iter_cnt (step := m_spec_l06Rows_L0 ts) (fun i => (((List.range i).map (row0 ts)).map rowOf, (i : Int))) ts.length (t := (rows0 ts).map rowOf) (fun i hi => by
    have hx : ts[i]? = some ts[i] := List.getElem?_eq_getElem hi
    unfold m_spec_l06Rows_L0
    simp only
    rw [dec_lt hi, cond_true, getI_some hx, Option.bind_some, makeI_some (by omega), Option.bind_some]
    unfold m_spec_l06Rows_J0
    have h2 := iter_cnt (step := m_spec_l06Rows_L1 ts (((List.range i).map (row0 ts)).map rowOf, (i : Int))) (fun j => ((List.range j).map (fun j => coef ts[i].Coeffs j), (j : Int))) 10 (t := tab fun j => coef ts[i].Coeffs j) (fun j hj => by
      unfold m_spec_l06Rows_L1
      simp only
      rw [decide_eq_true (by omega), cond_true, getI_some hx, Option.bind_some, spec_coeff hj, Option.bind_some, capI_some (by simp; omega), Option.bind_some, w64_succ (by omega), List.range_succ, List.map_append]; rfl)
      (by unfold m_spec_l06Rows_L1; rfl)
    rw [show iter (m_spec_l06Rows_L1 ts (((List.range i).map (row0 ts)).map rowOf, (i : Int))) ([], 0) = _ from h2, Option.bind_some]
    unfold m_spec_l06Rows_A1
    simp only
    rw [getI_some (x := 0) (by rw [List.getElem?_replicate, if_pos hi]), Option.bind_some, capI_some (by simp; omega), Option.bind_some, w64_succ (by omega), Int.toNat_natCast, List.range_succ, List.map_append, List.map_append]
    have : rowOf (row0 ts i) = l06Row.mk ts[i].Const (tab fun j => coef ts[i].Coeffs j) ((List.replicate ts.length 0).set i 1) := by
      unfold rowOf row0 unitB
      rw [tAt_get hx]
    rw [← this]; rfl)
    (by unfold m_spec_l06Rows_L0; simp only; rw [dec_self]; rfl)
  rw [show iter (m_spec_l06Rows_L0 ts) ([], 0) = _ from h1, Option.bind_some]; rfl
theorem spec_every_loop {n : Nat} (hn : n ≤ 14) : ∀ (q s : Nat) (rows news : List combination), s + q = 10 → Rws n rows → news.length + 60 * q ≤ 1000 →
    iter m_spec_l06Every_L0 (rows.map rowOf, news.map rowOf, (s : Int)) = some (match elimF (List.range' s q) rows news with | some r => .inl (r.1.map rowOf, r.2.map rowOf) | none => .inr ([], [], false)) := by
  intro q
  induction q with
  | zero =>
    intro s rows news hs _ _
    obtain rfl : s = 10 := by omega
    exact iter_out (by unfold m_spec_l06Every_L0; rfl)
  | succ q ih =>
    intro s rows news hs hr hl
    have hkl := keep_len s rows
    have hl60 := hr.2
    have hst : m_spec_l06Every_L0 (rows.map rowOf, news.map rowOf, (s : Int)) = match stage s rows with
        | some a => some (.next ((keep s rows ++ a).map rowOf, (news ++ a).map rowOf, ((s + 1 : Nat) : Int))) | none => some (.out (.inr ([], [], false))) := by
      unfold m_spec_l06Every_L0
      simp only
      rw [decide_eq_true (by omega), cond_true, spec_stage (by omega) hn hr, Option.bind_some]
      cases hsg : stage s rows with
      | none => rfl
      | some a =>
        obtain ⟨g1, g2⟩ := hr.next hn hsg
        simp only [Bool.not_true, cond_false]
        rw [sliceI_some (by simp) (by simp), Option.bind_some, w64_succ (by omega)]
        have e : ((((keep s rows ++ a).map rowOf).drop (keep s rows).length).take (((keep s rows ++ a).map rowOf).length - (keep s rows).length)) = a.map rowOf := by
          rw [List.map_append, List.drop_append_of_le_length (by simp)]
          rw [show ((keep s rows).map rowOf).drop (keep s rows).length = [] by rw [List.drop_eq_nil_iff]; simp]
          rw [List.nil_append, List.take_of_length_le (by simp)]
        rw [e, capI_some (by simp; omega), Option.bind_some, List.map_append (l₁ := news)]
    rw [List.range'_succ]
    unfold elimF
    cases hsg : stage s rows with
    | none => rw [hsg] at hst; rw [iter_out hst]
    | some a =>
      rw [hsg] at hst
      rw [iter_next hst]
      obtain ⟨g1, g2⟩ := hr.next hn hsg
      exact ih (s + 1) _ _ (by omega) g1 (by simp; omega)
theorem spec_every {ts : List Term} (h : ∀ t ∈ ts, vT t = true) (hl : ts.length ≤ 14) :
    m_spec_l06Every ts = some (match elimF (List.range 10) (rows0 ts) [] with | some r => (r.1.map rowOf, r.2.map rowOf, true) | none => ([], [], false)) := by
  unfold m_spec_l06Every
  rw [spec_rows h hl, Option.bind_some]
  have h1 := spec_every_loop hl 10 0 (rows0 ts) [] (by omega) (rows0_ok h hl) (by simp)
  rw [show List.range' 0 10 = List.range 10 from rfl, show ((0 : Nat) : Int) = 0 from rfl] at h1
  rw [show iter m_spec_l06Every_L0 ((rows0 ts).map rowOf, [], 0) = _ from h1, Option.bind_some]
  cases elimF (List.range 10) (rows0 ts) [] <;> rfl
end Go.Mod

/- The law of EliminateSymbol. Plain Lean. -/
namespace Go.Mod
open Go.AM
set_option linter.unusedVariables false
set_option linter.unusedSimpArgs false

theorem row_term {x : combination} (h : vT x.term = true) : m_spec_l06Term (rowOf x) = some x.term := by
  unfold m_spec_l06Term
  rw [spec_make (by have := tab_len (fun i => coef x.term.Coeffs i); unfold rowOf; simp only; omega), Option.bind_some]
  have : Term.mk (rowOf x).c (trim (rowOf x).list) = x.term := mkT_self h
  rw [this]
  unfold chk
  rw [h]; rfl
def terms (rows : List combination) : List Term := rows.map combination.term
theorem impl_owns {rows : List combination} (h : ∀ x ∈ rows, vT x.term = true) (hl : rows.length ≤ 1000) : forL m_impl_EliminateSymbol_L0 (fun s0 => s0) 0 rows [] = some (terms rows) := by
  obtain ⟨t, h1, h2⟩ := forL_inv (xs := rows) (step := m_impl_EliminateSymbol_L0) (fin := fun s0 => s0) (fun j s => s = terms (rows.take j)) (fun t => t = terms rows)
    (fun j x s hx hI => .inl ⟨terms (rows.take (j + 1)), by
      have hr := vT_len (h x (List.mem_of_getElem? hx))
      have hj := get_lt hx
      unfold m_impl_EliminateSymbol_L0
      rw [impl_own (by omega), Option.bind_some, hI, capI_some (by simp [terms]; omega), Option.bind_some]
      unfold terms
      rw [List.take_add_one, hx, List.map_append]; rfl, rfl⟩)
    (fun s hI => by rw [hI, List.take_length]) (s := []) (by simp [terms])
  rw [h1, h2]
theorem spec_owns {rows : List combination} {n : Int} {b : Bool} (h : ∀ x ∈ rows, vT x.term = true) (hl : rows.length ≤ 1000) : iter (m_spec_EliminateSymbol_L0 (rows.map rowOf, n, b)) ([], 0) = some (terms rows) := by
  have h1 := iter_cnt (step := m_spec_EliminateSymbol_L0 (rows.map rowOf, n, b)) (fun j => (terms (rows.take j), (j : Int))) rows.length (t := terms rows) (fun j hj => by
    have hx : rows[j]? = some rows[j] := List.getElem?_eq_getElem hj
    unfold m_spec_EliminateSymbol_L0
    simp only
    rw [List.length_map, dec_lt hj, cond_true, row_at hx, Option.bind_some, row_term (h _ (List.getElem_mem hj)), Option.bind_some, capI_some (by simp [terms]; omega), Option.bind_some, w64_succ (by omega)]
    unfold terms
    rw [List.take_add_one, hx, List.map_append]; rfl)
    (by unfold m_spec_EliminateSymbol_L0; simp only; rw [List.length_map, dec_self, cond_false, List.take_length])
  exact h1
def okFacts (ts : List Term) : Bool := ts.all vT && decide (ts.length ≤ 14)
def fElim (ts : List Term) (k : Int) : List Term × Bool :=
  bif okFacts ts && (decide (0 ≤ k) && decide (k ≤ 9)) then (match stage k.toNat (rows0 ts) with | some a => (terms (keep k.toNat (rows0 ts) ++ a), true) | none => ([], false)) else ([], false)
theorem okFacts_iff {ts : List Term} : okFacts ts = true ↔ (∀ t ∈ ts, vT t = true) ∧ ts.length ≤ 14 := by simp [okFacts]
theorem Rws.v {n : Nat} {rows : List combination} (h : Rws n rows) : ∀ x ∈ rows, vT x.term = true := fun x hx => (h.1 x hx).v
theorem spec_elim {ts : List Term} {k : Int} (hl : cTermS ts ≤ 1048576) : m_spec_EliminateSymbol ts k = some (fElim ts k) := by
  unfold m_spec_EliminateSymbol fElim
  rw [show (14 : Int) = ((14 : Nat) : Int) from rfl, spec_all hl, Option.bind_some]
  change (bif !okFacts ts then _ else _) = _
  cases h1 : okFacts ts with
  | false => rfl
  | true =>
    obtain ⟨g1, g2⟩ := okFacts_iff.1 h1
    unfold m_spec_l00In
    rw [Bool.not_true, cond_false, Option.bind_some, Bool.true_and]
    cases h2 : (decide (0 ≤ k) && decide (k ≤ 9)) with
    | false => rfl
    | true =>
      simp only [Bool.and_eq_true, decide_eq_true_eq] at h2
      obtain ⟨j, rfl⟩ := Int.eq_ofNat_of_zero_le h2.1
      rw [Bool.not_true, cond_false, cond_true, spec_rows g1 g2, Option.bind_some, spec_stage (by omega) g2 (rows0_ok g1 g2), Option.bind_some, Int.toNat_natCast]
      cases hs : stage j (rows0 ts) with
      | none => rfl
      | some a =>
        obtain ⟨g3, g4⟩ := (rows0_ok g1 g2).next g2 hs
        simp only [Bool.not_true, cond_false]
        rw [spec_owns g3.v (by have := g3.2; omega), Option.bind_some]; rfl
theorem impl_elimS {ts : List Term} {k : Int} : m_impl_EliminateSymbol ts k = some (fElim ts k) := by
  unfold m_impl_EliminateSymbol m_impl_ValidFacts fElim
  rw [show (14 : Int) = ((14 : Nat) : Int) from rfl, impl_terms, Option.bind_some, Option.bind_some]
  rw [show (decide (ts.length ≤ 14) && ts.all vT) = okFacts ts from Bool.and_comm _ _]
  cases h1 : okFacts ts with
  | false => rfl
  | true =>
    obtain ⟨g1, g2⟩ := okFacts_iff.1 h1
    rw [Bool.not_true, cond_false, show m_impl_isIndex k 10 = some (decide (0 ≤ k) && decide (k ≤ 9)) from rfl, Option.bind_some, Bool.true_and]
    cases h2 : (decide (0 ≤ k) && decide (k ≤ 9)) with
    | false => rfl
    | true =>
      simp only [Bool.and_eq_true, decide_eq_true_eq] at h2
      obtain ⟨j, rfl⟩ := Int.eq_ofNat_of_zero_le h2.1
      rw [Bool.not_true, cond_false, cond_true, Int.toNat_natCast]
      have := impl_eliminated (ks := [j]) g1 g2 (by simp; omega) (by simp)
      rw [show [(j : Int)] = [j].map (fun (k : Nat) => (k : Int)) from rfl, this, Option.bind_some]
      unfold elimF
      cases hs : stage j (rows0 ts) with
      | none => rfl
      | some a =>
        obtain ⟨g3, g4⟩ := (rows0_ok g1 g2).next g2 hs
        unfold elimF
        simp only [Bool.not_true, cond_false]
        rw [impl_owns g3.v (by have := g3.2; omega), Option.bind_some]; rfl
theorem terms_small {rows : List combination} (h : ∀ x ∈ rows, vT x.term = true) (hl : rows.length ≤ 1000) : cTermS (terms rows) ≤ 1048576 := by
  have hk : ∀ (ts : List Term), (∀ t ∈ ts, vT t = true) → (ts.map cTerm).sum ≤ ts.length * 10 := by
    intro ts
    induction ts with
    | nil => intro _; simp
    | cons t r ih =>
      intro h
      have h1 := ih (fun t ht => h t (by simp [ht]))
      have h2 := vT_len (h t (by simp))
      simp only [List.map_cons, List.sum_cons, List.length_cons]
      unfold cTerm at *
      omega
  have := hk (terms rows) (fun t ht => by obtain ⟨x, hx, rfl⟩ := List.mem_map.1 ht; exact h x hx)
  unfold cTermS
  have e : (terms rows).length = rows.length := List.length_map _
  omega
theorem fElim_some {ts : List Term} {k : Int} (h : (fElim ts k).2 = true) : (∀ t ∈ ts, vT t = true) ∧ ts.length ≤ 14 ∧ ∃ j a, j < 10 ∧ k = ((j : Nat) : Int) ∧ stage j (rows0 ts) = some a ∧ fElim ts k = (terms (keep j (rows0 ts) ++ a), true) := by
  unfold fElim at h ⊢
  cases h1 : okFacts ts && (decide (0 ≤ k) && decide (k ≤ 9)) with
  | false => rw [h1] at h; cases h
  | true =>
    rw [h1, cond_true] at h
    simp only [Bool.and_eq_true, decide_eq_true_eq] at h1
    obtain ⟨g1, g2⟩ := okFacts_iff.1 h1.1
    obtain ⟨j, rfl⟩ := Int.eq_ofNat_of_zero_le h1.2.1
    rw [Int.toNat_natCast] at h ⊢
    cases hs : stage j (rows0 ts) with
    | none => rw [hs] at h; cases h
    | some a => exact ⟨g1, g2, j, a, by omega, rfl, hs, by rw [cond_true]⟩
theorem fElim_small (ts : List Term) (k : Int) : cTermS (fElim ts k).1 ≤ 1048576 := by
  cases h : (fElim ts k).2 with
  | true =>
    obtain ⟨g1, g2, j, a, hj, rfl, hs, e⟩ := fElim_some h
    obtain ⟨g3, g4⟩ := (rows0_ok g1 g2).next g2 hs
    rw [e]
    exact terms_small g3.v (by have := g3.2; omega)
  | false =>
    have : (fElim ts k).1 = [] := by
      unfold fElim at h ⊢
      cases h1 : okFacts ts && (decide (0 ≤ k) && decide (k ≤ 9)) with
      | false => rfl
      | true =>
        rw [h1, cond_true] at h
        rw [cond_true]
        cases hs : stage k.toNat (rows0 ts) with
        | none => rfl
        | some a => rw [hs] at h; cases h
    rw [this]; exact Nat.zero_le _
theorem law_EliminateSymbol {ts : List Term} {k : Int} (kt : kLa_Term ts) (kk : k_i64 k) : m_laws_FnExactEliminateSymbol ts k = some true := by
  unfold m_laws_FnExactEliminateSymbol
  rw [show (1048576 : Int) = ((1048576 : Nat) : Int) from rfl, sz_TermS kt _ (Nat.le_refl _), Option.bind_some]
  by_cases h1 : cTermS ts ≤ 1048576
  · have hs := fElim_small ts k
    obtain ⟨r1, a1, _⟩ := mkh_TermS (ts := ts) (k := 1) (by omega)
    obtain ⟨r3, a3, b3⟩ := mkh_TermS (ts := (fElim ts k).1) (k := 1) (by omega)
    replace a1 : m_laws_markTermS ts 1 = _ := a1
    replace a3 : m_laws_markTermS (fElim ts k).1 1 = _ := a3
    replace b3 : m_laws_heldTermS r3 1 = _ := b3
    simp only [szOut_ok h1, dec_neg, cond_false, Option.bind_some, to_TermS h1, spec_elim h1, impl_elimS, eq_TermS hs, eq_TermS h1, decide_true, bool_beq, Bool.not_true, Bool.or_false, a1, a3, b3]
  · rw [szOut_no h1]; rfl
end Go.Mod

/- What the rows of an elimination are: combinations of the facts, without the symbols. Plain Lean. -/
namespace Go.Mod
open Go.AM
set_option linter.unusedVariables false
set_option linter.unusedSimpArgs false

/-! ### What holds of the new rows -/
theorem inner_new {n k cnt : Nat} {p : combination} (I J : combination → Prop) (hp : RowOK n p ∧ I p) (hn : n ≤ 14) (hm : ∀ p q, I p → I q → Two n p q k → (mixR p q k).2 = true → J (mxR p q k)) :
    ∀ (r acc a : List combination), (∀ x ∈ r, RowOK n x ∧ I x) → (∀ x ∈ acc, J x) → inS k cnt p r acc = some a → ∀ x ∈ a, J x := by
  intro r
  induction r with
  | nil => intro acc a _ h2 h; cases h; exact h2
  | cons q r ih =>
    intro acc a h1 h2 h
    have hr : ∀ x ∈ r, RowOK n x ∧ I x := fun x hx => h1 x (by simp [hx])
    unfold inS at h
    by_cases c1 : coef p.term.Coeffs k ≤ 0
    · rw [if_pos c1] at h; exact ih acc a hr h2 h
    · rw [if_neg c1] at h
      by_cases c2 : 0 ≤ coef q.term.Coeffs k
      · rw [if_pos c2] at h; exact ih acc a hr h2 h
      · rw [if_neg c2] at h
        have hq := h1 q (by simp)
        have two : Two n p q k := ⟨hp.1, hq.1, by omega, by omega, hn⟩
        by_cases c3 : (mixR p q k).2 = false ∨ cnt + acc.length = 60
        · rw [if_pos c3] at h; cases h
        · rw [if_neg c3] at h
          have c4 : (mixR p q k).2 = true := by
            cases hf : (mixR p q k).2 with
            | true => rfl
            | false => exact absurd (.inl hf) c3
          refine ih _ a hr (fun x hx => ?_) h
          rcases List.mem_append.1 hx with hx | hx
          · exact h2 x hx
          · rw [List.mem_singleton.1 hx]; exact hm _ _ hp.2 hq.2 two c4
theorem outer_new {n k cnt : Nat} {rows : List combination} (I J : combination → Prop) (hrows : ∀ x ∈ rows, RowOK n x ∧ I x) (hn : n ≤ 14) (hm : ∀ p q, I p → I q → Two n p q k → (mixR p q k).2 = true → J (mxR p q k)) :
    ∀ (r acc a : List combination), (∀ x ∈ r, RowOK n x ∧ I x) → (∀ x ∈ acc, J x) → outS k cnt rows r acc = some a → ∀ x ∈ a, J x := by
  intro r
  induction r with
  | nil => intro acc a _ h2 h; cases h; exact h2
  | cons p r ih =>
    intro acc a h1 h2 h
    unfold outS at h
    cases hi : inS k cnt p rows acc with
    | none => rw [hi] at h; cases h
    | some b =>
      rw [hi] at h
      exact ih b a (fun x hx => h1 x (by simp [hx])) (inner_new I J (h1 p (by simp)) hn hm rows acc b hrows h2 hi) h
theorem stage_zero {n k : Nat} {rows a : List combination} (I : combination → Prop) (hrows : ∀ x ∈ rows, RowOK n x ∧ I x) (hn : n ≤ 14)
    (hm : ∀ p q, I p → I q → Two n p q k → (mixR p q k).2 = true → I (mxR p q k)) (hk : k < 10) (h : stage k rows = some a) : ∀ x ∈ keep k rows ++ a, coef x.term.Coeffs k = 0 := by
  intro x hx
  rcases List.mem_append.1 hx with hx | hx
  · exact of_decide_eq_true (List.mem_filter.1 hx).2
  · exact outer_new I (fun x => coef x.term.Coeffs k = 0) hrows hn (fun p q _ _ two _ => mx_zero two hk) rows [] a hrows (by simp) h x hx
theorem elim_inv {n : Nat} (I : combination → Prop) (hn : n ≤ 14) (hm : ∀ k p q, k < 10 → I p → I q → Two n p q k → (mixR p q k).2 = true → I (mxR p q k)) : ∀ (ks : List Nat) (rows news : List combination) (r : List combination × List combination),
    (∀ k ∈ ks, k < 10) → (∀ x ∈ rows, RowOK n x ∧ I x) → rows.length ≤ 60 → (∀ x ∈ news, RowOK n x ∧ I x) → elimF ks rows news = some r → (∀ x ∈ r.1, RowOK n x ∧ I x) ∧ r.1.length ≤ 60 ∧ ∀ x ∈ r.2, RowOK n x ∧ I x := by
  intro ks
  induction ks with
  | nil => intro rows news r _ h1 h2 h3 h; cases h; exact ⟨h1, h2, h3⟩
  | cons k ks ih =>
    intro rows news r hks h1 h2 h3 h
    unfold elimF at h
    cases hs : stage k rows with
    | none => rw [hs] at h; cases h
    | some a =>
      rw [hs] at h
      obtain ⟨g1, g2, g3⟩ := stage_inv I h1 h2 hn (hm k · · (hks k (by simp))) hs
      refine ih _ _ r (fun j hj => hks j (by simp [hj])) g1 g2 (fun x hx => ?_) h
      rcases List.mem_append.1 hx with hx | hx
      · exact h3 x hx
      · exact g3 x hx
theorem elim_zero {n : Nat} (hn : n ≤ 14) : ∀ (ks : List Nat) (done : List Nat) (rows news : List combination) (r : List combination × List combination),
    (∀ k ∈ ks, k < 10) → (∀ k ∈ done, k < 10) → (∀ x ∈ rows, RowOK n x ∧ ∀ i ∈ done, coef x.term.Coeffs i = 0) → rows.length ≤ 60 → elimF ks rows news = some r → ∀ x ∈ r.1, ∀ i, i ∈ done ∨ i ∈ ks → coef x.term.Coeffs i = 0 := by
  intro ks
  induction ks with
  | nil => intro done rows news r _ _ h1 _ h; cases h; exact fun x hx i hi => by rcases hi with hi | hi; exact (h1 x hx).2 i hi; cases hi
  | cons k ks ih =>
    intro done rows news r hks hd h1 h2 h
    unfold elimF at h
    have hk := hks k (by simp)
    have hm : ∀ p q, (∀ i ∈ done, coef p.term.Coeffs i = 0) → (∀ i ∈ done, coef q.term.Coeffs i = 0) → Two n p q k → (mixR p q k).2 = true → (∀ i ∈ done, coef (mxR p q k).term.Coeffs i = 0) :=
      fun p q hp hq two _ i hi => mx_gone two (hd i hi) (hp i hi) (hq i hi)
    cases hs : stage k rows with
    | none => rw [hs] at h; cases h
    | some a =>
      rw [hs] at h
      obtain ⟨g1, g2, g3⟩ := stage_inv (fun x => ∀ i ∈ done, coef x.term.Coeffs i = 0) h1 h2 hn hm hs
      have gz := stage_zero (fun x => ∀ i ∈ done, coef x.term.Coeffs i = 0) h1 hn hm hk hs
      have := ih (k :: done) _ _ r (fun j hj => hks j (by simp [hj])) (fun j hj => by rcases List.mem_cons.1 hj with rfl | hj; exact hk; exact hd j hj)
        (fun x hx => ⟨(g1 x hx).1, fun i hi => by rcases List.mem_cons.1 hi with rfl | hi; exact gz x hx; exact (g1 x hx).2 i hi⟩) g2 h
      intro x hx i hi
      refine this x hx i ?_
      rcases hi with hi | hi
      · exact .inl (by simp [hi])
      · rcases List.mem_cons.1 hi with rfl | hi
        · exact .inl (by simp)
        · exact .inr hi

/-! ### Rows are combinations of the facts -/
structure Comb (ts : List Term) (x : combination) : Prop where
  c : x.term.Const = lin ts x.by_ Term.Const ts.length
  f : ∀ i, i < 10 → coef x.term.Coeffs i = lin ts x.by_ (fun t => coef t.Coeffs i) ts.length
theorem unitB_coef {n i : Nat} (hi : i < n) (j : Nat) : coef (unitB n i) j = if j = i then 1 else 0 := by
  unfold coef unitB
  rw [List.getElem?_set]
  by_cases h : i = j
  · subst h; simp [hi]
  · rw [if_neg h, if_neg (fun e => h e.symm), List.getElem?_replicate]
    by_cases h2 : j < n <;> simp [h2]
theorem sumN_pick (g : Nat → Int) (i : Nat) : ∀ n, sumN (fun j => (if j = i then (1 : Int) else 0) * g j) n = if i < n then g i else 0 := by
  intro n
  induction n with
  | zero => simp [sumN]
  | succ n ih =>
    unfold sumN
    rw [ih]
    by_cases h : n = i
    · subst h; simp
    · by_cases h2 : i < n
      · rw [if_neg h, if_pos h2, if_pos (show i < n + 1 by omega)]; omega
      · rw [if_neg h, if_neg h2, if_neg (show ¬ i < n + 1 by omega)]; omega
theorem lin_unit {ts : List Term} {i : Nat} (hi : i < ts.length) (g : Term → Int) : lin ts (unitB ts.length i) g ts.length = g (tAt ts i) := by
  unfold lin
  rw [sumN_congr (g := fun j => (if j = i then (1 : Int) else 0) * g (tAt ts j)) ts.length (fun j _ => by rw [unitB_coef hi]), sumN_pick (fun j => g (tAt ts j)) i ts.length, if_pos hi]
theorem rows0_comb (ts : List Term) : ∀ x ∈ rows0 ts, Comb ts x := by
  intro x hx
  obtain ⟨i, hi, rfl⟩ := List.mem_map.1 hx
  have hi := List.mem_range.1 hi
  exact ⟨(lin_unit hi Term.Const).symm, fun j _ => (lin_unit hi (fun t => coef t.Coeffs j)).symm⟩
section
variable {ts : List Term} {k : Nat} {p q : combination}
theorem lin_mx (h : Two ts.length p q k) (g : Term → Int) : (mxD p q k : Int) * lin ts (mxR p q k).by_ g ts.length = mxN p q k * lin ts p.by_ g ts.length + mxM p q k * lin ts q.by_ g ts.length := by
  unfold lin
  rw [← sumN_mul, ← sumN_mul, ← sumN_mul, ← sumN_add]
  refine sumN_congr ts.length (fun j hj => ?_)
  have hjp : j < p.by_.length := by rw [h.rp.len]; exact hj
  have hb : coef (mxB p q k) j = mxJ p q k j := coef_get (by unfold mxB; rw [List.getElem?_map, List.getElem?_range hjp]; rfl)
  have hm : mxJ p q k j ∈ mxB p q k := List.mem_map.2 ⟨j, List.mem_range.2 hjp, rfl⟩
  have e : coef (mxR p q k).by_ j = (mxJ p q k j).tdiv (mxD p q k) := by unfold mxR; simp only; rw [coef_quos, hb]
  rw [e, ← Int.mul_assoc, Int.mul_comm (mxD p q k : Int), quo_mul (mxD_b hm)]
  unfold mxJ
  rw [Int.add_mul, Int.mul_assoc, Int.mul_assoc]
theorem mx_comb (h : Two ts.length p q k) (hp : Comb ts p) (hq : Comb ts q) : Comb ts (mxR p q k) := by
  have hd : (mxD p q k : Int) ≠ 0 := by have := h.d; omega
  refine ⟨?_, fun i hi => ?_⟩
  · refine Int.eq_of_mul_eq_mul_left hd ?_
    rw [lin_mx h, ← hp.c, ← hq.c]
    have : (mxR p q k).term.Const = (mxC p q k).tdiv (mxD p q k) := rfl
    rw [this, Int.mul_comm, quo_mul mxD_c]; rfl
  · refine Int.eq_of_mul_eq_mul_left hd ?_
    rw [lin_mx h, ← hp.f i hi, ← hq.f i hi, mxV_coef h i hi, Int.mul_comm, quo_mul (mxD_v (p := p) (q := q) (k := k) (List.mem_map.2 ⟨i, List.mem_range.2 hi, rfl⟩))]; rfl
end
theorem Comb.val {ts : List Term} {x : combination} (h : Comb ts x) (v : List Int) : val x.term v = lin ts x.by_ (fun t => val t v) ts.length := by
  rw [← val_lin]
  unfold Go.Mod.val
  rw [h.c, sumN_congr (f := fun i => coef x.term.Coeffs i * coef v i) 10 (fun i hi => by rw [h.f i hi])]
theorem lin_nonneg {ts : List Term} {ms : List Int} {g : Term → Int} (hm : ∀ j, 0 ≤ coef ms j) (hg : ∀ t ∈ ts, 0 ≤ g t) : 0 ≤ lin ts ms g ts.length := by
  unfold lin
  refine sumN_nonneg ts.length (fun j hj => Int.mul_nonneg (hm j) (hg _ ?_))
  rw [tAt_get (List.getElem?_eq_getElem hj)]; exact List.getElem_mem hj
/-- What holds wherever the facts hold. -/
theorem comb_hold {ts : List Term} {x : combination} {v : List Int} (h : Comb ts x) (hr : RowOK ts.length x) (ha : allHold ts v = true) : 0 ≤ Go.Mod.val x.term v := by
  rw [h.val]
  refine lin_nonneg (fun j => (hr.coefB j).1) (fun t ht => ?_)
  unfold allHold at ha
  have := List.all_eq_true.1 ha t ht
  simp only [Bool.not_eq_true', decide_eq_false_iff_not] at this
  omega
/-- All rows, of the last stage and new ones. -/
theorem elim_comb {ts : List Term} {ks : List Nat} {r : List combination × List combination} (h : ∀ t ∈ ts, vT t = true) (hl : ts.length ≤ 14) (hks : ∀ k ∈ ks, k < 10) (he : elimF ks (rows0 ts) [] = some r) :
    (∀ x ∈ r.1, RowOK ts.length x ∧ Comb ts x) ∧ r.1.length ≤ 60 ∧ ∀ x ∈ r.2, RowOK ts.length x ∧ Comb ts x := by
  have h0 := rows0_ok h hl
  exact elim_inv (Comb ts) hl (fun k p q _ hp hq two _ => mx_comb two hp hq) ks (rows0 ts) [] r hks (fun x hx => ⟨h0.1 x hx, rows0_comb ts x hx⟩) h0.2 (by simp) he
end Go.Mod

/- The law of refutations. Plain Lean. -/
namespace Go.Mod
open Go.AM
set_option linter.unusedVariables false
set_option linter.unusedSimpArgs false

theorem impl_symbols : m_impl_allSymbols 10 = some ((List.range 10).map fun (k : Nat) => (k : Int)) := by
  unfold m_impl_allSymbols
  have h := iter_cnt (step := m_impl_allSymbols_L0 10) (fun j => ((List.range j).map (fun (k : Nat) => (k : Int)), (j : Int))) 10 (t := (List.range 10).map fun (k : Nat) => (k : Int)) (fun j hj => by
    unfold m_impl_allSymbols_L0
    simp only
    rw [decide_eq_true (by omega), cond_true, capI_some (by simp; omega), Option.bind_some, w64_succ (by omega), List.range_succ, List.map_append]; rfl)
    (by unfold m_impl_allSymbols_L0; rfl)
  rw [show iter (m_impl_allSymbols_L0 10) ([], 0) = _ from h]; rfl
def neg (x : combination) : Bool := decide (x.term.Const < 0)
def fRefute (ts : List Term) : List Int × Bool :=
  bif okFacts ts then (match elimF (List.range 10) (rows0 ts) [] with
    | some r => (match r.1.find? neg with | some x => (x.by_, true) | none => ([], false))
    | none => ([], false)) else ([], false)
theorem impl_find {n : Nat} {rows : List combination} (h : ∀ x ∈ rows, RowOK n x) (hn : n ≤ 14) : ∀ m, forL m_impl_RefuteFacts_L0 (fun s0 => (.inl ())) m rows () = some (match rows.find? neg with | some x => .inr (x.by_, true) | none => .inl ()) := by
  induction rows with
  | nil => intro m; rfl
  | cons x r ih =>
    intro m
    have hx := h x (by simp)
    unfold forL
    rw [List.find?_cons]
    have hs : m_impl_RefuteFacts_L0 m x () = bif neg x then some (.out (.inr (x.by_, true))) else some (.next ()) := by
      unfold m_impl_RefuteFacts_L0 neg
      rw [impl_copy (by rw [hx.len]; omega), Option.bind_some]
    rw [hs]
    cases neg x with
    | true => rfl
    | false => exact ih (fun y hy => h y (by simp [hy])) (m + 1)
theorem spec_find {rows : List combination} {fr : List l06Row} {b : Bool} (hl : rows.length ≤ 1000) : iter (m_spec_l06Refute_L0 (rows.map rowOf, fr, b)) 0 = some (match rows.find? neg with | some x => .inr (x.by_, true) | none => .inl ()) := by
  have key : ∀ (q j : Nat), j + q = rows.length → iter (m_spec_l06Refute_L0 (rows.map rowOf, fr, b)) (j : Int) = some (match (rows.drop j).find? neg with | some x => .inr (x.by_, true) | none => .inl ()) := by
    intro q
    induction q with
    | zero =>
      intro j hj
      obtain rfl : j = rows.length := by omega
      rw [List.drop_length]
      exact iter_out (by unfold m_spec_l06Refute_L0; simp only; rw [List.length_map, dec_self]; rfl)
    | succ q ih =>
      intro j hj
      have hjl : j < rows.length := by omega
      have hx : rows[j]? = some rows[j] := List.getElem?_eq_getElem hjl
      have hs : m_spec_l06Refute_L0 (rows.map rowOf, fr, b) (j : Int) = bif neg rows[j] then some (.out (.inr (rows[j].by_, true))) else some (.next ((j + 1 : Nat) : Int)) := by
        unfold m_spec_l06Refute_L0
        simp only
        rw [List.length_map, dec_lt hjl, cond_true, row_at hx, Option.bind_some, w64_succ (by omega)]; rfl
      rw [List.drop_eq_getElem_cons hjl, List.find?_cons]
      cases hn : neg rows[j] with
      | true => rw [hn] at hs; rw [iter_out hs]
      | false => rw [hn] at hs; rw [iter_next hs]; exact ih (j + 1) (by omega)
  have := key rows.length 0 (by omega)
  rw [List.drop_zero] at this
  exact this
theorem range10 : ∀ k ∈ List.range 10, k < 10 := fun k hk => List.mem_range.1 hk
theorem impl_refute {ts : List Term} : m_impl_RefuteFacts ts = some (fRefute ts) := by
  unfold m_impl_RefuteFacts m_impl_ValidFacts fRefute
  rw [show (14 : Int) = ((14 : Nat) : Int) from rfl, impl_terms, Option.bind_some, Option.bind_some]
  rw [show (decide (ts.length ≤ 14) && ts.all vT) = okFacts ts from Bool.and_comm _ _]
  cases h1 : okFacts ts with
  | false => rfl
  | true =>
    obtain ⟨g1, g2⟩ := okFacts_iff.1 h1
    rw [Bool.not_true, cond_false, impl_symbols, Option.bind_some, impl_eliminated g1 g2 range10 (by simp), Option.bind_some, cond_true]
    cases he : elimF (List.range 10) (rows0 ts) [] with
    | none => rfl
    | some r =>
      obtain ⟨e1, e2, e3⟩ := elim_comb g1 g2 range10 he
      simp only [Bool.not_true, cond_false]
      rw [impl_find (fun x hx => (e1 x hx).1) g2, Option.bind_some]
      cases r.1.find? neg <;> rfl
theorem spec_refute {ts : List Term} (hl : cTermS ts ≤ 1048576) : m_spec_RefuteFacts ts = some (fRefute ts) := by
  unfold m_spec_RefuteFacts fRefute
  rw [show (14 : Int) = ((14 : Nat) : Int) from rfl, spec_all hl, Option.bind_some]
  change (bif !okFacts ts then _ else _) = _
  cases h1 : okFacts ts with
  | false => rfl
  | true =>
    obtain ⟨g1, g2⟩ := okFacts_iff.1 h1
    unfold m_spec_l06Refute
    rw [Bool.not_true, cond_false, spec_every g1 g2, Option.bind_some, cond_true]
    cases he : elimF (List.range 10) (rows0 ts) [] with
    | none => rfl
    | some r =>
      obtain ⟨e1, e2, e3⟩ := elim_comb g1 g2 range10 he
      simp only [Bool.not_true, cond_false]
      rw [spec_find (by omega), Option.bind_some]
      cases hf : r.1.find? neg with
      | none => rfl
      | some x =>
        have hx := (e1 x (List.mem_of_find?_eq_some hf)).1
        unfold m_spec_l06Refute_A0
        simp only [Option.bind_some, Bool.not_true, cond_false]
        rw [spec_own (by rw [hx.len]; omega), Option.bind_some]
theorem fRefute_some {ts : List Term} (h : (fRefute ts).2 = true) : (∀ t ∈ ts, vT t = true) ∧ ts.length ≤ 14 ∧ ∃ x, fRefute ts = (x.by_, true) ∧ RowOK ts.length x ∧ Comb ts x ∧ x.term.Const < 0 ∧ ∀ i, i < 10 → coef x.term.Coeffs i = 0 := by
  unfold fRefute at h ⊢
  cases h1 : okFacts ts with
  | false => rw [h1] at h; cases h
  | true =>
    obtain ⟨g1, g2⟩ := okFacts_iff.1 h1
    rw [h1, cond_true] at h
    rw [cond_true]
    cases he : elimF (List.range 10) (rows0 ts) [] with
    | none => rw [he] at h; cases h
    | some r =>
      obtain ⟨e1, e2, e3⟩ := elim_comb g1 g2 range10 he
      have h0 := rows0_ok g1 g2
      have ez := elim_zero g2 (List.range 10) [] (rows0 ts) [] r range10 (by simp) (fun x hx => ⟨h0.1 x hx, by simp⟩) h0.2 he
      rw [he] at h
      simp only at h
      cases hf : r.1.find? neg with
      | none => rw [hf] at h; cases h
      | some x =>
        have hm := List.mem_of_find?_eq_some hf
        refine ⟨g1, g2, x, by simp only [hf], (e1 x hm).1, (e1 x hm).2, ?_, fun i hi => ez x hm i (.inr (List.mem_range.2 hi))⟩
        have := List.find?_some hf
        exact of_decide_eq_true this
theorem no_coef {t : Term} (h : vT t = true) (hz : ∀ i, i < 10 → coef t.Coeffs i = 0) : t.Coeffs = [] := by
  refine coef_ext (vT_last h) rfl (fun i => ?_)
  by_cases hi : i < 10
  · rw [hz i hi]; rfl
  · rw [coef_ten h (by omega)]; rfl
theorem comb_comb {ts : List Term} {x : combination} (h : ∀ t ∈ ts, vT t = true) (hl : ts.length ≤ 14) (hr : RowOK ts.length x) (hc : Comb ts x) : fComb ts x.by_ = (x.term, true) := by
  unfold fComb
  have h1 : ts.all vT = true := List.all_eq_true.2 h
  have h4 : x.by_.all inM = true := List.all_eq_true.2 (fun m hm => by have := hr.rng m hm; simp [inM]; omega)
  rw [h1, decide_eq_true hl, decide_eq_true hr.len, h4]
  simp only [Bool.and_self, cond_true]
  have : Term.mk (lin ts x.by_ Term.Const ts.length) (trim (tab fun i => lin ts x.by_ (fun t => coef t.Coeffs i) ts.length)) = x.term := mkT_ext hr.v hc.c.symm (fun i hi => (hc.f i hi).symm)
  rw [this]
  unfold chk
  rw [hr.v]; rfl
theorem impl_isref (ts : List Term) (ms : List Int) : m_impl_IsRefuted ts ms = some (fRef (fComb ts ms)) := by unfold m_impl_IsRefuted; rw [impl_comb]; rfl
theorem facts_small {ts : List Term} (h : ∀ t ∈ ts, vT t = true) (hl : ts.length ≤ 1000) : cTermS ts ≤ 1048576 := by
  have := terms_small (rows := ts.map fun t => combination.mk t []) (fun x hx => by obtain ⟨t, ht, rfl⟩ := List.mem_map.1 hx; exact h t ht) (by simpa using hl)
  unfold terms at this
  rw [List.map_map] at this
  simpa [Function.comp_def] using this
theorem law_Refuting {a b : List Int} (ka : kLa_u8 a) (kb : kLa_u8 b) : m_laws_FnRefuting a b = some true := by
  unfold m_laws_FnRefuting
  by_cases hl : a.length ≤ 1048576 ∧ b.length ≤ 1048576
  · rw [long_no hl.1 hl.2, Option.bind_some, cond_false]
    obtain ⟨ts, et, hlen, hts⟩ := facts_ok ka.2 hl.1
    obtain ⟨v, ev, hv⟩ := values_ok kb.2 hl.2
    have hvt : ∀ t ∈ ts, vT t = true := fun t ht => (hts t ht).v
    rw [et, Option.bind_some, ev, Option.bind_some, impl_refute, Option.bind_some, spec_refute (facts_small hvt (by omega)), Option.bind_some, bool_beq, Bool.not_true, cond_false]
    cases h : (fRefute ts).2 with
    | false => rfl
    | true =>
      obtain ⟨g1, g2, x, e, hr, hc, hneg, hz⟩ := fRefute_some h
      rw [Bool.not_true, cond_false, e, impl_isref, Option.bind_some, comb_comb g1 g2 hr hc]
      have hnil := no_coef hr.v hz
      have hf : fRef (x.term, true) = true := by
        unfold fRef
        rw [hnil, decide_eq_true hneg]; rfl
      rw [hf, cond_true, hold_ok hvt (by omega) hv, Option.bind_some]
      cases hh : allHold ts v with
      | false => rfl
      | true =>
        have h0 := comb_hold hc hr hh
        have : Go.Mod.val x.term v = x.term.Const := by
          unfold Go.Mod.val
          rw [hnil, sumN_congr (g := fun _ => 0) 10 (fun i _ => by rw [coef_nil, Int.zero_mul]), sumN_zero]
          omega
        omega
  · rw [long_yes hl]; rfl
end Go.Mod
