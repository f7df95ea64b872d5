/- Terms: sums of multiples. Plain Lean. -/
import Derived.Test.YtlijhkhbdfgapaaPuB
namespace Go.Mod
open Go.AM
set_option linter.unusedVariables false

/-- The sum of the first n. -/
def sumN (f : Nat → Int) : Nat → Int
  | 0 => 0
  | n + 1 => sumN f n + f n
theorem sumN_rng {f : Nat → Int} {B : Int} (h : ∀ i, -B ≤ f i ∧ f i ≤ B) : ∀ n : Nat, -(n * B) ≤ sumN f n ∧ sumN f n ≤ n * B := by
  intro n
  induction n with
  | zero => simp [sumN]
  | succ n ih =>
    have := h n
    have e : ((n + 1 : Nat) : Int) * B = n * B + B := by rw [Int.natCast_add]; simp [Int.add_mul]
    rw [e]
    unfold sumN
    omega
def tAt (ts : List Term) (k : Nat) : Term := ts[k]?.getD ⟨0, []⟩
def lin (ts : List Term) (ms : List Int) (g : Term → Int) (n : Nat) : Int := sumN (fun k => coef ms k * g (tAt ts k)) n
def mOK (m : Int) : Prop := -1000000 ≤ m ∧ m ≤ 1000000
def Lin (ts : List Term) (ms : List Int) : Prop := (∀ t ∈ ts, vT t = true) ∧ (∀ m ∈ ms, mOK m) ∧ ts.length ≤ 14 ∧ ms.length = ts.length
theorem tAt_valid {ts : List Term} (h : ∀ t ∈ ts, vT t = true) (k : Nat) : vT (tAt ts k) = true := by
  unfold tAt
  cases hx : ts[k]? with
  | none => rfl
  | some t => exact h t (List.mem_of_getElem? hx)
theorem coef_m {ms : List Int} (h : ∀ m ∈ ms, mOK m) (k : Nat) : -1000000 ≤ coef ms k ∧ coef ms k ≤ 1000000 := by
  unfold coef
  cases hx : ms[k]? with
  | none => simp
  | some m => exact h m (List.mem_of_getElem? hx)
theorem mul_rng {a b : Int} (h1 : -1000000 ≤ a ∧ a ≤ 1000000) (h2 : -1000000 ≤ b ∧ b ≤ 1000000) : -1000000000000 ≤ a * b ∧ a * b ≤ 1000000000000 := by
  have := prod_rng h1.1 h1.2 h2.1 h2.2
  omega
theorem lin_rng {ts : List Term} {ms : List Int} (h : Lin ts ms) {g : Term → Int} (hg : ∀ t, vT t = true → -1000000 ≤ g t ∧ g t ≤ 1000000) {n : Nat} (hn : n ≤ 14) :
    -14000000000000 ≤ lin ts ms g n ∧ lin ts ms g n ≤ 14000000000000 := by
  have := sumN_rng (f := fun k => coef ms k * g (tAt ts k)) (B := 1000000000000) (fun i => mul_rng (coef_m h.2.1 i) (hg _ (tAt_valid h.1 i))) n
  unfold lin
  omega

/-- One term more: the coefficients. -/
theorem inner {f : Nat → Int} {m : Int} {xs : List Int} (hm : mOK m) (hl : xs.length ≤ 10) (hx : ∀ x ∈ xs, inR x = true) (hf : ∀ i, -100000000000000 ≤ f i ∧ f i ≤ 100000000000000) :
    forL (m_impl_combined_L1 m) (fun s1 => s1) 0 xs (tab f) = some (tab fun i => f i + m * coef xs i) := by
  obtain ⟨t, h1, h2⟩ := forL_inv (step := m_impl_combined_L1 m) (fin := fun s1 => s1) (xs := xs) (fun n s => s = tab fun i => if i < n then f i + m * coef xs i else f i) (fun t => t = tab fun i => f i + m * coef xs i)
    (fun n x s hxn hs => by
      subst hs
      have hn := get_lt hxn
      refine .inl ⟨_, ?_, rfl⟩
      unfold m_impl_combined_L1
      rw [getI_some (tab_get (by omega)), Option.bind_some, if_neg (by omega)]
      have hp := mul_rng hm (inR_iff.1 (hx x (List.mem_of_getElem? hxn)))
      have := hf n
      rw [w64_eq (n := m * x) (by omega), w64_eq (by omega), Int.toNat_natCast, tab_set (by omega)]
      congr 2
      unfold tab
      apply List.map_congr_left
      intro i hi
      by_cases h1 : i = n
      · subst h1; rw [if_pos rfl, if_pos (by omega), coef_get hxn]
      · rw [if_neg h1]
        by_cases h2 : i < n
        · rw [if_pos h2, if_pos (by omega)]
        · rw [if_neg h2, if_neg (by omega)])
    (fun s hs => by
      subst hs
      unfold tab
      apply List.map_congr_left
      intro i hi
      by_cases h2 : i < xs.length
      · rw [if_pos h2]
      · rw [if_neg h2, coef_no (by omega)]; omega)
    (s := tab f) (by simp)
  rw [h1, h2]
theorem impl_combined {ts : List Term} {ms : List Int} (h : Lin ts ms) :
    m_impl_combined ts ms = some (Term.mk (lin ts ms Term.Const ts.length) (trim (tab fun i => lin ts ms (fun t => coef t.Coeffs i) ts.length))) := by
  unfold m_impl_combined
  rw [show (10 : Int) = ((10 : Nat) : Int) from rfl, makeI_some (by omega), Option.bind_some, tab_zero]
  obtain ⟨t, h1, h2⟩ := forL_inv (step := m_impl_combined_L0 ms) (fin := fun s0 => (s0.1, s0.2)) (xs := ts) (fun n s => s = (lin ts ms Term.Const n, tab fun i => lin ts ms (fun t => coef t.Coeffs i) n))
    (fun t => t = (lin ts ms Term.Const ts.length, tab fun i => lin ts ms (fun t => coef t.Coeffs i) ts.length))
    (fun n x s hxn hs => by
      subst hs
      have hn := get_lt hxn
      refine .inl ⟨_, ?_, rfl⟩
      unfold m_impl_combined_L0
      have hmn : n < ms.length := by rw [h.2.2.2]; exact hn
      have hm : ms[n]? = some ms[n] := by simp [hmn]
      have hv := h.1 x (List.mem_of_getElem? hxn)
      have hmo := h.2.1 _ (List.mem_of_getElem? hm)
      rw [getI_some hm, Option.bind_some, inner hmo (vT_len hv) (vT_coef hv)
        (fun i => by have := lin_rng h (g := fun t => coef t.Coeffs i) (fun t ht => coef_rng ht i) (n := n) (by have := h.2.2.1; omega); omega), Option.bind_some]
      unfold m_impl_combined_A1
      have hp := mul_rng hmo (const_rng hv)
      have hq := lin_rng h (g := Term.Const) (fun t ht => const_rng ht) (n := n) (by have := h.2.2.1; omega)
      simp only
      rw [w64_eq (n := ms[n] * x.Const) (by omega), w64_eq (by omega)]
      have e : ∀ g : Term → Int, lin ts ms g (n + 1) = lin ts ms g n + ms[n] * g x := by
        intro g
        unfold lin
        rw [show sumN (fun k => coef ms k * g (tAt ts k)) (n + 1) = sumN (fun k => coef ms k * g (tAt ts k)) n + coef ms n * g (tAt ts n) from rfl, coef_get hm]
        unfold tAt
        rw [hxn]; rfl
      simp only [e])
    (fun s hs => hs) rfl
  change (forL (m_impl_combined_L0 ms) (fun s0 => (s0.1, s0.2)) 0 ts (lin ts ms Term.Const 0, tab fun i => lin ts ms (fun t => coef t.Coeffs i) 0)).bind _ = _
  rw [h1, h2, Option.bind_some]
  unfold m_impl_combined_A0
  rw [impl_trimmed (by simp only [tab_len]; omega)]; rfl

/-! ### The specification's sums -/
theorem spec_sum_loop {p q : Term} {a b : Int} (hp : vT p = true) (hq : vT q = true) (ha : mOK a) (hb : mOK b) :
    iter (m_spec_l02Sum_L0 p a q b) ([], 0) = some (tab fun i => a * coef p.Coeffs i + b * coef q.Coeffs i) := by
  have key : ∀ (m n : Nat), n + m = 10 → iter (m_spec_l02Sum_L0 p a q b) ((tab fun i => a * coef p.Coeffs i + b * coef q.Coeffs i).take n, (n : Int)) = some (tab fun i => a * coef p.Coeffs i + b * coef q.Coeffs i) := by
    intro m
    induction m with
    | zero =>
      intro n hn
      obtain rfl : n = 10 := by omega
      exact iter_out rfl
    | succ m ih =>
      intro n hn
      rw [iter_next (s' := ((tab fun i => a * coef p.Coeffs i + b * coef q.Coeffs i).take (n + 1), ((n + 1 : Nat) : Int)))]
      · exact ih (n + 1) (by omega)
      · unfold m_spec_l02Sum_L0
        have h1 := mul_rng ha (coef_rng hp n)
        have h2 := mul_rng hb (coef_rng hq n)
        rw [decide_eq_true (by omega), cond_true, spec_coeff (by omega), Option.bind_some, spec_coeff (by omega), Option.bind_some, capI_some (by simp [tab_len]; omega), Option.bind_some]
        rw [w64_succ (by omega), w64_eq (n := a * coef p.Coeffs n) (by omega), w64_eq (n := b * coef q.Coeffs n) (by omega), w64_eq (by omega), List.take_add_one, tab_get (by omega)]
        rfl
  exact key 10 0 rfl
theorem spec_sum {p q : Term} {a b : Int} (hp : vT p = true) (hq : vT q = true) (ha : mOK a) (hb : mOK b) :
    m_spec_l02Sum p a q b = some (chk (Term.mk (a * p.Const + b * q.Const) (trim (tab fun i => a * coef p.Coeffs i + b * coef q.Coeffs i)))) := by
  unfold m_spec_l02Sum
  rw [spec_sum_loop hp hq ha hb, Option.bind_some]
  unfold m_spec_l02Sum_A0
  have h1 := mul_rng ha (const_rng hp)
  have h2 := mul_rng hb (const_rng hq)
  rw [w64_eq (n := a * p.Const) (by omega), w64_eq (n := b * q.Const) (by omega), w64_eq (by omega), spec_make (by rw [tab_len]; omega)]
  rfl

/-! ### The first functions -/
def fAdd (p q : Term) : Term × Bool := bif vT p && vT q then chk (Term.mk (p.Const + q.Const) (trim (tab fun i => coef p.Coeffs i + coef q.Coeffs i))) else (Term.mk 0 [], false)
theorem one_mul' (x : Int) : (1 : Int) * x = x := Int.one_mul x
theorem spec_add {p q : Term} (hp : cTerm p ≤ 1048576) (hq : cTerm q ≤ 1048576) : m_spec_AddTerms p q = some (fAdd p q) := by
  unfold m_spec_AddTerms fAdd
  rw [spec_is hp, Option.bind_some, spec_is hq, Option.bind_some]
  cases h1 : vT p with
  | false => rfl
  | true =>
    cases h2 : vT q with
    | false => rfl
    | true =>
      unfold m_spec_l02Add
      rw [spec_sum h1 h2 (by unfold mOK; omega) (by unfold mOK; omega)]
      simp only [Int.one_mul]; rfl
theorem impl_add {p q : Term} : m_impl_AddTerms p q = some (fAdd p q) := by
  unfold m_impl_AddTerms fAdd
  rw [impl_valid, Option.bind_some, impl_valid, Option.bind_some]
  cases h1 : vT p with
  | false => rfl
  | true =>
    cases h2 : vT q with
    | false => rfl
    | true =>
      rw [impl_combined ⟨by simp [h1, h2], by simp [mOK], by simp, rfl⟩, Option.bind_some, impl_checked]
      simp [lin, sumN, coef, tAt]
def small (r : Term × Bool) : Prop := cTerm r.1 ≤ 1048576
theorem chk_small (t : Term) : small (chk t) := by
  unfold chk small
  cases h : vT t with
  | false => exact Nat.zero_le _
  | true => have := vT_len h; unfold cTerm; simp only [cond_true]; omega
theorem fAdd_small (p q : Term) : small (fAdd p q) := by
  unfold fAdd
  cases vT p && vT q
  · exact Nat.zero_le _
  · exact chk_small _
end Go.Mod
